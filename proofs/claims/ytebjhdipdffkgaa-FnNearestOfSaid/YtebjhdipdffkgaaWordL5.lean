/- The walks of the exact laws on words: WordsOk, LeastFar, NearestOf, SurePast. -/
import Derived.Test.YtebjhdipdffkgaaWNear
namespace Go.Proofs.Ytebjhdipdffkgaa
open Go Go.RowKit
open M (nth)

theorem own_cap {w : World} {b : Nat} {A : Option Addr} {n c : Nat} {xs : List Int} (h : OwnI w b A n c xs) : n ≤ c := by
  rcases h.form with ⟨_, rfl, rfl, _⟩ | ⟨g, rfl, _, _⟩
  · exact Nat.le_refl _
  · exact h.cap.1

set_option maxHeartbeats 400000 in
theorem FnExactWordsOk_w (w : World) (b : Int) (_hb : (Lit.int .i64 b).wf = true) (A : Option Addr) (n c : Nat) (xs : List Int) (h : RdI w A n xs) :
    Calls Try.prog 10 #[.int .i64 b, .slice A n c] w fun e w' => e = .returned (.bool true) ∧ Below w.heap.size w w' := by
  have hbig := h.big
  by_cases hn : 1048576 < n
  · go_enter Try.func10, Try.ntmps10
    go_wp2
    go_ret
    exact ⟨rfl, Below.refl _ _⟩
  · go_enter Try.func10, Try.ntmps10
    go_wp2_with fail
    refine (toIntS_c A n c xs _ h (by omega)).mono ?_
    rintro e w1 ⟨A1, n1, c1, rfl, ho1, hb1⟩
    go_wp2_with fail
    refine (sWordsOk_c A1 n1 c1 xs b _ ho1.rd).mono ?_
    rintro e wq ⟨rfl, hq⟩
    have b2 := Below.quiet hb1 hq
    go_wp2_with fail
    refine (toIntS_c A n c xs _ (h.below b2) (by omega)).mono ?_
    rintro e w3 ⟨A2, n2, c2, rfl, ho2, hb3⟩
    go_wp2_with fail
    refine (iWordsOk_c A2 n2 c2 xs b _ ho2.rd (by have := ho2.1; have := h.len; omega)).mono ?_
    rintro e w4 ⟨rfl, hb4⟩
    have b4 := bt b2 (bt hb3 hb4)
    go_wp2_with fail
    refine (toIntS_c A n c xs _ (h.below b4) (by omega)).mono ?_
    rintro e w5 ⟨A4, n4, c4, rfl, ho4, hb5⟩
    go_wp2_with fail
    refine (eqIntS_c A2 A4 n2 c2 n4 c4 xs xs _ ((ho2.below hb4).below hb5).rd ho4.rd).mono ?_
    rintro e w6 ⟨rfl, hq6⟩
    have e5 := M.eqL_refl xs
    go_wp2_with fail
    go_ret
    exact ⟨rfl, bt b4 (bt hb5 (hq6.below _))⟩

set_option maxHeartbeats 400000 in
theorem FnExactLeastFar_w (w : World) (b : Int) (_hb : (Lit.int .i64 b).wf = true) (A : Option Addr) (n c : Nat) (xs : List Int) (h : RdI w A n xs) :
    Calls Try.prog 12 #[.int .i64 b, .slice A n c] w fun e w' => e = .returned (.bool true) ∧ Below w.heap.size w w' := by
  have hbig := h.big
  by_cases hn : 1048576 < n
  · go_enter Try.func12, Try.ntmps12
    go_wp2
    go_ret
    exact ⟨rfl, Below.refl _ _⟩
  · go_enter Try.func12, Try.ntmps12
    go_wp2_with fail
    refine (toIntS_c A n c xs _ h (by omega)).mono ?_
    rintro e w1 ⟨A1, n1, c1, rfl, ho1, hb1⟩
    go_wp2_with fail
    refine (sLeastFar_c A1 n1 c1 xs b _ ho1.rd).mono ?_
    rintro e wq ⟨rfl, hq⟩
    have b2 := Below.quiet hb1 hq
    go_wp2_with fail
    refine (toIntS_c A n c xs _ (h.below b2) (by omega)).mono ?_
    rintro e w3 ⟨A2, n2, c2, rfl, ho2, hb3⟩
    go_wp2_with fail
    refine (iLeastFar_c A2 n2 c2 xs b _ ho2.rd (by have := ho2.1; have := h.len; omega) (own_cap ho2)).mono ?_
    rintro e w4 ⟨rfl, hb4⟩
    have b4 := bt b2 (bt hb3 hb4)
    go_wp2_with fail
    refine (toIntS_c A n c xs _ (h.below b4) (by omega)).mono ?_
    rintro e w5 ⟨A4, n4, c4, rfl, ho4, hb5⟩
    go_wp2_with fail
    refine (eqIntS_c A2 A4 n2 c2 n4 c4 xs xs _ ((ho2.below hb4).below hb5).rd ho4.rd).mono ?_
    rintro e w6 ⟨rfl, hq6⟩
    have e5 := M.eqL_refl xs
    go_wp2_with fail
    go_ret
    exact ⟨rfl, bt b4 (bt hb5 (hq6.below _))⟩

set_option maxHeartbeats 400000 in
theorem FnExactNearestOf_w (w : World) (b : Int) (_hb : (Lit.int .i64 b).wf = true) (A : Option Addr) (n c : Nat) (xs : List Int) (h : RdI w A n xs) (a : Int) (_ha : (Lit.int .i64 a).wf = true) :
    Calls Try.prog 14 #[.int .i64 b, .slice A n c, .int .i64 a] w fun e w' => e = .returned (.bool true) ∧ Below w.heap.size w w' := by
  have hbig := h.big
  by_cases hn : 1048576 < n
  · go_enter Try.func14, Try.ntmps14
    go_wp2
    go_ret
    exact ⟨rfl, Below.refl _ _⟩
  · go_enter Try.func14, Try.ntmps14
    go_wp2_with fail
    refine (toIntS_c A n c xs _ h (by omega)).mono ?_
    rintro e w1 ⟨A1, n1, c1, rfl, ho1, hb1⟩
    go_wp2_with fail
    refine (sNearestOf_c A1 n1 c1 xs b a _ ho1.rd).mono ?_
    rintro e wq ⟨rfl, hq⟩
    have b2 := Below.quiet hb1 hq
    go_wp2_with fail
    refine (toIntS_c A n c xs _ (h.below b2) (by omega)).mono ?_
    rintro e w3 ⟨A2, n2, c2, rfl, ho2, hb3⟩
    go_wp2_with fail
    refine (iNearestOf_c A2 n2 c2 xs b a _ ho2.rd (by have := ho2.1; have := h.len; omega)).mono ?_
    rintro e w4 ⟨rfl, hb4⟩
    have b4 := bt b2 (bt hb3 hb4)
    go_wp2_with fail
    refine (toIntS_c A n c xs _ (h.below b4) (by omega)).mono ?_
    rintro e w5 ⟨A4, n4, c4, rfl, ho4, hb5⟩
    go_wp2_with fail
    refine (eqIntS_c A2 A4 n2 c2 n4 c4 xs xs _ ((ho2.below hb4).below hb5).rd ho4.rd).mono ?_
    rintro e w6 ⟨rfl, hq6⟩
    have e5 := M.eqL_refl xs
    go_wp2_with fail
    go_ret
    exact ⟨rfl, bt b4 (bt hb5 (hq6.below _))⟩

set_option maxHeartbeats 400000 in
theorem FnExactSurePast_w (w : World) (b : Int) (_hb : (Lit.int .i64 b).wf = true) (A : Option Addr) (n c : Nat) (xs : List Int) (h : RdI w A n xs) (l : Int) (_hl : (Lit.int .i64 l).wf = true) :
    Calls Try.prog 15 #[.int .i64 b, .slice A n c, .int .i64 l] w fun e w' => e = .returned (.bool true) ∧ Below w.heap.size w w' := by
  have hbig := h.big
  by_cases hn : 1048576 < n
  · go_enter Try.func15, Try.ntmps15
    go_wp2
    go_ret
    exact ⟨rfl, Below.refl _ _⟩
  · go_enter Try.func15, Try.ntmps15
    go_wp2_with fail
    refine (toIntS_c A n c xs _ h (by omega)).mono ?_
    rintro e w1 ⟨A1, n1, c1, rfl, ho1, hb1⟩
    go_wp2_with fail
    refine (sSurePast_c A1 n1 c1 xs b l _ ho1.rd).mono ?_
    rintro e wq ⟨rfl, hq⟩
    have b2 := Below.quiet hb1 hq
    go_wp2_with fail
    refine (toIntS_c A n c xs _ (h.below b2) (by omega)).mono ?_
    rintro e w3 ⟨A2, n2, c2, rfl, ho2, hb3⟩
    go_wp2_with fail
    refine (iSurePast_c A2 n2 c2 xs b l _ ho2.rd (by have := ho2.1; have := h.len; omega)).mono ?_
    rintro e w4 ⟨rfl, hb4⟩
    have b4 := bt b2 (bt hb3 hb4)
    go_wp2_with fail
    refine (toIntS_c A n c xs _ (h.below b4) (by omega)).mono ?_
    rintro e w5 ⟨A4, n4, c4, rfl, ho4, hb5⟩
    go_wp2_with fail
    refine (eqIntS_c A2 A4 n2 c2 n4 c4 xs xs _ ((ho2.below hb4).below hb5).rd ho4.rd).mono ?_
    rintro e w6 ⟨rfl, hq6⟩
    have e5 := M.eqL_refl xs
    go_wp2_with fail
    go_ret
    exact ⟨rfl, bt b4 (bt hb5 (hq6.below _))⟩


end Go.Proofs.Ytebjhdipdffkgaa
