/- The walks of the exact laws on guesses, wins and covers. -/
import Derived.Test.YtecgbiagpbeklaaSGuess
namespace Go.Proofs.Ytecgbiagpbeklaa
open Go Go.RowKit
open M (nth)

set_option maxHeartbeats 400000 in
theorem FnExactGuessOf_w (w : World) (p : Int) (_hp : (Lit.int .i64 p).wf = true) (A : Option Addr) (n c : Nat) (xs : List Int) (h : RdI w A n xs) (x : Int) (_hx : (Lit.int .i64 x).wf = true) (k : Int) (_hk : (Lit.int .i64 k).wf = true) :
    Calls Try.prog 5 #[.int .i64 p, .slice A n c, .int .i64 x, .int .i64 k] w fun e w' => e = .returned (.bool true) ∧ Below w.heap.size w w' := by
  have hbig := h.big
  by_cases hn : 1048576 < n
  · go_enter Try.func5, Try.ntmps5
    go_wp2
    go_ret
    exact ⟨rfl, Below.refl _ _⟩
  · go_enter Try.func5, Try.ntmps5
    go_wp2_with fail
    refine (toIntS_c A n c xs _ h (by omega)).mono ?_
    rintro e w1 ⟨A1, n1, c1, rfl, ho1, hb1⟩
    go_wp2_with fail
    refine (sGuessOf_c A1 n1 c1 xs p x k _ ho1.rd).mono ?_
    rintro e wq ⟨rfl, hq⟩
    have b2 := Below.quiet hb1 hq
    go_wp2_with fail
    refine (toIntS_c A n c xs _ (h.below b2) (by omega)).mono ?_
    rintro e w3 ⟨A2, n2, c2, rfl, ho2, hb3⟩
    go_wp2_with fail
    refine (iGuessOf_c _ A2 n2 c2 xs p x k _ ho2 (by have := ho2.1; have := h.len; omega)).mono ?_
    rintro e w4 ⟨rfl, hb4⟩
    have b4 := bt b2 (bt hb3 hb4)
    go_wp2_with fail
    refine (toIntS_c A n c xs _ (h.below b4) (by omega)).mono ?_
    rintro e w5 ⟨A4, n4, c4, rfl, ho4, hb5⟩
    go_wp2_with fail
    refine (eqIntS_c A2 A4 n2 c2 n4 c4 xs xs _ ((ho2.below hb4).below hb5).rd ho4.rd).mono ?_
    rintro e w6 ⟨rfl, hq6⟩
    have e5 := M.eqL_refl xs
    go_wp2_with fail
    go_ret
    exact ⟨rfl, bt b4 (bt hb5 (hq6.below _))⟩

set_option maxHeartbeats 400000 in
theorem FnExactWinsWith_w (w : World) (p : Int) (_hp : (Lit.int .i64 p).wf = true) (A : Option Addr) (n c : Nat) (xs : List Int) (h : RdI w A n xs) (x : Int) (_hx : (Lit.int .i64 x).wf = true) :
    Calls Try.prog 9 #[.int .i64 p, .slice A n c, .int .i64 x] w fun e w' => e = .returned (.bool true) ∧ Below w.heap.size w w' := by
  have hbig := h.big
  by_cases hn : 1048576 < n
  · go_enter Try.func9, Try.ntmps9
    go_wp2
    go_ret
    exact ⟨rfl, Below.refl _ _⟩
  · go_enter Try.func9, Try.ntmps9
    go_wp2_with fail
    refine (toIntS_c A n c xs _ h (by omega)).mono ?_
    rintro e w1 ⟨A1, n1, c1, rfl, ho1, hb1⟩
    go_wp2_with fail
    refine (sWinsWith_c A1 n1 c1 xs p x _ ho1.rd).mono ?_
    rintro e wq ⟨rfl, hq⟩
    have b2 := Below.quiet hb1 hq
    go_wp2_with fail
    refine (toIntS_c A n c xs _ (h.below b2) (by omega)).mono ?_
    rintro e w3 ⟨A2, n2, c2, rfl, ho2, hb3⟩
    go_wp2_with fail
    refine (iWinsWith_c _ A2 n2 c2 xs p x _ ho2 (by have := ho2.1; have := h.len; omega)).mono ?_
    rintro e w4 ⟨rfl, hb4⟩
    have b4 := bt b2 (bt hb3 hb4)
    go_wp2_with fail
    refine (toIntS_c A n c xs _ (h.below b4) (by omega)).mono ?_
    rintro e w5 ⟨A4, n4, c4, rfl, ho4, hb5⟩
    go_wp2_with fail
    refine (eqIntS_c A2 A4 n2 c2 n4 c4 xs xs _ ((ho2.below hb4).below hb5).rd ho4.rd).mono ?_
    rintro e w6 ⟨rfl, hq6⟩
    have e5 := M.eqL_refl xs
    go_wp2_with fail
    go_ret
    exact ⟨rfl, bt b4 (bt hb5 (hq6.below _))⟩

set_option maxHeartbeats 400000 in
theorem FnExactWinsOf_w (w : World) (p : Int) (_hp : (Lit.int .i64 p).wf = true) (A : Option Addr) (n c : Nat) (xs : List Int) (h : RdI w A n xs) :
    Calls Try.prog 11 #[.int .i64 p, .slice A n c] w fun e w' => e = .returned (.bool true) ∧ Below w.heap.size w w' := by
  have hbig := h.big
  by_cases hn : 1048576 < n
  · go_enter Try.func11, Try.ntmps11
    go_wp2
    go_ret
    exact ⟨rfl, Below.refl _ _⟩
  · go_enter Try.func11, Try.ntmps11
    go_wp2_with fail
    refine (toIntS_c A n c xs _ h (by omega)).mono ?_
    rintro e w1 ⟨A1, n1, c1, rfl, ho1, hb1⟩
    go_wp2_with fail
    refine (sWinsOf_c A1 n1 c1 xs p _ ho1.rd).mono ?_
    rintro e wq ⟨rfl, hq⟩
    have b2 := Below.quiet hb1 hq
    go_wp2_with fail
    refine (toIntS_c A n c xs _ (h.below b2) (by omega)).mono ?_
    rintro e w3 ⟨A2, n2, c2, rfl, ho2, hb3⟩
    go_wp2_with fail
    refine (iWinsOf_c _ A2 n2 c2 xs p _ ho2 (by have := ho2.1; have := h.len; omega)).mono ?_
    rintro e w4 ⟨rfl, hb4⟩
    have b4 := bt b2 (bt hb3 hb4)
    go_wp2_with fail
    refine (toIntS_c A n c xs _ (h.below b4) (by omega)).mono ?_
    rintro e w5 ⟨A4, n4, c4, rfl, ho4, hb5⟩
    go_wp2_with fail
    refine (eqIntS_c A2 A4 n2 c2 n4 c4 xs xs _ ((ho2.below hb4).below hb5).rd ho4.rd).mono ?_
    rintro e w6 ⟨rfl, hq6⟩
    have e5 := M.eqL_refl xs
    go_wp2_with fail
    go_ret
    exact ⟨rfl, bt b4 (bt hb5 (hq6.below _))⟩

set_option maxHeartbeats 400000 in
theorem FnExactCoverOk_w (w : World) (p : Int) (_hp : (Lit.int .i64 p).wf = true) (A : Option Addr) (n c : Nat) (xs : List Int) (h : RdI w A n xs) :
    Calls Try.prog 7 #[.int .i64 p, .slice A n c] w fun e w' => e = .returned (.bool true) ∧ Below w.heap.size w w' := by
  have hbig := h.big
  by_cases hn : 1048576 < n
  · go_enter Try.func7, Try.ntmps7
    go_wp2
    go_ret
    exact ⟨rfl, Below.refl _ _⟩
  · go_enter Try.func7, Try.ntmps7
    go_wp2_with fail
    refine (toIntS_c A n c xs _ h (by omega)).mono ?_
    rintro e w1 ⟨A1, n1, c1, rfl, ho1, hb1⟩
    go_wp2_with fail
    refine (sCoverOk_c A1 n1 c1 xs p _ ho1.rd).mono ?_
    rintro e wq ⟨rfl, hq⟩
    have b2 := Below.quiet hb1 hq
    go_wp2_with fail
    refine (toIntS_c A n c xs _ (h.below b2) (by omega)).mono ?_
    rintro e w3 ⟨A2, n2, c2, rfl, ho2, hb3⟩
    go_wp2_with fail
    refine (iCoverOk_c _ A2 n2 c2 xs p _ ho2 (by have := ho2.1; have := h.len; omega)).mono ?_
    rintro e w4 ⟨rfl, hb4⟩
    have b4 := bt b2 (bt hb3 hb4)
    go_wp2_with fail
    refine (toIntS_c A n c xs _ (h.below b4) (by omega)).mono ?_
    rintro e w5 ⟨A4, n4, c4, rfl, ho4, hb5⟩
    go_wp2_with fail
    refine (eqIntS_c A2 A4 n2 c2 n4 c4 xs xs _ ((ho2.below hb4).below hb5).rd ho4.rd).mono ?_
    rintro e w6 ⟨rfl, hq6⟩
    have e5 := M.eqL_refl xs
    go_wp2_with fail
    go_ret
    exact ⟨rfl, bt b4 (bt hb5 (hq6.below _))⟩

end Go.Proofs.Ytecgbiagpbeklaa
