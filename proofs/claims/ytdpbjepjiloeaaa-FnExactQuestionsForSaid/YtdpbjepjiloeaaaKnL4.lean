/- The walks of the exact laws on the search: SureIn, QuestionsFor. -/
import Derived.Test.YtdpbjepjiloeaaaSure3
namespace Go.Proofs.Ytdpbjepjiloeaaa
open Go Go.RowKit
open M (nth)

set_option maxHeartbeats 400000 in
theorem FnExactSureIn_w (w : World) (A : Option Addr) (n c : Nat) (xs : List Int) (h : RdI w A n xs) (q : Int) (_hq : (Lit.int .i64 q).wf = true) :
    Calls Try.prog 6 #[.slice A n c, .int .i64 q] w fun e w' => e = .returned (.bool true) ∧ Below w.heap.size w w' := by
  have hbig := h.big
  by_cases hn : 1048576 < n
  · go_enter Try.func6, Try.ntmps6
    go_wp2
    go_ret
    exact ⟨rfl, Below.refl _ _⟩
  · go_enter Try.func6, Try.ntmps6
    go_wp2_with fail
    refine (toIntS_c A n c xs _ h (by omega)).mono ?_
    rintro e w1 ⟨A1, n1, c1, rfl, ho1, hb1⟩
    go_wp2_with fail
    refine (sSureIn_c A1 n1 c1 xs q _ ho1.rd (by have := ho1.1; have := h.len; omega)).mono ?_
    rintro e w2 ⟨rfl, hb2⟩
    have b2 := bt hb1 hb2
    go_wp2_with fail
    refine (toIntS_c A n c xs _ (h.below b2) (by omega)).mono ?_
    rintro e w3 ⟨A2, n2, c2, rfl, ho2, hb3⟩
    go_wp2_with fail
    refine (iSureIn_c A2 n2 c2 _ xs q _ ho2).mono ?_
    rintro e w4 ⟨rfl, hb4⟩
    have b4 := bt b2 (bt hb3 hb4)
    go_wp2_with fail
    refine (toIntS_c A n c xs _ (h.below b4) (by omega)).mono ?_
    rintro e w5 ⟨A4, n4, c4, rfl, ho4, hb5⟩
    go_wp2_with fail
    refine (eqIntS_c A2 A4 n2 c2 n4 c4 xs xs _ ((ho2.below hb4).below hb5).rd ho4.rd).mono ?_
    rintro e w6 ⟨rfl, hq6⟩
    have e5 := M.eqL_refl xs
    go_wp2_with fail
    go_ret
    exact ⟨rfl, bt b4 (bt hb5 (hq6.below _))⟩


set_option maxHeartbeats 400000 in
theorem FnExactQuestionsFor_w (w : World) (A : Option Addr) (n c : Nat) (xs : List Int) (h : RdI w A n xs) :
    Calls Try.prog 8 #[.slice A n c] w fun e w' => e = .returned (.bool true) ∧ Below w.heap.size w w' := by
  have hbig := h.big
  by_cases hn : 1048576 < n
  · go_enter Try.func8, Try.ntmps8
    go_wp2
    go_ret
    exact ⟨rfl, Below.refl _ _⟩
  · go_enter Try.func8, Try.ntmps8
    go_wp2_with fail
    refine (toIntS_c A n c xs _ h (by omega)).mono ?_
    rintro e w1 ⟨A1, n1, c1, rfl, ho1, hb1⟩
    go_wp2_with fail
    refine (sQuestionsFor_c A1 n1 c1 xs _ ho1.rd (by have := ho1.1; have := h.len; omega)).mono ?_
    rintro e w2 ⟨rfl, hb2⟩
    have b2 := bt hb1 hb2
    go_wp2_with fail
    refine (toIntS_c A n c xs _ (h.below b2) (by omega)).mono ?_
    rintro e w3 ⟨A2, n2, c2, rfl, ho2, hb3⟩
    go_wp2_with fail
    refine (iQuestionsFor_c A2 n2 c2 _ xs _ ho2).mono ?_
    rintro e w4 ⟨rfl, hb4⟩
    have b4 := bt b2 (bt hb3 hb4)
    go_wp2_with fail
    refine (toIntS_c A n c xs _ (h.below b4) (by omega)).mono ?_
    rintro e w5 ⟨A4, n4, c4, rfl, ho4, hb5⟩
    go_wp2_with fail
    refine (eqIntS_c A2 A4 n2 c2 n4 c4 xs xs _ ((ho2.below hb4).below hb5).rd ho4.rd).mono ?_
    rintro e w6 ⟨rfl, hq6⟩
    have e5 := M.eqL_refl xs
    go_wp2_with fail
    go_ret
    exact ⟨rfl, bt b4 (bt hb5 (hq6.below _))⟩


end Go.Proofs.Ytdpbjepjiloeaaa
