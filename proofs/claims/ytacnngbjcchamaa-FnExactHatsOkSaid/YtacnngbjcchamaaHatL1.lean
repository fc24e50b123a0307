/- The walks of the laws on HatsOk. -/
import Derived.Test.YtacnngbjcchamaaHats
namespace Go.Proofs.Ytacnngbjcchamaa
open Go Go.RowKit
open M (nth)

set_option maxHeartbeats 400000 in
theorem FnExactHatsOk_w (w : World) (col : Int) (_hc : (Lit.int .i64 col).wf = true) (A : Option Addr) (n c : Nat) (xs : List Int) (h : RdI w A n xs) :
    Calls Try.prog 3 #[.int .i64 col, .slice A n c] w fun e w' => e = .returned (.bool true) ∧ Below w.heap.size w w' := by
  have hbig := h.big
  by_cases hn : 1048576 < n
  · go_enter Try.func3, Try.ntmps3
    go_wp2
    go_ret
    exact ⟨rfl, Below.refl _ _⟩
  · go_enter Try.func3, Try.ntmps3
    go_wp2_with fail
    refine (toIntS_c A n c xs _ h (by omega)).mono ?_
    rintro e w1 ⟨A1, n1, c1, rfl, ho1, hb1⟩
    go_wp2_with fail
    refine (sHatsOk_c A1 n1 c1 xs col _ ho1.rd).mono ?_
    rintro e w' ⟨rfl, rfl⟩
    go_wp2_with fail
    refine (toIntS_c A n c xs _ (h.below hb1) (by omega)).mono ?_
    rintro e w2 ⟨A2, n2, c2, rfl, ho2, hb2⟩
    go_wp2_with fail
    refine (iHatsOk_c A2 n2 c2 xs col _ ho2.rd).mono ?_
    rintro e w3 ⟨rfl, hb3⟩
    go_wp2_with fail
    refine (toIntS_c A n c xs _ (((h.below hb1).below hb2).below hb3) (by omega)).mono ?_
    rintro e w4 ⟨A4, n4, c4, rfl, ho4, hb4⟩
    go_wp2_with fail
    refine (eqIntS_c A2 A4 n2 c2 n4 c4 xs xs _ ((ho2.below hb3).below hb4).rd ho4.rd).mono ?_
    rintro e w5 ⟨rfl, hq5⟩
    have e5 := M.eqL_refl xs
    go_wp2_with fail
    go_ret
    exact ⟨rfl, bt hb1 (bt hb2 (bt hb3 (bt hb4 (hq5.below _))))⟩

end Go.Proofs.Ytacnngbjcchamaa
