/- The walks of the laws on HatsOk. -/
import Derived.Test.YtacnngbjcchamaaHDraw
namespace Go.Proofs.Ytacnngbjcchamaa
open Go Go.RowKit
open M (nth)

set_option maxHeartbeats 400000 in
theorem FnExactHatsOk_w (w : World) (col : Int) (_hc : (Lit.int .i64 col).wf = true) (A : Option Addr) (n c : Nat) (xs : List Int) (h : RdI w A n xs) :
    Calls Try.prog 3 #[.int .i64 col, .slice A n c] w fun e w' => e = .returned (.bool true) ∧ Below w.heap.size w w' := by
  have hbig := h.big
  by_cases hn : 1048576 < n
  · go_enter Try.func3, Try.ntmps3
    go_wp2
    go_ret
    exact ⟨rfl, Below.refl _ _⟩
  · go_enter Try.func3, Try.ntmps3
    go_wp2_with fail
    refine (toIntS_c A n c xs _ h (by omega)).mono ?_
    rintro e w1 ⟨A1, n1, c1, rfl, ho1, hb1⟩
    go_wp2_with fail
    refine (sHatsOk_c A1 n1 c1 xs col _ ho1.rd).mono ?_
    rintro e w' ⟨rfl, rfl⟩
    go_wp2_with fail
    refine (toIntS_c A n c xs _ (h.below hb1) (by omega)).mono ?_
    rintro e w2 ⟨A2, n2, c2, rfl, ho2, hb2⟩
    go_wp2_with fail
    refine (iHatsOk_c A2 n2 c2 xs col _ ho2.rd).mono ?_
    rintro e w3 ⟨rfl, hb3⟩
    go_wp2_with fail
    refine (toIntS_c A n c xs _ (((h.below hb1).below hb2).below hb3) (by omega)).mono ?_
    rintro e w4 ⟨A4, n4, c4, rfl, ho4, hb4⟩
    go_wp2_with fail
    refine (eqIntS_c A2 A4 n2 c2 n4 c4 xs xs _ ((ho2.below hb3).below hb4).rd ho4.rd).mono ?_
    rintro e w5 ⟨rfl, hq5⟩
    have e5 := M.eqL_refl xs
    go_wp2_with fail
    go_ret
    exact ⟨rfl, bt hb1 (bt hb2 (bt hb3 (bt hb4 (hq5.below _))))⟩

set_option maxHeartbeats 400000 in
theorem FnHatsOk_w (w : World) (A : Option Addr) (n c : Nat) (h : RdY w A n c) :
    Calls Try.prog 4 #[.slice A n c] w fun e w' => e = .returned (.bool true) ∧ Below w.heap.size w w' := by
  have hbig := h.big
  by_cases hn : 1048576 < n
  · go_enter Try.func4, Try.ntmps4
    go_wp2
    go_ret
    exact ⟨rfl, Below.refl _ _⟩
  · go_enter Try.func4, Try.ntmps4
    go_wp2_with fail
    refine (DrawHatsOk_c A n c _ h).mono ?_
    rintro e w1 ⟨⟨col, A1, n1, c1, xs, rfl, h0, h1, h2, ho1⟩, hb1⟩
    go_wp2_with fail
    refine (iHatsOk_c A1 n1 c1 xs col _ ho1.rd).mono ?_
    rintro e w2 ⟨rfl, hb2⟩
    go_wp2_with fail
    refine (sHatsOk_c A1 n1 c1 xs col _ (ho1.below hb2).rd).mono ?_
    rintro e w' ⟨rfl, rfl⟩
    cases hok : M.hatsB col xs with
    | false =>
      go_wp2_with fail
      refine (iHatsOk_c _ 1 1 [0] 1 _ (ownI_lit _ w2.heap.size #[.int .i64 0] 1 [0] (Nat.le_refl _) (by omega) rfl rfl).rd).mono ?_
      rintro e w3 ⟨rfl, hb3⟩
      have e3 : M.hatsB 1 [0] = true := by decide
      go_wp2_with fail
      refine (alive_c _).mono ?_
      rintro e w' ⟨rfl, rfl⟩
      go_wp2
      go_ret
      exact ⟨rfl, bt hb1 (bt hb2 (((Below.refl _ w2).alloc (Nat.le_refl _) _).trans (hb3.mono (by simp))))⟩
    | true =>
      have hx := (ho1.rd).len
      have hmk := mk_run n1 (by omega)
      go_wp2_with fail
      have hb3 : Below w2.heap.size w2 (w2.alloc (.cells (zer n1) 3)) := (Below.refl _ _).alloc (Nat.le_refl _) _
      have ho3 := ownI_zer w2 w2.heap.size n1 (Nat.le_refl _) (by omega)
      refine (iHatsOk_c _ _ _ _ col _ ho3.rd).mono ?_
      rintro e w4 ⟨rfl, hb4⟩
      have e4 : M.hatsB col (List.replicate n1 0) = true := M.hats_zeros hok hx
      go_wp2_with fail
      refine (iHatsOk_c _ 1 1 [0] 1 _ (ownI_lit _ w4.heap.size #[.int .i64 0] 1 [0] (Nat.le_refl _) (by omega) rfl rfl).rd).mono ?_
      rintro e w5 ⟨rfl, hb5⟩
      have e3 : M.hatsB 1 [0] = true := by decide
      go_wp2_with fail
      refine (alive_c _).mono ?_
      rintro e w' ⟨rfl, rfl⟩
      go_wp2
      go_ret
      clear hmk
      exact ⟨rfl, bt hb1 (bt hb2 (bt hb3 (bt hb4 (((Below.refl _ w4).alloc (Nat.le_refl _) _).trans (hb5.mono (by simp))))))⟩

end Go.Proofs.Ytacnngbjcchamaa
