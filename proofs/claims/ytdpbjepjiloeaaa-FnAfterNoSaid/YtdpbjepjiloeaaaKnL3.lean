/- The walk of the law on AfterYes. -/
import Derived.Test.YtdpbjepjiloeaaaAns
import Derived.Test.YtdpbjepjiloeaaaWgt
import Derived.Test.YtdpbjepjiloeaaaKnD
namespace Go.Proofs.Ytdpbjepjiloeaaa
open Go Go.RowKit
open M (nth)

theorem M.yes_cases (row q : List Int) : (M.splitB row q = false ∧ M.yesL row q = [] ∧ M.noL row q = []) ∨ (M.splitB row q = true ∧ M.knownB (M.yesL row q) = true ∧ M.knownB (M.noL row q) = true ∧ (M.yesL row q).length = row.length ∧ (M.noL row q).length = row.length ∧ M.knownB row = true) := by
  cases h : M.splitB row q with
  | false => exact .inl ⟨rfl, M.yes_no h, M.no_no h⟩
  | true =>
    refine .inr ⟨rfl, ?_, ?_, ?_, ?_, (M.split_parts h).1⟩
    · rw [M.yes_ok h]; exact M.known_conf h
    · rw [M.no_ok h]; exact M.known_conf (M.split_sub h)
    · rw [M.yes_ok h]; exact M.length_conf _ _
    · rw [M.no_ok h]; exact M.length_conf _ _
theorem M.wgt_yes {row q : List Int} (h : M.splitB row q = true) {n : Nat} (hn : n < 9) : M.wgt row (n + 1) = M.wgt (M.yesL row q) n + M.wgt (M.noL row q) n := by
  rw [M.yes_ok h, M.no_ok h]; exact M.wgt_law h hn

set_option maxHeartbeats 1000000 in
theorem FnAfterYes_w (w : World) (A : Option Addr) (n c : Nat) (h : RdY w A n c) (A2 : Option Addr) (n2 c2 : Nat) (h2 : RdY w A2 n2 c2) :
    Calls Try.prog 5 #[.slice A n c, .slice A2 n2 c2] w fun e w' => e = .returned (.bool true) ∧ Below w.heap.size w w' := by
  have hbig := h.big
  have hbig2 := h2.big
  by_cases hn : 1048576 < n
  · go_enter Try.func5, Try.ntmps5
    go_wp2
    go_ret
    exact ⟨rfl, Below.refl _ _⟩
  · by_cases hn2 : 1048576 < n2
    · go_enter Try.func5, Try.ntmps5
      go_wp2
      go_ret
      exact ⟨rfl, Below.refl _ _⟩
    · go_enter Try.func5, Try.ntmps5
      go_wp2_with fail
      refine (DrawAfterYes_c A n c _ h).mono ?_
      rintro e w1 ⟨⟨A', m, c', xs, B, k, d, ys, rfl, hm, hk, ho, ho'⟩, hbel⟩
      go_wp2_with fail
      refine (iAfterYes_c _ _ A' B m c' k d xs ys _ ho ho').mono ?_
      rintro e w3 ⟨AG, nG, cG, rfl, hG, hb3⟩
      have b3 := bt hbel hb3
      go_wp2_with fail
      refine (sAfterYes_c A' B m c' k d xs ys _ (ho.below hb3).rd (ho'.below hb3).rd (by omega)).mono ?_
      rintro e w4 ⟨AW, nW, cW, rfl, hW, hb4⟩
      have b4 := bt b3 hb4
      have hG4 := hG.below hb4
      have e0 := M.eqL_refl (M.yesL xs ys)
      go_wp2_with fail
      refine (sameInts_c AG AW nG cG nW cW _ _ _ hG4.rd hW.rd).mono ?_
      rintro e w5 ⟨rfl, hq5⟩
      rw [e0]
      have b5 := Below.quiet b4 hq5
      have hG5 := hG4.quiet hq5
      have hX5 := ((ho.below hb3).below hb4).quiet hq5
      have hY5 := ((ho'.below hb3).below hb4).quiet hq5
      have hlG := hG.1
      clear hW hG hG4 e0 ho ho'
      rcases M.yes_cases xs ys with ⟨c0, c1, c2'⟩ | ⟨c0, c1, c2', c3, c4, c5⟩
      · rw [c1] at hlG
        obtain rfl : nG = 0 := by simpa using hlG.symm
        go_wp2_with fail
        refine (alive_c _).mono ?_
        rintro e w' ⟨rfl, rfl⟩
        go_wp2
        go_ret
        exact ⟨rfl, b5⟩
      · have k1 := (M.known_parts c1).1
        have hG0 : ((nG : Int) == 0) = false := by simp; omega
        obtain ⟨q, hq9, hq⟩ : ∃ q : Nat, q < 9 ∧ Int.tmod (n2 : Int) 9 = (q : Int) := ⟨n2 % 9, Nat.mod_lt _ (by omega), rfl⟩
        have hq' : (n2 : Int) % 9 = (q : Int) := by rw [← hq, Int.tmod_eq_emod_of_nonneg (by omega)]
        have e1 : 1 + (q : Int) = ((q + 1 : Nat) : Int) := by omega
        have w1 := M.weight_ok (n := q + 1) c5 (M.inB_true.2 (by omega))
        have w2 := M.weight_ok (n := q) c1 (M.inB_true.2 (by omega))
        have w3 := M.weight_ok (n := q) c2' (M.inB_true.2 (by omega))
        have hlaw := M.wgt_yes c0 hq9
        obtain ⟨p1, p2⟩ := M.weight_bnd c1 (n := q) (by omega)
        obtain ⟨p3, p4⟩ := M.weight_bnd c2' (n := q) (by omega)
        go_wp2_with fail
        refine (iKnownOk_c AG nG cG _ _ hG5.rd).mono ?_
        rintro e w6 ⟨rfl, hb6⟩
        rw [c1]
        have b6 := bt b5 hb6
        go_wp2_with fail
        try rw [hq']
        try rw [e1]
        refine (iWeightOf_c A' m c' xs ((q + 1 : Nat) : Int) _ (hX5.below hb6).rd).mono ?_
        rintro e w7 ⟨rfl, hb7⟩
        rw [w1]
        have b7 := bt b6 hb7
        go_wp2_with fail
        refine (iWeightOf_c AG nG cG _ (q : Int) _ ((hG5.below hb6).below hb7).rd).mono ?_
        rintro e w8 ⟨rfl, hb8⟩
        rw [w2]
        have b8 := bt b7 hb8
        go_wp2_with fail
        refine (iAfterNo_c _ _ A' B m c' k d xs ys _ (((hX5.below hb6).below hb7).below hb8) (((hY5.below hb6).below hb7).below hb8)).mono ?_
        rintro e w9 ⟨AN, nN, cN, rfl, hN, hb9⟩
        have b9 := bt b8 hb9
        go_wp2_with fail
        refine (iWeightOf_c AN nN cN _ (q : Int) _ hN.rd).mono ?_
        rintro e w10 ⟨rfl, hb10⟩
        rw [w3]
        have b10 := bt b9 hb10
        try rw [hlaw]
        generalize M.wgt (M.yesL xs ys) q = V1 at *
        generalize M.wgt (M.noL xs ys) q = V2 at *
        go_wp2
        go_ret
        exact ⟨rfl, b10⟩

end Go.Proofs.Ytdpbjepjiloeaaa
