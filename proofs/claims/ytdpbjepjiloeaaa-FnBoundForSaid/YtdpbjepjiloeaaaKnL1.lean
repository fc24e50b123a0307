/- The walk of the law on BoundFor. -/
import Derived.Test.YtdpbjepjiloeaaaBound
import Derived.Test.YtdpbjepjiloeaaaKnD
import Derived.Deep.RegionHeld3
namespace Go.Proofs.Ytdpbjepjiloeaaa
open Go Go.RowKit
open M (nth)

theorem with_hQ {P : Program} {md : Region.Mode} {ops : Array Oper} {Q : Exit → Act → World → Prop} {S : World → Prop} {fuel : Nat} {listed : Array Bool} {a : Act} {w : World}
    (hQ : ∀ (c : List PanicEntry) (a : Act) (d : Nat) (v : Value) (w : World), Q (.panic c) (a.put (some d) v) w → Q (.panic c) a w) (h : (∀ (c : List PanicEntry) (a : Act) (d : Nat) (v : Value) (w : World), Q (.panic c) (a.put (some d) v) w → Q (.panic c) a w) → wpAnyH P md ops Q S fuel listed a w) : wpAnyH P md ops Q S fuel listed a w := h hQ

set_option maxHeartbeats 4000000 in
theorem FnBoundFor_w (w : World) (A : Option Addr) (n c : Nat) (h : RdY w A n c) :
    Calls Try.prog 3 #[.slice A n c] w fun e w' => e = .returned (.bool true) ∧ Below w.heap.size w w' := by
  have hbig := h.big
  by_cases hn : 1048576 < n
  · go_enter Try.func3, Try.ntmps3
    go_wp2
    go_ret
    exact ⟨rfl, Below.refl _ _⟩
  · go_enter Try.func3, Try.ntmps3
    go_wp2_with fail
    refine (DrawBoundFor_c A n c _ h).mono ?_
    rintro e w1 ⟨⟨A', m, c', xs, rfl, hm, ho⟩, hbel⟩
    go_wp2_with fail
    refine (iBoundFor_c A' m c' xs _ ho.rd).mono ?_
    rintro e w2 ⟨rfl, hb2⟩
    have b2 := bt hbel hb2
    go_wp2_with fail
    refine (sBoundFor_c A' m c' xs _ (ho.below hb2).rd (by omega)).mono ?_
    rintro e w3 ⟨rfl, hq3⟩
    have b3 := Below.quiet b2 hq3
    have ho3 := (ho.below hb2).quiet hq3
    cases hok : M.knownB xs with
    | false =>
      rw [M.bound_no hok]
      go_wp2_with fail
      refine (alive_c _).mono ?_
      rintro e w' ⟨rfl, rfl⟩
      go_wp2
      go_ret
      exact ⟨rfl, b3⟩
    | true =>
      rw [M.bound_ok hok]
      rcases M.bound_law (xs := xs) 10 0 with he | ⟨k, he, -, hk, hw1, hw2⟩
      · rw [he]
        go_wp2_with fail
        refine (alive_c _).mono ?_
        rintro e w' ⟨rfl, rfl⟩
        go_wp2
        go_ret
        exact ⟨rfl, b3⟩
      · rw [he]
        clear he
        obtain ⟨hp0, hp1⟩ := M.pow9 (n := k) (by omega)
        have t1 : IntKind.i64.wrap ((2 : Int) ^ k) = 2 ^ k := by rw [IntKind.wrap_i64]; omega
        have t1' : wrap64 ((2 : Int) ^ k) = 2 ^ k := by rw [M.w64]; exact t1
        have hc1 : ∀ W, Below w3.heap.size w3 W → Calls Try.prog 14 #[.slice A' m c', .int .i64 k] W fun e w' => e = .returned (.int .i64 (M.wgt xs k)) ∧ Below w3.heap.size w3 w' := fun W hb => by
          have := iWeightOf_c A' m c' xs k W (ho3.below hb).rd
          rw [M.weight_ok hok (M.inB_true.2 (by omega))] at this
          exact this.mono fun _ _ h => ⟨h.1, bt hb h.2⟩
        have bD : Below w3.heap.size w3 w3.drew := (Quiet.refl w3).drew.below _
        by_cases hk0 : k = 0
        · subst hk0
          have hw3 : M.wgt xs 0 ≤ 1 := by simpa using hw1
          have u1 : IntKind.i64.wrap 1 = 1 := rfl
          clear hw1 hw2
          generalize M.wgt xs 0 = V at *
          go_wp2_with fail
          refine wp_region_held_drew (S := fun W => Below w3.heap.size w3 W) (by kernel_rfl) bD (fun hHeld => ?_)
          refine with_hQ (fun _ _ _ _ _ h => h) (fun hQ => ?_)
          refine wpAnyH_take (i := 0) (oi := { dst := some 23, op := _, type := _, pos := _, after := _, guard := _ }) (v := ?v0) rfl (by kernel_rfl) (by kernel_rfl) (by kernel_rfl) (fun c v w h => hQ c _ _ _ w h) (Or.inl ⟨by rfl, ?y0⟩) (by assumption) ?r0
          case y0 =>
            intro w hSw
            go_simp
            try with_reducible rfl
          case r0 =>
          simp only [put_lit, List.set]
          refine wpAnyH_take (i := 1) (oi := { dst := some 24, op := _, type := _, pos := _, after := _, guard := _ }) (v := ?v1) rfl (by kernel_rfl) (by kernel_rfl) (by kernel_rfl) (fun c v w h => hQ c _ _ _ w h) (Or.inl ⟨by rfl, ?y1⟩) (by assumption) ?r1
          case y1 =>
            intro w hSw
            go_simp
            try with_reducible rfl
          case r1 =>
          simp only [put_lit, List.set]
          refine wpAnyH_take (i := 3) (oi := { dst := some 26, op := _, type := _, pos := _, after := _, guard := _ }) (v := ?v3) rfl (by kernel_rfl) (by kernel_rfl) (by kernel_rfl) (fun c v w h => hQ c _ _ _ w h) (Or.inl ⟨by rfl, ?y3⟩) (by assumption) ?r3
          case y3 =>
            intro w hSw
            go_simp
            try with_reducible rfl
          case r3 =>
          simp only [put_lit, List.set]
          refine wpAnyH_take (i := 4) (oi := { dst := some 27, op := _, type := _, pos := _, after := _, guard := _ }) (v := ?v4) rfl (by kernel_rfl) (by kernel_rfl) (by kernel_rfl) (fun c v w h => hQ c _ _ _ w h) (Or.inl ⟨by rfl, ?y4⟩) (by assumption) ?r4
          case y4 =>
            intro w hSw
            go_simp
            try with_reducible rfl
          case r4 =>
          simp only [put_lit, List.set]
          refine wpAnyH_ready (rs := [2]) (by kernel_rfl) (by simp) ?_
          refine AllReadyH.cons (o := { dst := some 25, op := _, type := _, pos := _, after := _, guard := _ }) rfl (fun K hK => ?_) AllReadyH.nil
          go_simp
          refine (hc1 _ (by assumption)).mono ?_
          rintro e w' ⟨rfl, hb⟩
          dsimp only
          refine hK.out _ _ ?_ (fun hHeld2 => ?_)
          · exact hb
          clear hK K
          refine wpAnyH_take (i := 5) (oi := { dst := some 28, op := _, type := _, pos := _, after := _, guard := _ }) (v := ?v5) rfl (by kernel_rfl) (by kernel_rfl) (by kernel_rfl) (fun c v w h => hQ c _ _ _ w h) (Or.inl ⟨by rfl, ?y5⟩) (by assumption) ?r5
          case y5 =>
            intro w hSw
            go_simp
            try with_reducible rfl
          case r5 =>
          simp only [put_lit, List.set]
          refine wpAnyH_take (i := 6) (oi := { dst := some 29, op := _, type := _, pos := _, after := _, guard := _ }) (v := ?v6) rfl (by kernel_rfl) (by kernel_rfl) (by kernel_rfl) (fun c v w h => hQ c _ _ _ w h) (Or.inl ⟨by rfl, ?y6⟩) (by assumption) ?r6
          case y6 =>
            intro w hSw
            go_simp
            try with_reducible rfl
          case r6 =>
          simp only [put_lit, List.set]
          refine wpAnyH_take (i := 7) (oi := { dst := some 30, op := _, type := _, pos := _, after := _, guard := _ }) (v := ?v7) rfl (by kernel_rfl) (by kernel_rfl) (by kernel_rfl) (fun c v w h => hQ c _ _ _ w h) (Or.inl ⟨by rfl, ?y7⟩) (by assumption) ?r7
          case y7 =>
            intro w hSw
            go_simp
            try with_reducible rfl
          case r7 =>
          simp only [put_lit, List.set]
          refine wpAnyH_take (i := 8) (oi := { dst := some 31, op := _, type := _, pos := _, after := _, guard := _ }) (v := ?v8) rfl (by kernel_rfl) (by kernel_rfl) (by kernel_rfl) (fun c v w h => hQ c _ _ _ w h) (Or.inl ⟨by rfl, ?y8⟩) (by assumption) ?r8
          case y8 =>
            intro w hSw
            go_simp
            try with_reducible rfl
          case r8 =>
          simp only [put_lit, List.set]
          refine wpAnyH_take (i := 9) (oi := { dst := some 32, op := _, type := _, pos := _, after := _, guard := _ }) (v := ?v9) rfl (by kernel_rfl) (by kernel_rfl) (by kernel_rfl) (fun c v w h => hQ c _ _ _ w h) (Or.inl ⟨by rfl, ?y9⟩) (by assumption) ?r9
          case y9 =>
            intro w hSw
            go_simp
            try with_reducible rfl
          case r9 =>
          simp only [put_lit, List.set]
          refine wpAnyH_take (i := 10) (oi := { dst := some 33, op := _, type := _, pos := _, after := _, guard := _ }) (v := undef) rfl (by kernel_rfl) (by kernel_rfl) (by kernel_rfl) (fun c v w h => hQ c _ _ _ w h) (Or.inr ⟨by kernel_rfl, rfl⟩) (by assumption) ?_
          simp only [put_lit, List.set]
          refine wpAnyH_take (i := 11) (oi := { dst := some 34, op := _, type := _, pos := _, after := _, guard := _ }) (v := undef) rfl (by kernel_rfl) (by kernel_rfl) (by kernel_rfl) (fun c v w h => hQ c _ _ _ w h) (Or.inr ⟨by kernel_rfl, rfl⟩) (by assumption) ?_
          simp only [put_lit, List.set]
          refine wpAnyH_take (i := 12) (oi := { dst := some 35, op := _, type := _, pos := _, after := _, guard := _ }) (v := undef) rfl (by kernel_rfl) (by kernel_rfl) (by kernel_rfl) (fun c v w h => hQ c _ _ _ w h) (Or.inr ⟨by kernel_rfl, rfl⟩) (by assumption) ?_
          simp only [put_lit, List.set]
          refine wpAnyH_take (i := 13) (oi := { dst := some 36, op := _, type := _, pos := _, after := _, guard := _ }) (v := undef) rfl (by kernel_rfl) (by kernel_rfl) (by kernel_rfl) (fun c v w h => hQ c _ _ _ w h) (Or.inr ⟨by kernel_rfl, rfl⟩) (by assumption) ?_
          simp only [put_lit, List.set]
          refine wpAnyH_take (i := 14) (oi := { dst := some 37, op := _, type := _, pos := _, after := _, guard := _ }) (v := undef) rfl (by kernel_rfl) (by kernel_rfl) (by kernel_rfl) (fun c v w h => hQ c _ _ _ w h) (Or.inr ⟨by kernel_rfl, rfl⟩) (by assumption) ?_
          simp only [put_lit, List.set]
          refine wpAnyH_take (i := 15) (oi := { dst := some 38, op := _, type := _, pos := _, after := _, guard := _ }) (v := undef) rfl (by kernel_rfl) (by kernel_rfl) (by kernel_rfl) (fun c v w h => hQ c _ _ _ w h) (Or.inr ⟨by kernel_rfl, rfl⟩) (by assumption) ?_
          simp only [put_lit, List.set]
          refine wpAnyH_take (i := 16) (oi := { dst := some 39, op := _, type := _, pos := _, after := _, guard := _ }) (v := undef) rfl (by kernel_rfl) (by kernel_rfl) (by kernel_rfl) (fun c v w h => hQ c _ _ _ w h) (Or.inr ⟨by kernel_rfl, rfl⟩) (by assumption) ?_
          simp only [put_lit, List.set]
          refine wpAnyH_take (i := 17) (oi := { dst := some 40, op := _, type := _, pos := _, after := _, guard := _ }) (v := undef) rfl (by kernel_rfl) (by kernel_rfl) (by kernel_rfl) (fun c v w h => hQ c _ _ _ w h) (Or.inr ⟨by kernel_rfl, rfl⟩) (by assumption) ?_
          simp only [put_lit, List.set]
          refine wpAnyH_take (i := 18) (oi := { dst := some 41, op := _, type := _, pos := _, after := _, guard := _ }) (v := ?v18) rfl (by kernel_rfl) (by kernel_rfl) (by kernel_rfl) (fun c v w h => hQ c _ _ _ w h) (Or.inl ⟨by rfl, ?y18⟩) (by assumption) ?r18
          case y18 =>
            intro w hSw
            go_simp
            try with_reducible rfl
          case r18 =>
          simp only [put_lit, List.set]
          refine wpAnyH_take (i := 19) (oi := { dst := some 42, op := _, type := _, pos := _, after := _, guard := _ }) (v := ?v19) rfl (by kernel_rfl) (by kernel_rfl) (by kernel_rfl) (fun c v w h => hQ c _ _ _ w h) (Or.inl ⟨by rfl, ?y19⟩) (by assumption) ?r19
          case y19 =>
            intro w hSw
            go_simp
            try with_reducible rfl
          case r19 =>
          simp only [put_lit, List.set]
          refine wpAnyH_take (i := 20) (oi := { dst := some 2, op := _, type := _, pos := _, after := _, guard := _ }) (v := ?v20) rfl (by kernel_rfl) (by kernel_rfl) (by kernel_rfl) (fun c v w h => hQ c _ _ _ w h) (Or.inl ⟨by rfl, ?y20⟩) (by assumption) ?r20
          case y20 =>
            intro w hSw
            go_simp
            try with_reducible rfl
          case r20 =>
          simp only [put_lit, List.set]
          refine wpAnyH_done (by kernel_rfl) ?_ _
          all_goals
            go_wp2
            go_ret
            exact ⟨rfl, bt b3 (by assumption)⟩
        · obtain ⟨j, hj⟩ : ∃ j, j = k - 1 := ⟨_, rfl⟩
          have hc2 : ∀ W, Below w3.heap.size w3 W → Calls Try.prog 14 #[.slice A' m c', .int .i64 j] W fun e w' => e = .returned (.int .i64 (M.wgt xs j)) ∧ Below w3.heap.size w3 w' := fun W hb => by
            have := iWeightOf_c A' m c' xs j W (ho3.below hb).rd
            rw [M.weight_ok hok (M.inB_true.2 (by omega))] at this
            exact this.mono fun _ _ h => ⟨h.1, bt hb h.2⟩
          obtain ⟨hp0', hp1'⟩ := M.pow9 (n := j) (by omega)
          have s1 : IntKind.i64.wrap ((2 : Int) ^ j) = 2 ^ j := by rw [IntKind.wrap_i64]; omega
          have s1' : wrap64 ((2 : Int) ^ j) = 2 ^ j := by rw [M.w64]; exact s1
          have hw3 := hw2 j (by omega) (by omega)
          have v1 : IntKind.i64.wrap ((k : Int) - 1) = (j : Int) := by rw [IntKind.wrap_i64]; omega
          have v2 : ((k : Int) == 0) = false := by simp; omega
          have mj : min j 64 = j := by omega
          have mk : min k 64 = k := by omega
          have d1 : decide (M.wgt xs k ≤ 2 ^ k) = true := decide_eq_true hw1
          have d2 : decide ((2 : Int) ^ j < M.wgt xs j) = true := decide_eq_true (Int.not_le.1 hw3)
          have Hj := Lib.hid hj
          clear hw1 hw2 hw3 hj hk0
          go_wp2_with fail
          first
            | go_region_held3 (fun W => Below w3.heap.size w3 W) (first | exact bD | assumption) (first | (go_at_call 14; with_reducible refine (hc1 _ (by assumption)).mono ?_; clear hc1; rintro e w' ⟨rfl, hb⟩) | (go_at_call 14; with_reducible refine (hc2 _ (by assumption)).mono ?_; clear hc2; rintro e w' ⟨rfl, hb⟩))
            | fail
          all_goals
            go_wp2
            go_ret
            exact ⟨rfl, bt b3 (by assumption)⟩

end Go.Proofs.Ytdpbjepjiloeaaa
