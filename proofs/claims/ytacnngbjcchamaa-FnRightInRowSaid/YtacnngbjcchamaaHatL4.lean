/- The walks of the laws on RightOf and RightInRow. -/
import Derived.Test.YtacnngbjcchamaaHRight
namespace Go.Proofs.Ytacnngbjcchamaa
open Go Go.RowKit
open M (nth)

set_option maxHeartbeats 400000 in
theorem FnExactRightOf_w (w : World) (col : Int) (_hc : (Lit.int .i64 col).wf = true) (A : Option Addr) (n c : Nat) (xs : List Int) (h : RdI w A n xs) :
    Calls Try.prog 9 #[.int .i64 col, .slice A n c] w fun e w' => e = .returned (.bool true) ∧ Below w.heap.size w w' := by
  have hbig := h.big
  by_cases hn : 1048576 < n
  · go_enter Try.func9, Try.ntmps9
    go_wp2
    go_ret
    exact ⟨rfl, Below.refl _ _⟩
  · go_enter Try.func9, Try.ntmps9
    go_wp2_with fail
    refine (toIntS_c A n c xs _ h (by omega)).mono ?_
    rintro e w1 ⟨A1, n1, c1, rfl, ho1, hb1⟩
    go_wp2_with fail
    refine (sRightOf_c _ A1 n1 c1 xs col _ ho1).mono ?_
    rintro e w2 ⟨rfl, hb2⟩
    have b2 := bt hb1 hb2
    go_wp2_with fail
    refine (toIntS_c A n c xs _ (h.below b2) (by omega)).mono ?_
    rintro e w3 ⟨A2, n2, c2, rfl, ho2, hb3⟩
    go_wp2_with fail
    refine (iRightOf_c _ A2 n2 c2 xs col _ ho2).mono ?_
    rintro e w4 ⟨rfl, hb4⟩
    have b4 := bt b2 (bt hb3 hb4)
    go_wp2_with fail
    refine (toIntS_c A n c xs _ (h.below b4) (by omega)).mono ?_
    rintro e w5 ⟨A4, n4, c4, rfl, ho4, hb5⟩
    go_wp2_with fail
    refine (eqIntS_c A2 A4 n2 c2 n4 c4 xs xs _ ((ho2.below hb4).below hb5).rd ho4.rd).mono ?_
    rintro e w6 ⟨rfl, hq6⟩
    have e5 := M.eqL_refl xs
    go_wp2_with fail
    go_ret
    exact ⟨rfl, bt b4 (bt hb5 (hq6.below _))⟩

set_option maxHeartbeats 400000 in
theorem FnExactRightInRow_w (w : World) (col : Int) (_hc : (Lit.int .i64 col).wf = true) (A : Option Addr) (n c : Nat) (xs : List Int) (h : RdI w A n xs) :
    Calls Try.prog 11 #[.int .i64 col, .slice A n c] w fun e w' => e = .returned (.bool true) ∧ Below w.heap.size w w' := by
  have hbig := h.big
  by_cases hn : 1048576 < n
  · go_enter Try.func11, Try.ntmps11
    go_wp2
    go_ret
    exact ⟨rfl, Below.refl _ _⟩
  · go_enter Try.func11, Try.ntmps11
    go_wp2_with fail
    refine (toIntS_c A n c xs _ h (by omega)).mono ?_
    rintro e w1 ⟨A1, n1, c1, rfl, ho1, hb1⟩
    go_wp2_with fail
    refine (sRightInRow_c _ A1 n1 c1 xs col _ ho1).mono ?_
    rintro e w2 ⟨rfl, hb2⟩
    have b2 := bt hb1 hb2
    go_wp2_with fail
    refine (toIntS_c A n c xs _ (h.below b2) (by omega)).mono ?_
    rintro e w3 ⟨A2, n2, c2, rfl, ho2, hb3⟩
    go_wp2_with fail
    refine (iRightInRow_c _ A2 n2 c2 xs col _ ho2).mono ?_
    rintro e w4 ⟨rfl, hb4⟩
    have b4 := bt b2 (bt hb3 hb4)
    go_wp2_with fail
    refine (toIntS_c A n c xs _ (h.below b4) (by omega)).mono ?_
    rintro e w5 ⟨A4, n4, c4, rfl, ho4, hb5⟩
    go_wp2_with fail
    refine (eqIntS_c A2 A4 n2 c2 n4 c4 xs xs _ ((ho2.below hb4).below hb5).rd ho4.rd).mono ?_
    rintro e w6 ⟨rfl, hq6⟩
    have e5 := M.eqL_refl xs
    go_wp2_with fail
    go_ret
    exact ⟨rfl, bt b4 (bt hb5 (hq6.below _))⟩

set_option maxHeartbeats 1000000 in
theorem FnRightOf_w (w : World) (A : Option Addr) (n c : Nat) (h : RdY w A n c) :
    Calls Try.prog 10 #[.slice A n c] w fun e w' => e = .returned (.bool true) ∧ Below w.heap.size w w' := by
  have hbig := h.big
  by_cases hn : 1048576 < n
  · go_enter Try.func10, Try.ntmps10
    go_wp2
    go_ret
    exact ⟨rfl, Below.refl _ _⟩
  · go_enter Try.func10, Try.ntmps10
    go_wp2_with fail
    refine (DrawRightOf_c A n c _ h).mono ?_
    rintro e w1 ⟨⟨col, A1, n1, c1, xs, rfl, h0, h1, h2, ho1⟩, hb1⟩
    go_wp2_with fail
    refine (iRightOf_c _ A1 n1 c1 xs col _ ho1).mono ?_
    rintro e w2 ⟨rfl, hb2⟩
    go_wp2_with fail
    refine (sRightOf_c _ A1 n1 c1 xs col _ (ho1.below hb2)).mono ?_
    rintro e w3 ⟨rfl, hb3⟩
    have b3 := bt hb1 (bt hb2 hb3)
    have ho3 := (ho1.below hb2).below hb3
    clear hb1 hb2 hb3
    cases hok : M.hatsB col xs with
    | false =>
      have hv := M.rightOf_no hok
      rw [hv]
      go_wp2_with fail
      refine (alive_c _).mono ?_
      rintro e w' ⟨rfl, rfl⟩
      go_wp2
      go_ret
      exact ⟨rfl, b3⟩
    | true =>
      obtain ⟨⟨hc1, hc5⟩, ⟨hn1, hn5⟩, hall⟩ := M.hats_iff.1 hok
      rw [ho3.1] at hn1 hn5
      have hv := M.rightOf_cnt hok
      have hfit := M.hats_fits hok
      have hsum := M.hats_sum hok
      have hone := M.cnt_one col (M.sumL xs) hc1 hc5
      rw [ho3.1] at hv
      rw [hv]
      have Hone := Lib.hid hone
      clear hall hv hone
      have hle := M.cnt_le col (M.sumL xs) n1
      go_wp2_with fail
      go_loopw [6, 7] (fun s i wr => ∃ k : Nat, k ≤ n1 ∧ i = .int .i64 k ∧ s = .int .i64 (M.cnt col (M.sumL xs) k) ∧ Quiet w3 wr) (fun _ i _ => n1 - (intOf i).toNat)
      case atStart => exact ⟨0, Nat.zero_le _, rfl, rfl, Quiet.refl _⟩
      case round =>
        obtain ⟨k, hk, rfl, rfl, hq⟩ := hrel
        have hle' := M.cnt_le col (M.sumL xs) k
        by_cases hlt : k < n1
        · have Hc := Lib.hid (M.cnt_succ col (M.sumL xs) k)
          have m1 : Int.tmod (k : Int) col = (k : Int) % col := Int.tmod_eq_emod_of_nonneg (by omega)
          have m2 : Int.tmod (M.sumL xs) col = M.sumL xs % col := Int.tmod_eq_emod_of_nonneg (by omega)
          by_cases he : (k : Int) % col = M.sumL xs % col
          · have he1 : ((k : Int) % col == M.sumL xs % col) = true := by simpa using he
            have He := Lib.hid he
            clear he
            go_wp2_with fail
            go_quiet ((go_at_call 35; exact quiet_l (sumOf_c A1 n1 c1 xs _ ((ho3.rd.quiet hq).quiet ⟨_, rfl⟩) hfit)))
            clear m1 m2
            go_wp2
            go_roundw
            case rel => exact ⟨k + 1, by omega, by go_num, by rw [Hc.out, if_pos He.out]; go_num, hq.drewN _⟩
            case measure => simp [intOf]; omega
          · have he1 : ((k : Int) % col == M.sumL xs % col) = false := by simpa using he
            have He := Lib.hid he
            clear he
            go_wp2_with fail
            go_quiet ((go_at_call 35; exact quiet_l (sumOf_c A1 n1 c1 xs _ ((ho3.rd.quiet hq).quiet ⟨_, rfl⟩) hfit)))
            clear m1 m2
            go_wp2
            go_roundw
            case rel => exact ⟨k + 1, by omega, by go_num, by rw [Hc.out, if_neg He.out]; go_num, hq.drewN _⟩
            case measure => simp [intOf]; omega
        · obtain rfl : k = n1 := by omega
          by_cases hnc : (k : Int) = col
          · have h1c : ((M.cnt col (M.sumL xs) k : Nat) : Int) = 1 := by rw [Hone.out k hnc]; rfl
            have h1b : (((M.cnt col (M.sumL xs) k : Nat) : Int) == 1) = true := by simp [h1c]
            have hnb : ((k : Int) != col) = false := by simp [hnc]
            clear h1c hnc
            go_wp2
            try go_quiet (fail)
            try go_wp2
            go_ret
            exact ⟨rfl, Below.quiet b3 (by first | exact hq | exact hq.drewN _)⟩
          · have hnb : ((k : Int) != col) = true := by simpa using hnc
            clear hnc
            go_wp2
            try go_quiet (fail)
            try go_wp2
            go_ret
            exact ⟨rfl, Below.quiet b3 (by first | exact hq | exact hq.drewN _)⟩

set_option maxHeartbeats 1000000 in
theorem FnRightInRow_w (w : World) (A : Option Addr) (n c : Nat) (h : RdY w A n c) :
    Calls Try.prog 12 #[.slice A n c] w fun e w' => e = .returned (.bool true) ∧ Below w.heap.size w w' := by
  have hbig := h.big
  by_cases hn : 1048576 < n
  · go_enter Try.func12, Try.ntmps12
    go_wp2
    go_ret
    exact ⟨rfl, Below.refl _ _⟩
  · go_enter Try.func12, Try.ntmps12
    go_wp2_with fail
    refine (DrawRightInRow_c A n c _ h).mono ?_
    rintro e w1 ⟨⟨col, A1, n1, c1, xs, rfl, h0, h1, h2, ho1⟩, hb1⟩
    go_wp2_with fail
    refine (iRightInRow_c _ A1 n1 c1 xs col _ ho1).mono ?_
    rintro e w2 ⟨rfl, hb2⟩
    go_wp2_with fail
    refine (sRightInRow_c _ A1 n1 c1 xs col _ (ho1.below hb2)).mono ?_
    rintro e w3 ⟨rfl, hb3⟩
    have b3 := bt hb1 (bt hb2 hb3)
    have ho3 := (ho1.below hb2).below hb3
    clear hb1 hb2 hb3
    cases hok : M.hatsB col xs with
    | false =>
      have hv := M.rightRow_no hok
      rw [hv]
      go_wp2_with fail
      refine (alive_c _).mono ?_
      rintro e w' ⟨rfl, rfl⟩
      go_wp2
      go_ret
      exact ⟨rfl, b3⟩
    | true =>
      obtain ⟨⟨hc1, hc5⟩, ⟨hn1, hn5⟩, hall⟩ := M.hats_iff.1 hok
      rw [ho3.1] at hn1 hn5
      have hv := M.rightRow_val hok
      rw [ho3.1] at hv
      have hfit := M.hats_fits_tail hok
      have hsum := M.hats_sum_tail hok
      obtain ⟨g, rfl, hg0, hg1⟩ := ho3.at0 (by omega)
      have hcap := ho3.cap
      have hx0 := ho3.cell (k := 0) (by omega)
      clear hall
      have t1 : RdI w3 (if c1 = 1 then some ⟨g, 0, none⟩ else some ⟨g, 1, none⟩) (n1 - 1) (xs.drop 1) := by
        by_cases hd : c1 = 1
        · rw [if_pos hd]; exact ⟨by have := ho3.1; simp; omega, by omega, fun h => by omega⟩
        · rw [if_neg hd]; exact ho3.tail 1 (by omega) hd
      generalize xs.drop 1 = ts at *
      have m2 : Int.tmod (M.sumL ts) col = M.sumL ts % col := Int.tmod_eq_emod_of_nonneg (by omega)
      have t1q := fun a => t1.quiet ⟨a, rfl⟩
      have T1 := Lib.hid t1q
      clear t1 t1q
      by_cases he : M.sumL ts % col = nth xs 0
      · rw [if_pos he] at hv
        rw [hv]
        have he1 : (M.sumL ts % col == nth xs 0) = true := by simpa using he
        clear he hv
        by_cases hc : c1 = 1
        all_goals try subst hc
        all_goals
          go_wp2_with fail
          go_quiet ((go_at_call 35; exact quiet_l (sumOf_c _ _ _ ts _ (by first | simpa [hc] using T1.out _ | simpa using T1.out _ | exact to0 (T1.out _) (by omega)) hfit)))
          clear m2
          go_wp2
          try go_quiet (fail)
          try go_wp2
          go_ret
          exact ⟨rfl, Below.quiet b3 (Quiet.drewN (Quiet.refl _) _)⟩
      · rw [if_neg he] at hv
        rw [hv]
        have he1 : (M.sumL ts % col == nth xs 0) = false := by simpa using he
        clear he hv
        by_cases hc : c1 = 1
        all_goals try subst hc
        all_goals
          go_wp2_with fail
          go_quiet ((go_at_call 35; exact quiet_l (sumOf_c _ _ _ ts _ (by first | simpa [hc] using T1.out _ | simpa using T1.out _ | exact to0 (T1.out _) (by omega)) hfit)))
          clear m2
          go_wp2
          try go_quiet (fail)
          try go_wp2
          go_ret
          exact ⟨rb (show (!((n1 : Int) - 1 == (n1 : Int))) = true by simp; omega), Below.quiet b3 (Quiet.drewN (Quiet.refl _) _)⟩

end Go.Proofs.Ytacnngbjcchamaa
