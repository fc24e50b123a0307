/- The walks of the plain laws on guesses, wins and covers. -/
import Derived.Test.YtecgbiagpbeklaaLDraw2
namespace Go.Proofs.Ytecgbiagpbeklaa
open Go Go.RowKit
open M (nth)

theorem DrawWinsWith_c (A : Option Addr) (n c : Nat) (w : World) (h : RdY w A n c) : Calls Try.prog 28 #[.slice A n c] w fun e w' => (∃ (pp : Int) (A : Option Addr) (n c : Nat) (xs : List Int) (x : Int), e = .returned (.tuple #[.int .i64 pp, .slice A n c, .int .i64 x]) ∧ n ≤ 200 ∧ OwnI w' w.heap.size A n c xs) ∧ Below w.heap.size w w' := by
  go_enter Try.func28, Try.ntmps28
  go_wp2_with fail
  refine (DrawGuessOf_c A n c _ h).mono ?_
  rintro e w1 ⟨⟨pp, A2, n2, c2, xs, x, k, rfl, h2, ho⟩, hb⟩
  go_wp2
  go_ret3
  exact ⟨⟨_, _, _, _, xs, _, rfl, h2, ho⟩, hb⟩

set_option maxHeartbeats 1000000 in
theorem FnGuessOf_w (w : World) (A : Option Addr) (n c : Nat) (h : RdY w A n c) :
    Calls Try.prog 6 #[.slice A n c] w fun e w' => e = .returned (.bool true) ∧ Below w.heap.size w w' := by
  have hbig := h.big
  by_cases hn : 1048576 < n
  · go_enter Try.func6, Try.ntmps6
    go_wp2
    go_ret
    exact ⟨rfl, Below.refl _ _⟩
  · go_enter Try.func6, Try.ntmps6
    go_wp2_with fail
    refine (DrawGuessOf_c A n c _ h).mono ?_
    rintro e w1 ⟨⟨pp, A1, n1, c1, xs, x, k, rfl, h2, ho1⟩, hb1⟩
    go_wp2_with fail
    refine (iGuessOf_c _ A1 n1 c1 xs pp x k _ ho1 (by omega)).mono ?_
    rintro e w2 ⟨rfl, hb2⟩
    go_wp2_with fail
    refine (sGuessOf_c A1 n1 c1 xs pp x k _ (ho1.below hb2).rd).mono ?_
    rintro e w3 ⟨rfl, hq3⟩
    have b3 := Below.quiet (bt hb1 hb2) hq3
    have ho3 := (ho1.below hb2).quiet hq3
    rcases M.guess_cases (p := pp) (xs := xs) (x := x) (k := k) with he | ⟨q, x', k', rfl, rfl, rfl, hp, hx', hk', hq7, he⟩
    · rw [he]
      go_wp2_with fail
      refine (alive_c _).mono ?_
      rintro e w' ⟨rfl, rfl⟩
      go_wp2
      go_ret
      exact ⟨rfl, b3⟩
    · rw [he]
      have h128 := M.pow7 hq7
      have hf := M.flip_lt q (by omega) x' hx' k' hk'
      have hg := M.guess_in xs x' k'
      have hfl : M.guessW (q : Int) xs (M.flipAt x' k' : Nat) (k' : Int) = M.guessN xs x' k' := by
        rw [M.guess_ok hp hf hk', M.guess_flip xs x' k' (by omega) (by omega)]
      have e1 := M.tmod_bit x' k'
      have hwk : wrap64 ((2 : Int) ^ k') = 2 ^ k' := M.wrap_pow k' (by omega)
      rcases M.turn_cases (x := x') (k := k') (by omega) (by omega) with ⟨eb, hw⟩ | ⟨eb, hw, hw'⟩
      all_goals
        generalize M.guessN xs x' k' = g at *
        go_wp2_with fail
        refine (iGuessOf_c _ A1 n1 c1 xs q (M.flipAt x' k' : Nat) k' _ ho3 (by omega)).mono ?_
        rintro e w4 ⟨rfl, hb4⟩
        rw [hfl]
        go_wp2
        go_ret
        exact ⟨rfl, bt b3 hb4⟩

set_option maxHeartbeats 1000000 in
theorem FnWinsOf_w (w : World) (A : Option Addr) (n c : Nat) (h : RdY w A n c) :
    Calls Try.prog 12 #[.slice A n c] w fun e w' => e = .returned (.bool true) ∧ Below w.heap.size w w' := by
  have hbig := h.big
  by_cases hn : 1048576 < n
  · go_enter Try.func12, Try.ntmps12
    go_wp2
    go_ret
    exact ⟨rfl, Below.refl _ _⟩
  · go_enter Try.func12, Try.ntmps12
    go_wp2_with fail
    refine (DrawWinsOf_c A n c _ h).mono ?_
    rintro e w1 ⟨⟨pp, A1, n1, c1, xs, rfl, h0, h1, h2, ho1⟩, hb1⟩
    go_wp2_with fail
    refine (iWinsOf_c _ A1 n1 c1 xs pp _ ho1 (by omega)).mono ?_
    rintro e w2 ⟨rfl, hb2⟩
    go_wp2_with fail
    refine (sWinsOf_c A1 n1 c1 xs pp _ (ho1.below hb2).rd).mono ?_
    rintro e w3 ⟨rfl, hq3⟩
    have b3 := Below.quiet (bt hb1 hb2) hq3
    have ho3 := (ho1.below hb2).quiet hq3
    cases hp : M.lostB pp xs with
    | false =>
      have Hg : M.winsOf pp xs = -1 := by simp [M.winsOf, hp]
      rw [Hg]
      go_wp2_with fail
      refine (alive_c _).mono ?_
      rintro e w' ⟨rfl, rfl⟩
      go_wp2
      go_ret
      exact ⟨rfl, b3⟩
    | true =>
      obtain ⟨q, rfl, hq1, hq7⟩ := M.lost_p hp
      have h128 := M.pow7 hq7
      have hlen := ho1.1
      have hle := M.won_le (xs := xs) hq7
      have hcv := M.won_cover (xs := xs) hq7 hp
      have hco := M.cover_ok hp
      have hw2 : wrap64 ((2 : Int) ^ q) = 2 ^ q := M.wrap_pow q (by omega)
      rw [M.winsOf_ok hp]
      rw [hlen] at hle hcv
      obtain ⟨M0, hM0⟩ : ∃ M0 : Nat, M0 = 2 ^ q := ⟨_, rfl⟩
      have eM : ((2 : Int) ^ q) = (M0 : Int) := by rw [hM0]; simp
      rw [← hM0] at hle hcv h128 ⊢
      replace hw2 := hw2.trans eM
      have HM0 := Lib.hid hM0
      clear hM0 eM
      have hPn : q * n1 ≤ 7 * 200 := Nat.mul_le_mul hq7 h2
      obtain ⟨P, hP⟩ : ∃ P : Nat, P = q * n1 := ⟨_, rfl⟩
      have eP : (q : Int) * (n1 : Int) = (P : Int) := by rw [hP]; simp
      rw [← hP] at hle hPn
      have HP := Lib.hid hP
      clear hP
      generalize M.wonN xs q M0 = W at *
      go_wp2_with fail
      refine (iCoverOk_c _ A1 n1 c1 xs q _ ho3 (by omega)).mono ?_
      rintro e w4 ⟨rfl, hb4⟩
      rw [hco]
      cases hcn : M.coverN xs q with
      | false =>
        go_wp2
        go_ret
        exact ⟨rfl, bt b3 hb4⟩
      | true =>
        have := hcv hcn
        have e5 : (W : Int) = (M0 : Int) - (n1 : Int) := by omega
        go_wp2
        go_ret
        exact ⟨rfl, bt b3 hb4⟩

set_option maxHeartbeats 1000000 in
theorem FnWinsWith_w (w : World) (A : Option Addr) (n c : Nat) (h : RdY w A n c) :
    Calls Try.prog 10 #[.slice A n c] w fun e w' => e = .returned (.bool true) ∧ Below w.heap.size w w' := by
  have hbig := h.big
  by_cases hn : 1048576 < n
  · go_enter Try.func10, Try.ntmps10
    go_wp2
    go_ret
    exact ⟨rfl, Below.refl _ _⟩
  · go_enter Try.func10, Try.ntmps10
    go_wp2_with fail
    refine (DrawWinsWith_c A n c _ h).mono ?_
    rintro e w1 ⟨⟨pp, A1, n1, c1, xs, x, rfl, h2, ho1⟩, hb1⟩
    go_wp2_with fail
    refine (iWinsWith_c _ A1 n1 c1 xs pp x _ ho1 (by omega)).mono ?_
    rintro e w2 ⟨rfl, hb2⟩
    go_wp2_with fail
    refine (sWinsWith_c A1 n1 c1 xs pp x _ (ho1.below hb2).rd).mono ?_
    rintro e w3 ⟨rfl, hq3⟩
    have b3 := Below.quiet (bt hb1 hb2) hq3
    have ho3 := (ho1.below hb2).quiet hq3
    have hww : ∀ v : Bool, (v != v) = false := by decide
    have hww := hww (M.winsW pp xs x)
    go_wp2_with fail
    refine (sLostOk_c A1 n1 c1 xs pp _ ho3.rd).mono ?_
    rintro e w4 ⟨rfl, hq4⟩
    have b4 := Below.quiet b3 hq4
    have ho4 := ho3.quiet hq4
    cases hp : M.lostB pp xs with
    | false =>
      have Hg : M.winsW pp xs x = false := by simp [M.winsW, hp]
      rw [Hg]
      go_wp2_with fail
      refine (alive_c _).mono ?_
      rintro e w' ⟨rfl, rfl⟩
      go_wp2
      go_ret
      exact ⟨rfl, b4⟩
    | true =>
      obtain ⟨q, rfl, hq1, hq7⟩ := M.lost_p hp
      have h128 := M.pow7 hq7
      have hw2 : wrap64 ((2 : Int) ^ q) = 2 ^ q := M.wrap_pow q (by omega)
      obtain ⟨M0, hM0⟩ : ∃ M0 : Nat, M0 = 2 ^ q := ⟨_, rfl⟩
      have eM : ((2 : Int) ^ q) = (M0 : Int) := by rw [hM0]; simp
      replace hw2 := hw2.trans eM
      rw [← hM0] at h128
      have HM0 := Lib.hid hM0
      have HM := Lib.hid eM
      clear hM0 eM
      cases hx : M.inB x 0 (2 ^ q - 1) with
      | false =>
        have Hg : M.winsW q xs x = false := by simp [M.winsW, hx]
        have hx' := M.inB_false.1 hx
        rw [HM.out] at hx'
        rw [Hg]
        by_cases hneg : x < 0
        · go_wp2_with fail
          refine (alive_c _).mono ?_
          rintro e w' ⟨rfl, rfl⟩
          go_wp2
          go_ret
          exact ⟨rfl, b4⟩
        · have hge : (M0 : Int) ≤ x := by omega
          go_wp2_with fail
          refine (alive_c _).mono ?_
          rintro e w' ⟨rfl, rfl⟩
          go_wp2
          go_ret
          exact ⟨rfl, b4⟩
      | true =>
        obtain ⟨x', rfl, hx'⟩ := M.inB_word hx
        rw [← HM0.out] at hx'
        have hwn : M.winsW (q : Int) xs (x' : Int) = (M.nearN xs x' q && !M.hasB xs (x' : Int)) := by
          rw [M.wins_ok hp (by rw [← HM0.out]; exact hx'), M.wins_near (by omega) hq7]
        rw [hwn]
        clear hwn hww hx
        obtain ⟨ok, hok⟩ : ∃ ok, ok = (M.nearN xs x' q && !M.hasB xs (x' : Int)) := ⟨_, rfl⟩
        rw [← hok]
        have Hok := Lib.hid hok
        clear hok
        have d1 : decide ((x' : Int) < 0) = false := by simp
        have d2 : decide (M0 ≤ x') = false := by simp; omega
        have d3 : decide ((M0 : Int) ≤ (x' : Int)) = false := by simp; omega
        go_wp2_with fail
        rw [hw2]
        clear hw2
        go_loopw [7, 8] (fun r i wr => ∃ k : Nat, k ≤ q ∧ i = .int .i64 k ∧ r = .bool (M.nearN xs x' k) ∧ Quiet w4 wr) (fun _ i _ => q - (intOf i).toNat)
        case atStart => exact ⟨0, Nat.zero_le _, rfl, by rw [M.near_zero], Quiet.refl _⟩
        case round =>
          obtain ⟨k, hk, rfl, rfl, hqr⟩ := hrel
          have hor := ho4.quiet hqr
          by_cases hkq : k < q
          · have Hr := Lib.hid (M.near_succ xs x' k)
            have e1 := M.tmod_bit x' k
            have hwk : wrap64 ((2 : Int) ^ k) = 2 ^ k := M.wrap_pow k (by omega)
            rcases M.turn_cases (x := x') (k := k) (by omega) (by omega) with ⟨eb, hw⟩ | ⟨eb, hw, hw'⟩
            all_goals
              cases hr : M.nearN xs x' k <;> rw [hr] at Hr
              · go_wp2_with fail
                refine (hasInt_c A1 n1 c1 xs _ _ hor.rd).mono ?_
                rintro e w5 ⟨rfl, rfl⟩
                go_wp2
                go_roundw
                case rel => exact ⟨k + 1, by omega, by go_num, by rw [Hr.out, Bool.false_or], hqr⟩
                case measure => simp [intOf]; omega
              · go_wp2
                exact ⟨⟨k + 1, by omega, rfl, by rw [Hr.out, Bool.true_or], hqr⟩, by simp only [intOf]; omega⟩
          · obtain rfl : k = q := by omega
            have hb := Below.quiet b4 hqr
            cases hr : M.nearN xs x' k with
            | false =>
              rw [hr] at Hok
              obtain rfl : ok = false := Hok.out
              go_wp2
              go_ret
              exact ⟨rfl, hb⟩
            | true =>
              rw [hr] at Hok
              go_wp2_with fail
              refine (hasInt_c A1 n1 c1 xs _ _ hor.rd).mono ?_
              rintro e w5 ⟨rfl, rfl⟩
              cases hh : M.hasB xs (x' : Int) <;> rw [hh] at Hok
              all_goals
                first
                  | obtain rfl : ok = true := Hok.out
                  | obtain rfl : ok = false := Hok.out
                go_wp2
                go_ret
                exact ⟨rfl, hb⟩

set_option maxHeartbeats 1000000 in
theorem FnCoverOk_w (w : World) (A : Option Addr) (n c : Nat) (h : RdY w A n c) :
    Calls Try.prog 8 #[.slice A n c] w fun e w' => e = .returned (.bool true) ∧ Below w.heap.size w w' := by
  obtain ⟨i0, hi, hz0, hz1, hz2⟩ := info_parts Try.infoInt
  have hbig := h.big
  by_cases hn : 1048576 < n
  · go_enter Try.func8, Try.ntmps8
    go_wp2
    go_ret
    exact ⟨rfl, Below.refl _ _⟩
  · go_enter Try.func8, Try.ntmps8
    go_wp2_with fail
    refine (DrawCoverOk_c A n c _ h).mono ?_
    rintro e w1 ⟨⟨pp, A1, n1, c1, xs, rfl, h0, h1, h2, ho1⟩, hb1⟩
    go_wp2_with fail
    refine (iCoverOk_c _ A1 n1 c1 xs pp _ ho1 (by omega)).mono ?_
    rintro e w2 ⟨rfl, hb2⟩
    go_wp2_with fail
    refine (sCoverOk_c A1 n1 c1 xs pp _ (ho1.below hb2).rd).mono ?_
    rintro e w3 ⟨rfl, hq3⟩
    have b3 := Below.quiet (bt hb1 hb2) hq3
    have ho3 := (ho1.below hb2).quiet hq3
    have hww : ∀ v : Bool, (v != v) = false := by decide
    have hww := hww (M.coverW pp xs)
    go_wp2_with fail
    refine (sLostOk_c A1 n1 c1 xs pp _ ho3.rd).mono ?_
    rintro e w4 ⟨rfl, hq4⟩
    have b4 := Below.quiet b3 hq4
    have ho4 := ho3.quiet hq4
    cases hp : M.lostB pp xs with
    | false =>
      have Hg : M.coverW pp xs = false := by simp [M.coverW, hp]
      rw [Hg]
      go_wp2_with fail
      refine (alive_c _).mono ?_
      rintro e w' ⟨rfl, rfl⟩
      go_wp2
      go_ret
      exact ⟨rfl, b4⟩
    | true =>
      obtain ⟨q, rfl, hq1, hq7⟩ := M.lost_p hp
      have h128 := M.pow7 hq7
      have hlen := ho1.1
      have hcl := M.cover_le (xs := xs) hq7
      rw [hlen] at hcl
      have hco := M.cover_ok hp
      have hci : M.coverW (q : Int) (M.iota (2 ^ q)) = true := by rw [M.cover_ok (M.lost_iota hq1 hq7), M.cover_iota]
      have hw2 : wrap64 ((2 : Int) ^ q) = 2 ^ q := M.wrap_pow q (by omega)
      obtain ⟨M0, hM0⟩ : ∃ M0 : Nat, M0 = 2 ^ q := ⟨_, rfl⟩
      have eM : ((2 : Int) ^ q) = (M0 : Int) := by rw [hM0]; simp
      rw [← hM0] at h128 hcl hci
      replace hw2 := hw2.trans eM
      have HM0 := Lib.hid hM0
      clear hM0 eM
      clear hww
      rw [hco]
      have hPn : (q + 1) * n1 ≤ 8 * 200 := Nat.mul_le_mul (by omega) h2
      obtain ⟨P, hP⟩ : ∃ P : Nat, P = (q + 1) * n1 := ⟨_, rfl⟩
      have eP : ((q : Int) + 1) * (n1 : Int) = (P : Int) := by rw [hP]; simp
      rw [← hP] at hcl hPn
      have HP := Lib.hid hP
      clear hP
      have hb0 : Below w4.heap.size w4 (w4.alloc (.cells #[] 3)) := (Below.refl _ _).alloc (Nat.le_refl _) _
      have hoz := ownI_lit0 w4 w4.heap.size (Nat.le_refl _)
      have HeP := Lib.hid eP
      clear eP
      go_wp2_with fail
      go_loopw [6, 7] (fun v i wr => ∃ (k : Nat) (B : Option Addr) (m d : Nat), k ≤ M0 ∧ i = .int .i64 k ∧ v = .slice B m d ∧ OwnI wr w4.heap.size B m d (M.iota k) ∧ Below w4.heap.size w4 wr) (fun _ i _ => M0 - (intOf i).toNat)
      case atStart => exact ⟨0, _, _, _, Nat.zero_le _, rfl, rfl, hoz, hb0⟩
      case round =>
        obtain ⟨k, B, m, d, hk, rfl, rfl, hor, hbr⟩ := hrel
        have hm : m = k := by have := hor.1; rw [M.length_iota] at this; exact this.symm
        subst hm
        by_cases hlt : m < M0
        · go_wp2_with (at_builtin; refine wpList_append_own _ rfl _ _ 22 rfl w4.heap.size 3 i0 (.int .i64 0) 1 8 Try.underlying22 hi hz0 hz1 hz2 rfl (by decide) _ _ _ rfl (hor.2.alloc _) ⟨_, 0, none⟩ 1 1 [.int .i64 _] rfl rfl (cell_one_new _ _ _) (by simp [Value.oneCell']) (by unfold maxLen; omega) (by omega) (by have := hbr.size; simp; omega) ?_; intro v' w5 hown5 hgrow5 _)
          obtain ⟨g', cap', rfl, ho5, hg5, hg5'⟩ := OwnI.appended hor.1 hown5
          have hB5 : Below w4.heap.size w4 w5 := (hbr.alloc hbr.size _).grown hgrow5 (by have := hbr.size; simp; omega) (fun j hj => by
            cases B with
            | none => cases hj
            | some ad => cases hj; exact hor.lt.1)
          have Hs := Lib.hid (M.iota_succ m)
          rw [← Hs.out] at ho5
          go_roundw
          case rel => exact ⟨m + 1, _, _, _, by omega, by go_num, rfl, ho5, hB5⟩
          case measure => simp [intOf]; omega
        · obtain rfl : m = M0 := by omega
          have hb := bt b4 hbr
          go_wp2_with fail
          refine (iCoverOk_c _ B m d _ q _ hor (by omega)).mono ?_
          rintro e w5 ⟨rfl, hb5⟩
          rw [hci]
          have eP := HeP.out
          cases hcn : M.coverN xs q with
          | false =>
            go_wp2
            go_ret
            exact ⟨rfl, bt hb hb5⟩
          | true =>
            have hge := hcl hcn
            go_wp2
            go_ret
            exact ⟨rfl, bt hb hb5⟩

end Go.Proofs.Ytecgbiagpbeklaa
