/- Contracts of the reference's guesses and wins. -/
import Derived.Test.YtecgbiagpbeklaaGuess
namespace Go.Proofs.Ytecgbiagpbeklaa
open Go Go.RowKit
open M (nth)

namespace M
open Go in
theorem tmod_bit (x k : Nat) : Int.tmod ((x : Int) / 2 ^ k) 2 = bitAt x k := by
  have e : ((x : Int) / 2 ^ k) = ((x / 2 ^ k : Nat) : Int) := by simp
  rw [e, Int.tmod_eq_emod_of_nonneg (Int.natCast_nonneg _)]
  unfold bitAt
  omega
theorem zero_eq (x k : Nat) (hx : x < 128) (hk : k < 7) : (x : Int) - bitAt x k * 2 ^ k = (zeroAt x k : Nat) := by
  have h := (bits_all x hx k hk).2.2.2
  unfold bitAt
  rw [nat_pow, ← Int.natCast_mul]
  omega
theorem pow_le_of_bit {x k : Nat} (h : x / 2 ^ k % 2 = 1) : 2 ^ k ≤ x := by
  rcases Nat.lt_or_ge x (2 ^ k) with hl | hl
  · rw [Nat.div_eq_of_lt hl] at h; omega
  · exact hl
theorem one_eq (x k : Nat) : ((zeroAt x k : Nat) : Int) + 2 ^ k = (oneAt x k : Nat) := by
  unfold oneAt
  rw [nat_pow]
  omega
end M

set_option maxHeartbeats 1000000 in
theorem sGuessOf_c (A : Option Addr) (n c : Nat) (xs : List Int) (p x k : Int) (w : World) (h : RdI w A n xs) :
    Calls Try.prog 20 #[.int .i64 p, .slice A n c, .int .i64 x, .int .i64 k] w fun e w' => e = .returned (.int .i64 (M.guessW p xs x k)) ∧ Quiet w w' := by
  go_enter Try.func20, Try.ntmps20
  go_wp2_with fail
  refine (sLostOk_c A n c xs p _ h).mono ?_
  rintro e w1 ⟨rfl, hq1⟩
  cases hp : M.lostB p xs with
  | false =>
    have Hg := Lib.hid (show M.guessW p xs x k = -2 by simp [M.guessW, hp])
    go_wp2
    go_ret
    exact ⟨by rw [Hg.out]; rfl, hq1⟩
  | true =>
    obtain ⟨q, rfl, hq1', hq7⟩ := M.lost_p hp
    have hw2 : wrap64 ((2 : Int) ^ q) = 2 ^ q := M.wrap_pow q (by omega)
    have hw3 : wrap64 ((2 : Int) ^ q - 1) = 2 ^ q - 1 := by
      have h1 := M.two_pow_le hq7
      have h2 := M.two_pow_pos q
      exact M.wrap_small (by omega) (by omega)
    have hwq : wrap64 ((q : Int) - 1) = (q : Int) - 1 := M.wrap_small (by omega) (by omega)
    have h128 := M.pow7 hq7
    go_wp2_with fail
    refine (l1In_c _ _ _ _).mono ?_
    rintro e w2 ⟨rfl, rfl⟩
    rw [hw2, hw3]
    cases hx : M.inB x 0 (2 ^ q - 1) with
    | false =>
      have Hg := Lib.hid (show M.guessW q xs x k = -2 by simp [M.guessW, hx])
      go_wp2
      go_ret
      exact ⟨by rw [Hg.out]; rfl, hq1⟩
    | true =>
      obtain ⟨x', rfl, hx'⟩ := M.inB_word hx
      go_wp2_with fail
      refine (l1In_c _ _ _ _).mono ?_
      rintro e w2 ⟨rfl, rfl⟩
      cases hk : M.inB k 0 ((q : Int) - 1) with
      | false =>
        have Hg := Lib.hid (show M.guessW q xs x' k = -2 by simp [M.guessW, hk])
        go_wp2
        go_ret
        exact ⟨by rw [Hg.out]; rfl, hq1⟩
      | true =>
        obtain ⟨k', rfl, hk'⟩ := M.inB_nat hk
        have Hg := Lib.hid (M.guess_ok (k := k') hp hx' (by omega))
        have hk7 : k' < 7 := by omega
        have hx1 : x' < 128 := by omega
        have hwk : wrap64 ((2 : Int) ^ k') = 2 ^ k' := M.wrap_pow k' (by omega)
        obtain ⟨hz2, ho2, _⟩ := M.at_lt x' hx1 k' hk7
        have hz : wrap64 ((x' : Int) - wrap64 (((x' : Int) / 2 ^ k').tmod 2 * 2 ^ k')) = (M.zeroAt x' k' : Nat) := by
          have hb := M.zero_eq x' k' hx1 hk7
          have hp7 := M.two_pow_le (show k' ≤ 6 by omega)
          have hp0 := M.two_pow_pos k'
          have h01 : M.bitAt x' k' = 0 ∨ M.bitAt x' k' = 1 := by unfold M.bitAt; omega
          have h2 : wrap64 (M.bitAt x' k' * 2 ^ k') = M.bitAt x' k' * 2 ^ k' := by
            rcases h01 with e | e <;> rw [e] <;> exact M.wrap_small (by omega) (by omega)
          rw [M.tmod_bit, h2, hb]
          exact M.wrap_small (by omega) (by omega)
        have ho : wrap64 (((M.zeroAt x' k' : Nat) : Int) + 2 ^ k') = (M.oneAt x' k' : Nat) := by
          rw [M.one_eq]
          exact M.wrap_small (by omega) (by omega)
        have hG : M.guessN xs x' k' = if M.hasB xs (M.zeroAt x' k') = M.hasB xs (M.oneAt x' k') then -1 else if M.hasB xs (M.zeroAt x' k') = true then 1 else 0 := rfl
        have HG := Lib.hid hG
        clear hG
        go_wp2_with fail
        rw [hz, hwk, ho]
        generalize M.zeroAt x' k' = z at *
        generalize M.oneAt x' k' = o at *
        refine (l8Has_c A n c xs _ _ (h.quiet hq1)).mono ?_
        rintro e w2 ⟨rfl, rfl⟩
        go_wp2_with fail
        refine (l8Has_c A n c xs _ _ (h.quiet hq1)).mono ?_
        rintro e w3 ⟨rfl, rfl⟩
        cases hz' : M.hasB xs (z : Int) <;> cases ho' : M.hasB xs (o : Int) <;> rw [hz', ho'] at HG
        · go_wp2
          go_ret
          exact ⟨by rw [Hg.out, HG.out]; rfl, hq1⟩
        · go_wp2_with fail
          refine (l8Has_c A n c xs _ _ (h.quiet hq1)).mono ?_
          rintro e w4 ⟨rfl, rfl⟩
          rw [hz']
          go_wp2
          go_ret
          exact ⟨by rw [Hg.out, HG.out]; rfl, hq1⟩
        · go_wp2_with fail
          refine (l8Has_c A n c xs _ _ (h.quiet hq1)).mono ?_
          rintro e w4 ⟨rfl, rfl⟩
          rw [hz']
          go_wp2
          go_ret
          exact ⟨by rw [Hg.out, HG.out]; rfl, hq1⟩
        · go_wp2
          go_ret
          exact ⟨by rw [Hg.out, HG.out]; rfl, hq1⟩

set_option maxHeartbeats 1000000 in
theorem sWinsWith_c (A : Option Addr) (n c : Nat) (xs : List Int) (p x : Int) (w : World) (h : RdI w A n xs) :
    Calls Try.prog 26 #[.int .i64 p, .slice A n c, .int .i64 x] w fun e w' => e = .returned (.bool (M.winsW p xs x)) ∧ Quiet w w' := by
  go_enter Try.func26, Try.ntmps26
  go_wp2_with fail
  refine (sLostOk_c A n c xs p _ h).mono ?_
  rintro e w1 ⟨rfl, hq1⟩
  cases hp : M.lostB p xs with
  | false =>
    have Hg := Lib.hid (show M.winsW p xs x = false by simp [M.winsW, hp])
    go_wp2
    go_ret
    exact ⟨by rw [Hg.out]; rfl, hq1⟩
  | true =>
    obtain ⟨q, rfl, hq1', hq7⟩ := M.lost_p hp
    have hw2 : wrap64 ((2 : Int) ^ q) = 2 ^ q := M.wrap_pow q (by omega)
    have hw3 : wrap64 ((2 : Int) ^ q - 1) = 2 ^ q - 1 := by
      have h1 := M.two_pow_le hq7
      have h2 := M.two_pow_pos q
      exact M.wrap_small (by omega) (by omega)
    have h128 := M.pow7 hq7
    go_wp2_with fail
    refine (l1In_c _ _ _ _).mono ?_
    rintro e w2 ⟨rfl, rfl⟩
    rw [hw2, hw3]
    cases hx : M.inB x 0 (2 ^ q - 1) with
    | false =>
      have Hg := Lib.hid (show M.winsW q xs x = false by simp [M.winsW, hx])
      go_wp2
      go_ret
      exact ⟨by rw [Hg.out]; rfl, hq1⟩
    | true =>
      obtain ⟨x', rfl, hx'⟩ := M.inB_word hx
      have Hg := Lib.hid (M.wins_ok hp hx')
      clear hw2 hw3
      go_wp2_with fail
      go_loopw [7, 8] (fun s i wr => ∃ k : Nat, k ≤ q ∧ i = .int .i64 k ∧ s = .bool (M.someN xs x' k) ∧ M.fineN xs x' k = true ∧ Quiet w wr) (fun _ i _ => q - (intOf i).toNat)
      case atStart => exact ⟨0, Nat.zero_le _, rfl, by rw [M.some_zero], M.fine_zero _ _, hq1⟩
      case round =>
        obtain ⟨k, hk, rfl, rfl, hfine, hqr⟩ := hrel
        have Hfine := Lib.hid hfine
        clear hfine
        by_cases hlt : k < q
        · go_wp2_with fail
          refine (sGuessOf_c A n c xs q x' k _ (h.quiet hqr)).mono ?_
          rintro e w2 ⟨rfl, hq2⟩
          rw [M.guess_ok hp hx' hlt]
          have Hs := Lib.hid (M.some_succ xs x' k)
          have Hf := Lib.hid (M.fine_succ (xs := xs) (x := x') (k := k))
          have Hn := Lib.hid (M.wins_no (xs := xs) (x := x') (k := k) (q := q) hlt)
          generalize M.guessN xs x' k = g at *
          have eb := M.tmod_bit x' k
          have hqq := hqr.trans hq2
          cases hs : M.someN xs x' k <;> rw [hs] at Hs
          all_goals
            by_cases hg : g < 0
            · have dg : decide (0 ≤ g) = false := decide_eq_false (by omega)
              have Hsp := Lib.hid (Hs.out.trans (by rw [dg, Bool.or_false]))
              go_wp2
              exact ⟨⟨k + 1, by omega, rfl, by rw [Hsp.out], Hf.out Hfine.out (.inl hg), hqq⟩, by simp only [intOf]; omega⟩
            · have hg' : 0 ≤ g := by omega
              have dg : decide (0 ≤ g) = true := decide_eq_true hg'
              have Hsp := Lib.hid (Hs.out.trans (by rw [dg, Bool.or_true]))
              by_cases hgb : g = M.bitAt x' k
              · have dn : (g != M.bitAt x' k) = false := by simp [hgb]
                go_wp2
                exact ⟨⟨k + 1, by omega, rfl, by rw [Hsp.out], Hf.out Hfine.out (.inr hgb), hqq⟩, by simp only [intOf]; omega⟩
              · have dn : (g != M.bitAt x' k) = true := by simp [hgb]
                have Hno := Lib.hid (Hn.out fun h' => h'.elim (fun h' => absurd h' (by omega)) hgb)
                go_wp2
                go_ret
                exact ⟨by rw [Hg.out, Hno.out]; rfl, hqq⟩
        · obtain rfl : k = q := by omega
          have hwf := M.wins_fine Hfine.out
          go_wp2
          go_ret
          exact ⟨by rw [Hg.out, hwf]; rfl, hqr⟩

set_option maxHeartbeats 1000000 in
theorem sWinsOf_c (A : Option Addr) (n c : Nat) (xs : List Int) (p : Int) (w : World) (h : RdI w A n xs) :
    Calls Try.prog 30 #[.int .i64 p, .slice A n c] w fun e w' => e = .returned (.int .i64 (M.winsOf p xs)) ∧ Quiet w w' := by
  go_enter Try.func30, Try.ntmps30
  go_wp2_with fail
  refine (sLostOk_c A n c xs p _ h).mono ?_
  rintro e w1 ⟨rfl, hq1⟩
  cases hp : M.lostB p xs with
  | false =>
    have Hg := Lib.hid (show M.winsOf p xs = -1 by simp [M.winsOf, hp])
    go_wp2
    go_ret
    exact ⟨by rw [Hg.out]; rfl, hq1⟩
  | true =>
    obtain ⟨q, rfl, hq1', hq7⟩ := M.lost_p hp
    have hw2 : wrap64 ((2 : Int) ^ q) = 2 ^ q := M.wrap_pow q (by omega)
    have h128 := M.pow7 hq7
    have Hg := Lib.hid (M.winsOf_ok hp)
    go_wp2_with fail
    obtain ⟨M0, hM0⟩ : ∃ M0 : Nat, M0 = 2 ^ q := ⟨_, rfl⟩
    have eM : ((2 : Int) ^ q) = (M0 : Int) := by rw [hM0]; simp
    rw [← hM0] at h128
    replace hw2 := hw2.trans eM
    have HM0 := Lib.hid hM0
    clear hM0 eM
    go_loopw [5, 6] (fun s i wr => ∃ m : Nat, m ≤ M0 ∧ i = .int .i64 m ∧ s = .int .i64 (M.wonN xs q m) ∧ Quiet w wr) (fun _ i _ => M0 - (intOf i).toNat)
    case atStart => exact ⟨0, Nat.zero_le _, rfl, rfl, hq1⟩
    case round =>
      obtain ⟨m, hm, rfl, rfl, hqr⟩ := hrel
      have hle := M.wonN_le xs q m
      by_cases hlt : m < M0
      · have Hs := Lib.hid (show M.wonN xs q (m + 1) = M.wonN xs q m + (if M.winsN xs m q = true then 1 else 0) from rfl)
        go_wp2_with fail
        refine (sWinsWith_c A n c xs q m _ (h.quiet hqr)).mono ?_
        rintro e w3 ⟨rfl, hq3⟩
        rw [M.wins_ok hp (by rw [← HM0.out]; exact hlt)]
        have hqq := hqr.trans hq3
        cases hwn : M.winsN xs m q <;> rw [hwn] at Hs
        · go_wp2
          exact ⟨⟨m + 1, by omega, rfl, by rw [Hs.out]; rfl, hqq⟩, by simp only [intOf]; omega⟩
        · go_wp2
          exact ⟨⟨m + 1, by omega, rfl, by rw [Hs.out]; rfl, hqq⟩, by simp only [intOf]; omega⟩
      · obtain rfl : m = M0 := by omega
        go_wp2
        go_ret
        exact ⟨by rw [Hg.out, ← HM0.out]; rfl, hqr⟩

theorem l8Turned_c (x k : Nat) (w : World) (hx : x < 128) (hk : k < 7) :
    Calls Try.prog 49 #[.int .i64 x, .int .i64 k] w fun e w' => e = .returned (.int .i64 (M.flipAt x k : Nat)) ∧ w' = w := by
  have hwk : wrap64 ((2 : Int) ^ k) = 2 ^ k := M.wrap_pow k (by omega)
  have e1 := M.tmod_bit x k
  have h6 := M.two_pow_le (show k ≤ 6 by omega)
  have h0 := M.two_pow_pos k
  have h00 := M.pow_le_of_bit (x := x) (k := k)
  rcases Nat.mod_two_eq_zero_or_one (x / 2 ^ k) with hm | hm
  · have Hf := Lib.hid (show (M.flipAt x k : Int) = x + 2 ^ k by unfold M.flipAt; rw [hm, M.nat_pow]; rfl)
    have eb : (M.bitAt x k == 1) = false := by unfold M.bitAt; rw [hm]; rfl
    have hw : wrap64 ((x : Int) + 2 ^ k) = x + 2 ^ k := M.wrap_small (by omega) (by omega)
    go_enter Try.func49, Try.ntmps49
    go_wp2
    go_ret
    exact ⟨by rw [Hf.out, ← hw]; rfl, rfl⟩
  · have Hf := Lib.hid (show (M.flipAt x k : Int) = x - 2 ^ k by
      have := h00 hm
      unfold M.flipAt; rw [hm, M.nat_pow, if_pos rfl]; omega)
    have eb : (M.bitAt x k == 1) = true := by unfold M.bitAt; rw [hm]; rfl
    have hp := h00 hm
    have hw : wrap64 ((x : Int) - 2 ^ k) = x - 2 ^ k := M.wrap_small (by rw [M.nat_pow]; omega) (by omega)
    go_enter Try.func49, Try.ntmps49
    go_wp2
    go_ret
    exact ⟨by rw [Hf.out, ← hw]; rfl, rfl⟩

set_option maxHeartbeats 1000000 in
theorem sCoverOk_c (A : Option Addr) (n c : Nat) (xs : List Int) (p : Int) (w : World) (h : RdI w A n xs) :
    Calls Try.prog 23 #[.int .i64 p, .slice A n c] w fun e w' => e = .returned (.bool (M.coverW p xs)) ∧ Quiet w w' := by
  go_enter Try.func23, Try.ntmps23
  go_wp2_with fail
  refine (sLostOk_c A n c xs p _ h).mono ?_
  rintro e w1 ⟨rfl, hq1⟩
  cases hp : M.lostB p xs with
  | false =>
    have Hg := Lib.hid (show M.coverW p xs = false by simp [M.coverW, hp])
    go_wp2
    go_ret
    exact ⟨by rw [Hg.out]; rfl, hq1⟩
  | true =>
    obtain ⟨q, rfl, hq1', hq7⟩ := M.lost_p hp
    have hw2 : wrap64 ((2 : Int) ^ q) = 2 ^ q := M.wrap_pow q (by omega)
    have h128 := M.pow7 hq7
    have Hg := Lib.hid (M.cover_ok hp)
    go_wp2_with fail
    obtain ⟨M0, hM0⟩ : ∃ M0 : Nat, M0 = 2 ^ q := ⟨_, rfl⟩
    have eM : ((2 : Int) ^ q) = (M0 : Int) := by rw [hM0]; simp
    rw [← hM0] at h128
    replace hw2 := hw2.trans eM
    have HM0 := Lib.hid hM0
    clear hM0 eM
    go_loopw [5] (fun i wr => ∃ m : Nat, m ≤ M0 ∧ i = .int .i64 m ∧ (Hid (∀ x, x < m → M.reachN xs x q = true)) ∧ Quiet w wr) (fun i _ => M0 - (intOf i).toNat)
    case atStart => exact ⟨0, Nat.zero_le _, rfl, Lib.hid fun x hx => absurd hx (by omega), hq1⟩
    case round =>
      obtain ⟨m, hm, rfl, Hall, hqr⟩ := hrel
      by_cases hlt : m < M0
      · go_wp2_with fail
        refine (l8Has_c A n c xs _ _ (h.quiet hqr)).mono ?_
        rintro e w2 ⟨rfl, rfl⟩
        go_wp2_with fail
        go_loopw [6, 7] (fun r i ws => ∃ k : Nat, k ≤ q ∧ i = .int .i64 k ∧ r = .bool (M.reachN xs m k) ∧ Quiet w ws) (fun _ i _ => q - (intOf i).toNat)
        case atStart => exact ⟨0, Nat.zero_le _, rfl, by rw [M.reach_zero], hqr⟩
        case round =>
          obtain ⟨k, hk, rfl, rfl, hqs⟩ := hrel
          have Hr := Lib.hid (M.reach_succ xs m k)
          by_cases hkq : k < q
          · cases hr : M.reachN xs m k <;> rw [hr] at Hr
            · go_wp2_with fail
              refine (l8Turned_c m k _ (by omega) (by omega)).mono ?_
              rintro e w2 ⟨rfl, rfl⟩
              go_wp2_with fail
              refine (l8Has_c A n c xs _ _ (h.quiet hqs)).mono ?_
              rintro e w2 ⟨rfl, rfl⟩
              go_wp2
              exact ⟨⟨k + 1, by omega, rfl, by rw [Hr.out, Bool.false_or], hqs⟩, by simp only [intOf]; omega⟩
            · go_wp2
              exact ⟨⟨k + 1, by omega, rfl, by rw [Hr.out, Bool.true_or], hqs⟩, by simp only [intOf]; omega⟩
          · obtain rfl : k = q := by omega
            cases hr : M.reachN xs m k
            · have Hno := Lib.hid (M.cover_no (HM0.out ▸ hlt) hr)
              go_wp2
              go_ret
              exact ⟨by rw [Hg.out, Hno.out]; rfl, hqs⟩
            · go_wp2
              exact ⟨⟨m + 1, by omega, rfl, Lib.hid fun x hx => by
                by_cases e : x = m
                · subst e; exact hr
                · exact Hall.out x (by omega), hqs⟩, by simp only [intOf]; omega⟩
      · have Hc := Lib.hid (M.cover_yes (xs := xs) (q := q) fun x hx => Hall.out x (by have := HM0.out; omega))
        go_wp2
        go_ret
        exact ⟨by rw [Hg.out, Hc.out]; rfl, hqr⟩

end Go.Proofs.Ytecgbiagpbeklaa
