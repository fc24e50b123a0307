/- Contracts of the numbers of ways to choose. -/
import Derived.Test.YtdpbjepjiloeaaaBits
import Derived.Test.YtdpbjepjiloeaaaCom
namespace Go.Proofs.Ytdpbjepjiloeaaa
open Go Go.RowKit
open M (nth)

/-- The number of ways to choose i of so many, reckoned step by step. -/
def M.chg (m : Nat) : Nat → Nat
  | 0 => 1
  | i + 1 => M.chg m i * (m - i) / (i + 1)
def M.ch (m k : Nat) : Nat := if k ≤ m then M.chg m k else 0
/-- The number of ways to choose less than k. -/
def M.atm (m : Nat) : Nat → Nat
  | 0 => 0
  | k + 1 => M.atm m k + M.ch m k
theorem M.chg_le : ∀ m : Nat, m < 11 → ∀ k : Nat, k < 12 → M.chg m k ≤ 252 ∧ M.atm m k ≤ 2 ^ m := by decide +kernel

theorem M.ch_of {m k : Nat} (h : k ≤ m) : M.ch m k = M.chg m k := by unfold M.ch; rw [if_pos h]
theorem M.ch_no {m k : Nat} (h : m < k) : M.ch m k = 0 := by unfold M.ch; rw [if_neg (by omega)]
theorem M.ch_le {m k : Nat} (hm : m < 11) : M.ch m k ≤ 252 := by
  rcases Nat.lt_or_ge m k with h | h
  · rw [M.ch_no h]; omega
  · rw [M.ch_of h]; exact (M.chg_le m hm k (by omega)).1
/-- One step. -/
theorem M.chg_step {m i : Nat} (hm : m < 11) (hi : i ≤ m) : ∃ P : Nat, (M.chg m i : Int) * ((m : Int) - i) = (P : Int) ∧ P ≤ 252 * 10 ∧ Int.tdiv (P : Int) ((i : Int) + 1) = (M.chg m (i + 1) : Nat) := by
  refine ⟨M.chg m i * (m - i), ?_, ?_, ?_⟩
  · rw [Int.natCast_mul]
    congr 1
    omega
  · exact Nat.mul_le_mul (M.chg_le m hm i (by omega)).1 (by omega)
  · rfl

set_option maxHeartbeats 400000 in
theorem choose_c (m k : Nat) (w : World) (hm : m < 11) (hk11 : k < 12) : Calls Try.prog 56 #[.int .i64 m, .int .i64 k] w fun e w' => e = .returned (.int .i64 (M.ch m k : Nat)) ∧ w' = w := by
  go_enter Try.func56, Try.ntmps56
  go_wp2_with fail
  refine (in_c _ _ _ _).mono ?_
  rintro e w1 ⟨rfl, rfl⟩
  cases hk : M.inB k 0 m with
  | false =>
    have hk' := M.inB_false.1 hk
    have Hg := Lib.hid (M.ch_no (m := m) (k := k) (by omega))
    go_wp2
    go_ret
    exact ⟨by rw [Hg.out]; rfl, rfl⟩
  | true =>
    have hk' := M.inB_true.1 hk
    have Hg := Lib.hid (M.ch_of (m := m) (k := k) (by omega))
    have hkm : k ≤ m := by omega
    clear hk hk'
    go_wp2_with fail
    go_loop [5, 12] (fun c i => ∃ j : Nat, j ≤ k ∧ i = .int .i64 j ∧ c = .int .i64 (M.chg m j : Nat)) (fun _ i => k - (intOf i).toNat)
    case atStart => exact ⟨0, Nat.zero_le _, rfl, rfl⟩
    case round =>
      obtain ⟨j, hj, rfl, rfl⟩ := hrel
      have hc := (M.chg_le m hm j (by omega)).1
      by_cases hlt : j < k
      · have hc' := (M.chg_le m hm (j + 1) (by omega)).1
        obtain ⟨P, e1, hP, e2⟩ := M.chg_step (m := m) (i := j) hm (by omega)
        generalize hC' : M.chg m (j + 1) = C' at *
        have HC' := Lib.hid hC'
        clear hC'
        generalize M.chg m j = C at *
        go_wp2
        go_round
        case rel => exact ⟨j + 1, by omega, by go_num, by rw [HC'.out]⟩
        case measure => simp [intOf]; omega
      · obtain rfl : j = k := by omega
        go_wp2
        go_ret
        exact ⟨by rw [Hg.out]; rfl, rfl⟩

set_option maxHeartbeats 400000 in
theorem atMost_c (m k : Nat) (w : World) (hm : m < 11) (hk : k < 11) : Calls Try.prog 40 #[.int .i64 m, .int .i64 k] w fun e w' => e = .returned (.int .i64 (M.atm m (k + 1) : Nat)) ∧ w' = w := by
  go_enter Try.func40, Try.ntmps40
  go_wp2_with fail
  go_loopw [5, 6] (fun c i wr => ∃ j : Nat, j ≤ k + 1 ∧ i = .int .i64 j ∧ c = .int .i64 (M.atm m j : Nat) ∧ wr = w) (fun _ i _ => k + 1 - (intOf i).toNat)
  case atStart => exact ⟨0, Nat.zero_le _, rfl, rfl, rfl⟩
  case round =>
    obtain ⟨j, hj, rfl, rfl, rfl⟩ := hrel
    have hp : (2 : Nat) ^ m ≤ 2 ^ 10 := Nat.pow_le_pow_right (by omega) (by omega)
    have hc := (M.chg_le m hm j (by omega)).2
    by_cases hlt : j ≤ k
    · have hch := M.ch_le (m := m) (k := j) hm
      have Hs := Lib.hid (show M.atm m (j + 1) = M.atm m j + M.ch m j from rfl)
      go_wp2_with fail
      refine (choose_c m j _ hm (by omega)).mono ?_
      rintro e w1 ⟨rfl, rfl⟩
      go_wp2
      go_roundw
      case rel => exact ⟨j + 1, by omega, by go_num, by rw [Hs.out]; rfl, by first | rfl | trivial⟩
      case measure => simp [intOf]; omega
    · obtain rfl : j = k + 1 := by omega
      go_wp2
      go_ret
      exact ⟨rfl, rfl⟩

theorem M.atm_stop {m k : Nat} (h : m < k) : ∀ d, M.atm m (k + d) = M.atm m k
  | 0 => rfl
  | d + 1 => by
    show M.atm m (k + d) + M.ch m (k + d) = _
    rw [M.ch_no (by omega), M.atm_stop h d]
    rfl

set_option maxHeartbeats 400000 in
theorem l5Choices_c (m k : Nat) (w : World) (hm : m < 11) : Calls Try.prog 55 #[.int .i64 m, .int .i64 k] w fun e w' => e = .returned (.int .i64 (M.atm m (k + 1) : Nat)) ∧ Quiet w w' := by
  go_enter Try.func55, Try.ntmps55
  go_wp2_with fail
  go_loopw [5, 6, 7] (fun n c i wr => ∃ j : Nat, j ≤ k + 1 ∧ j ≤ m + 1 ∧ i = .int .i64 j ∧ n = .int .i64 (M.atm m j : Nat) ∧ c = .int .i64 (M.chg m j : Nat) ∧ Quiet w wr) (fun _ _ i _ => k + 1 - (intOf i).toNat)
  case atStart => exact ⟨0, Nat.zero_le _, Nat.zero_le _, rfl, rfl, rfl, Quiet.refl _⟩
  case round =>
    obtain ⟨j, hj, hjm, rfl, rfl, rfl, hq⟩ := hrel
    have hp : (2 : Nat) ^ m ≤ 2 ^ 10 := Nat.pow_le_pow_right (by omega) (by omega)
    have hc := (M.chg_le m hm j (by omega)).1
    have hc2 := (M.chg_le m hm j (by omega)).2
    by_cases hlt : j ≤ k ∧ j ≤ m
    · obtain ⟨hlk, hlm⟩ := hlt
      obtain ⟨P, e1, hP, e2⟩ := M.chg_step (m := m) (i := j) hm hlm
      have Hs := Lib.hid (show M.atm m (j + 1) = M.atm m j + M.chg m j by rw [← M.ch_of hlm]; rfl)
      have hc' := (M.chg_le m hm (j + 1) (by omega)).1
      generalize hC' : M.chg m (j + 1) = C' at *
      have HC' := Lib.hid hC'
      clear hC'
      generalize M.chg m j = C at *
      go_wp2
      go_roundw
      case rel => exact ⟨j + 1, by omega, by omega, by go_num, by rw [Hs.out]; rfl, by rw [HC'.out], hq⟩
      case measure => simp [intOf]; omega
    · by_cases hlk : j ≤ k
      · have hlm : ¬ j ≤ m := fun h => hlt ⟨hlk, h⟩
        have Hg := Lib.hid (show M.atm m (k + 1) = M.atm m j by
          have := M.atm_stop (m := m) (k := j) (by omega) (k + 1 - j)
          rwa [show j + (k + 1 - j) = k + 1 by omega] at this)
        go_wp2
        go_ret
        exact ⟨by rw [Hg.out]; rfl, hq⟩
      · obtain rfl : j = k + 1 := by omega
        go_wp2
        go_ret
        exact ⟨rfl, hq⟩

end Go.Proofs.Ytdpbjepjiloeaaa
