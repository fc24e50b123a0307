/- Contracts of the numbers of ways to choose. -/
import Derived.Test.YtebjhdipdffkgaaDoorBits
import Derived.Test.YtebjhdipdffkgaaDoorCom
namespace Go.Proofs.YtebjhdipdffkgaaDoor
open Go Go.RowKit
open M (nth)

/-- The number of ways to choose i of so many, reckoned step by step. -/
def M.chg (m : Nat) : Nat → Nat
  | 0 => 1
  | i + 1 => M.chg m i * (m - i) / (i + 1)
def M.ch (m k : Nat) : Nat := if k ≤ m then M.chg m k else 0
/-- The number of ways to choose less than k. -/
def M.atm (m : Nat) : Nat → Nat
  | 0 => 0
  | k + 1 => M.atm m k + M.ch m k
theorem M.chg_le : ∀ m : Nat, m < 11 → ∀ k : Nat, k < 12 → M.chg m k ≤ 252 ∧ M.atm m k ≤ 2 ^ m := by decide +kernel

theorem M.ch_of {m k : Nat} (h : k ≤ m) : M.ch m k = M.chg m k := by unfold M.ch; rw [if_pos h]
theorem M.ch_no {m k : Nat} (h : m < k) : M.ch m k = 0 := by unfold M.ch; rw [if_neg (by omega)]
theorem M.ch_le {m k : Nat} (hm : m < 11) : M.ch m k ≤ 252 := by
  rcases Nat.lt_or_ge m k with h | h
  · rw [M.ch_no h]; omega
  · rw [M.ch_of h]; exact (M.chg_le m hm k (by omega)).1
/-- One step. -/
theorem M.chg_step {m i : Nat} (hm : m < 11) (hi : i ≤ m) : ∃ P : Nat, (M.chg m i : Int) * ((m : Int) - i) = (P : Int) ∧ P ≤ 252 * 10 ∧ Int.tdiv (P : Int) ((i : Int) + 1) = (M.chg m (i + 1) : Nat) := by
  refine ⟨M.chg m i * (m - i), ?_, ?_, ?_⟩
  · rw [Int.natCast_mul]
    congr 1
    omega
  · exact Nat.mul_le_mul (M.chg_le m hm i (by omega)).1 (by omega)
  · rfl



theorem M.atm_stop {m k : Nat} (h : m < k) : ∀ d, M.atm m (k + d) = M.atm m k
  | 0 => rfl
  | d + 1 => by
    show M.atm m (k + d) + M.ch m (k + d) = _
    rw [M.ch_no (by omega), M.atm_stop h d]
    rfl


end Go.Proofs.YtebjhdipdffkgaaDoor
