/- Plain lemmas on words of at most seven bits. -/
import Derived.Test.YtebjhdipdffkgaaDoorLMath
import Derived.WalkKit
namespace Go.Proofs.YtebjhdipdffkgaaDoor.M

/-- The word with a 0, with a 1, with the other one at place k. -/
def zeroAt (x k : Nat) : Nat := if x / 2 ^ k % 2 = 1 then x - 2 ^ k else x
def oneAt (x k : Nat) : Nat := zeroAt x k + 2 ^ k
def flipAt (x k : Nat) : Nat := if x / 2 ^ k % 2 = 1 then x - 2 ^ k else x + 2 ^ k
def guessN (xs : List Int) (x k : Nat) : Int :=
  if hasB xs (zeroAt x k) = hasB xs (oneAt x k) then -1 else if hasB xs (zeroAt x k) = true then 1 else 0

theorem bits_all : ∀ x : Nat, x < 128 → ∀ k : Nat, k < 7 → x &&& 2 ^ k = (x / 2 ^ k % 2) * 2 ^ k ∧ x ||| 2 ^ k = oneAt x k ∧ x ^^^ 2 ^ k = flipAt x k ∧ zeroAt x k + (x / 2 ^ k % 2) * 2 ^ k = x := by decide +kernel
theorem at_lt : ∀ x : Nat, x < 128 → ∀ k : Nat, k < 7 → zeroAt x k < 256 ∧ oneAt x k < 256 ∧ flipAt x k < 256 := by decide +kernel
theorem nat_pow (k : Nat) : ((2 : Int) ^ k) = ((2 ^ k : Nat) : Int) := by simp
theorem conv64 (c : Nat) (hc : c < 9223372036854775808) : (BitVec.ofInt 64 (c : Int)).toNat = c := by
  rw [BitVec.ofInt_natCast, BitVec.toNat_ofNat]; exact Nat.mod_eq_of_lt (by omega)
open Go in
theorem bor (a b : Nat) (ha : a < 4611686018427387904) (hb : b < 4611686018427387904) : bits .or .i64 (a : Int) (b : Int) = ((a ||| b : Nat) : Int) := by
  have hx : a ||| b < 2 ^ 62 := Nat.or_lt_two_pow (by omega) (by omega)
  show IntKind.i64.wrap ((BitVec.ofInt 64 (a : Int) ||| BitVec.ofInt 64 (b : Int)).toNat : Int) = _
  rw [BitVec.toNat_or, conv64 a (by omega), conv64 b (by omega), IntKind.wrap_i64]
  omega
open Go in
theorem band (a b : Nat) (ha : a < 4611686018427387904) (hb : b < 4611686018427387904) : bits .and .i64 (a : Int) (b : Int) = ((a &&& b : Nat) : Int) := by
  have hx : a &&& b < 2 ^ 62 := Nat.and_lt_two_pow _ (by omega)
  show IntKind.i64.wrap ((BitVec.ofInt 64 (a : Int) &&& BitVec.ofInt 64 (b : Int)).toNat : Int) = _
  rw [BitVec.toNat_and, conv64 a (by omega), conv64 b (by omega), IntKind.wrap_i64]
  omega
open Go in
theorem bxor (a b : Nat) (ha : a < 4611686018427387904) (hb : b < 4611686018427387904) : bits .xor .i64 (a : Int) (b : Int) = ((a ^^^ b : Nat) : Int) := by
  have hx : a ^^^ b < 2 ^ 62 := Nat.xor_lt_two_pow (by omega) (by omega)
  show IntKind.i64.wrap ((BitVec.ofInt 64 (a : Int) ^^^ BitVec.ofInt 64 (b : Int)).toNat : Int) = _
  rw [BitVec.toNat_xor, conv64 a (by omega), conv64 b (by omega), IntKind.wrap_i64]
  omega
theorem pow128 {k : Nat} (h : k < 7) : 2 ^ k < 128 := by
  have : 2 ^ k ≤ 2 ^ 6 := Nat.pow_le_pow_right (by omega) (by omega)
  omega
open Go in
theorem bor_one (x k : Nat) (hx : x < 128) (hk : k < 7) : bits .or .i64 (x : Int) (2 ^ k) = ((oneAt x k : Nat) : Int) := by
  have hp := pow128 hk
  rw [nat_pow, bor x _ (by omega) (by omega), (bits_all x hx k hk).2.1]
open Go in
theorem bxor_flip (x k : Nat) (hx : x < 128) (hk : k < 7) : bits .xor .i64 (x : Int) (2 ^ k) = ((flipAt x k : Nat) : Int) := by
  have hp := pow128 hk
  rw [nat_pow, bxor x _ (by omega) (by omega), (bits_all x hx k hk).2.2.1]
open Go in
theorem bandnot_zero (x k : Nat) (hx : x < 128) (hk : k < 7) : bits .andNot .i64 (x : Int) (2 ^ k) = ((zeroAt x k : Nat) : Int) := by
  have hp := pow128 hk
  have key : ∀ x : Nat, x < 128 → ∀ k : Nat, k < 7 → (BitVec.ofNat 64 x &&& ~~~ BitVec.ofNat 64 (2 ^ k)).toNat = zeroAt x k := by decide +kernel
  have hz := (at_lt x hx k hk).1
  rw [nat_pow]
  show IntKind.i64.wrap ((BitVec.ofInt 64 (x : Int) &&& ~~~ BitVec.ofInt 64 ((2 ^ k : Nat) : Int)).toNat : Int) = _
  rw [BitVec.ofInt_natCast, BitVec.ofInt_natCast, key x hx k hk, IntKind.wrap_i64]
  omega
def bitAt (x k : Nat) : Int := ((x / 2 ^ k % 2 : Nat) : Int)
open Go in
theorem bit_one (x k : Nat) (hx : x < 128) : bits .and .i64 ((x : Int) / 2 ^ k) 1 = bitAt x k := by
  have h : x / 2 ^ k ≤ x := Nat.div_le_self _ _
  have e : ((x : Int) / 2 ^ k) = ((x / 2 ^ k : Nat) : Int) := by simp
  rw [e, show (1 : Int) = ((1 : Nat) : Int) from rfl, band _ _ (by omega) (by omega), Nat.and_one_is_mod]
  rfl
/-- Is no guess of the first q wrong? Does one of them guess? -/
def fineN (xs : List Int) (x q : Nat) : Bool := decide (∀ k, k < q → guessN xs x k < 0 ∨ guessN xs x k = bitAt x k)
def someN (xs : List Int) (x q : Nat) : Bool := decide (∃ k, k < q ∧ 0 ≤ guessN xs x k)
def winsN (xs : List Int) (x q : Nat) : Bool := fineN xs x q && someN xs x q
theorem some_zero (xs : List Int) (x : Nat) : someN xs x 0 = false := by simp [someN]
theorem fine_zero (xs : List Int) (x : Nat) : fineN xs x 0 = true := by simp [fineN]
theorem some_succ (xs : List Int) (x k : Nat) : someN xs x (k + 1) = (someN xs x k || decide (0 ≤ guessN xs x k)) := by
  unfold someN
  rw [Bool.eq_iff_iff, Bool.or_eq_true, decide_eq_true_eq, decide_eq_true_eq, decide_eq_true_eq]
  constructor
  · rintro ⟨j, hj, h⟩
    by_cases e : j = k
    · subst e; exact .inr h
    · exact .inl ⟨j, by omega, h⟩
  · rintro (⟨j, hj, h⟩ | h)
    · exact ⟨j, by omega, h⟩
    · exact ⟨k, by omega, h⟩
theorem fine_succ {xs : List Int} {x k : Nat} (h : fineN xs x k = true) (hk : guessN xs x k < 0 ∨ guessN xs x k = bitAt x k) : fineN xs x (k + 1) = true := by
  unfold fineN at *
  rw [decide_eq_true_eq] at *
  intro j hj
  by_cases e : j = k
  · subst e; exact hk
  · exact h j (by omega)
theorem wins_no {xs : List Int} {x k q : Nat} (hkq : k < q) (h : ¬ (guessN xs x k < 0 ∨ guessN xs x k = bitAt x k)) : winsN xs x q = false := by
  have : fineN xs x q = false := by
    unfold fineN
    rw [decide_eq_false_iff_not]
    exact fun a => h (a k hkq)
  simp [winsN, this]
theorem wins_fine {xs : List Int} {x q : Nat} (h : fineN xs x q = true) : winsN xs x q = someN xs x q := by simp [winsN, h]

/-- Is a word lost, or does it become lost by one of the first k bits? -/
def reachN (xs : List Int) (x k : Nat) : Bool := hasB xs (x : Int) || decide (∃ j, j < k ∧ hasB xs (flipAt x j : Int) = true)
def coverN (xs : List Int) (q : Nat) : Bool := decide (∀ x : Nat, x < 2 ^ q → reachN xs x q = true)
theorem reach_zero (xs : List Int) (x : Nat) : reachN xs x 0 = hasB xs (x : Int) := by simp [reachN]
theorem reach_succ (xs : List Int) (x k : Nat) : reachN xs x (k + 1) = (reachN xs x k || hasB xs (flipAt x k : Int)) := by
  unfold reachN
  rw [Bool.or_assoc]
  congr 1
  rw [Bool.eq_iff_iff, Bool.or_eq_true, decide_eq_true_eq, decide_eq_true_eq]
  constructor
  · rintro ⟨j, hj, h⟩
    by_cases e : j = k
    · subst e; exact .inr h
    · exact .inl ⟨j, by omega, h⟩
  · rintro (⟨j, hj, h⟩ | h)
    · exact ⟨j, by omega, h⟩
    · exact ⟨k, by omega, h⟩
theorem cover_no {xs : List Int} {q x : Nat} (hx : x < 2 ^ q) (h : reachN xs x q = false) : coverN xs q = false := by
  unfold coverN
  rw [decide_eq_false_iff_not]
  intro a
  rw [a x hx] at h
  cases h
theorem cover_yes {xs : List Int} {q : Nat} (h : ∀ x, x < 2 ^ q → reachN xs x q = true) : coverN xs q = true := by
  unfold coverN
  exact decide_eq_true h

open Go in
theorem lost_in {p : Int} {xs : List Int} (h : lostB p xs = true) {k : Nat} (hk : k < xs.length) : 0 ≤ nth xs k ∧ nth xs k < 128 := by
  unfold lostB at h
  rw [Bool.and_eq_true, Bool.and_eq_true] at h
  obtain ⟨h1, h2, _⟩ := h
  have h3 := allB_iff.1 h2 k hk
  have hp : p.toNat ≤ 7 := by have := (inB_true.1 h1).2; omega
  have : (2 : Int) ^ p.toNat ≤ 2 ^ 7 := by
    rw [nat_pow, nat_pow]
    exact Int.ofNat_le.2 (Nat.pow_le_pow_right (by omega) hp)
  omega
open Go in
theorem lost_wf {p : Int} {xs : List Int} (h : lostB p xs = true) {k : Nat} (hk : k < xs.length) : (Lit.int .i64 (nth xs k)).wf = true := by
  have m0 : IntKind.i64.min = -9223372036854775808 := rfl
  have m1 : IntKind.i64.max = 9223372036854775807 := rfl
  have := lost_in h hk
  simp only [Lit.wf, m0, m1, Bool.and_eq_true, decide_eq_true_eq]
  omega

end Go.Proofs.YtebjhdipdffkgaaDoor.M
