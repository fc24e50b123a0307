/- Plain lemmas on bits. -/
import Derived.Test.YtdpbjepjiloeaaaPMath
import Derived.WalkKit
namespace Go.Proofs.Ytdpbjepjiloeaaa.M

theorem nat_pow (k : Nat) : ((2 : Int) ^ k) = ((2 ^ k : Nat) : Int) := by simp
theorem conv64 (c : Nat) (hc : c < 9223372036854775808) : (BitVec.ofInt 64 (c : Int)).toNat = c := by
  rw [BitVec.ofInt_natCast, BitVec.toNat_ofNat]; exact Nat.mod_eq_of_lt (by omega)
open Go in
theorem bor (a b : Nat) (ha : a < 4611686018427387904) (hb : b < 4611686018427387904) : bits .or .i64 (a : Int) (b : Int) = ((a ||| b : Nat) : Int) := by
  have hx : a ||| b < 2 ^ 62 := Nat.or_lt_two_pow (by omega) (by omega)
  show IntKind.i64.wrap ((BitVec.ofInt 64 (a : Int) ||| BitVec.ofInt 64 (b : Int)).toNat : Int) = _
  rw [BitVec.toNat_or, conv64 a (by omega), conv64 b (by omega), IntKind.wrap_i64]
  omega
open Go in
theorem band (a b : Nat) (ha : a < 4611686018427387904) (hb : b < 4611686018427387904) : bits .and .i64 (a : Int) (b : Int) = ((a &&& b : Nat) : Int) := by
  have hx : a &&& b < 2 ^ 62 := Nat.and_lt_two_pow _ (by omega)
  show IntKind.i64.wrap ((BitVec.ofInt 64 (a : Int) &&& BitVec.ofInt 64 (b : Int)).toNat : Int) = _
  rw [BitVec.toNat_and, conv64 a (by omega), conv64 b (by omega), IntKind.wrap_i64]
  omega
open Go in
theorem bxor (a b : Nat) (ha : a < 4611686018427387904) (hb : b < 4611686018427387904) : bits .xor .i64 (a : Int) (b : Int) = ((a ^^^ b : Nat) : Int) := by
  have hx : a ^^^ b < 2 ^ 62 := Nat.xor_lt_two_pow (by omega) (by omega)
  show IntKind.i64.wrap ((BitVec.ofInt 64 (a : Int) ^^^ BitVec.ofInt 64 (b : Int)).toNat : Int) = _
  rw [BitVec.toNat_xor, conv64 a (by omega), conv64 b (by omega), IntKind.wrap_i64]
  omega
theorem wrap_small {x : Int} (h0 : 0 ≤ x) (h1 : x ≤ 4611686018427387904) : Go.RowKit.wrap64 x = x := Go.IntWalk.wrap64_in _ ⟨by omega, by omega⟩
theorem inB_word {q : Nat} {x : Int} (h : inB x 0 (2 ^ q - 1) = true) : ∃ n : Nat, x = (n : Int) ∧ n < 2 ^ q := by
  have := inB_true.1 h
  have e : ((2 : Int) ^ q) = ((2 ^ q : Nat) : Int) := by simp
  rw [e] at this
  exact ⟨x.toNat, by omega, by omega⟩
theorem tmod_two (x k : Nat) : Int.tmod ((x : Int) / 2 ^ k) 2 = ((x / 2 ^ k % 2 : Nat) : Int) := by
  have e : ((x : Int) / 2 ^ k) = ((x / 2 ^ k : Nat) : Int) := by simp
  rw [e, Int.tmod_eq_emod_of_nonneg (Int.natCast_nonneg _)]
  omega
theorem pow8 {q : Nat} (h : q ≤ 8) : 2 ^ q ≤ 256 := Nat.pow_le_pow_right (n := 2) (by omega) h
theorem pow_pos' (q : Nat) : 1 ≤ 2 ^ q := Nat.one_le_two_pow

end Go.Proofs.Ytdpbjepjiloeaaa.M
