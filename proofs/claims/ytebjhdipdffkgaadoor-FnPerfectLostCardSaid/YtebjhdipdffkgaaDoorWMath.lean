/- Plain lemmas on how far words are apart. -/
import Derived.Test.YtebjhdipdffkgaaDoorBits
namespace Go.Proofs.YtebjhdipdffkgaaDoor.M

/-- How many ones a number less than 256 has. -/
def pop (x : Nat) : Nat := x % 2 + x / 2 % 2 + x / 4 % 2 + x / 8 % 2 + x / 16 % 2 + x / 32 % 2 + x / 64 % 2 + x / 128 % 2
theorem pop_zero : ∀ x : Nat, x < 2 ^ 8 → pop x = 0 → x = 0 := by decide +kernel
/-- Do two words differ at place j? -/
def dif (a b j : Nat) : Nat := if a / 2 ^ j % 2 = b / 2 ^ j % 2 then 0 else 1
def farK (a b : Nat) : Nat → Nat
  | 0 => 0
  | k + 1 => farK a b k + dif a b k
def farN (a b : Nat) : Nat := farK a b 8

theorem xor_bit (a b j : Nat) : (a ^^^ b) / 2 ^ j % 2 = dif a b j := by
  have h := Nat.testBit_xor a b j
  simp only [Nat.testBit_eq_decide_div_mod_eq] at h
  unfold dif
  have ha := Nat.mod_two_eq_zero_or_one (a / 2 ^ j)
  have hb := Nat.mod_two_eq_zero_or_one (b / 2 ^ j)
  have hx := Nat.mod_two_eq_zero_or_one ((a ^^^ b) / 2 ^ j)
  rcases ha with ha | ha <;> rcases hb with hb | hb <;> rcases hx with hx | hx <;> rw [ha, hb, hx] at h ⊢ <;> simp at h ⊢
theorem pop_xor (a b : Nat) : pop (a ^^^ b) = farN a b := by
  have h0 := xor_bit a b 0
  have h1 := xor_bit a b 1
  have h2 := xor_bit a b 2
  have h3 := xor_bit a b 3
  have h4 := xor_bit a b 4
  have h5 := xor_bit a b 5
  have h6 := xor_bit a b 6
  have h7 := xor_bit a b 7
  simp only [Nat.pow_zero, Nat.div_one, Nat.reducePow] at h0 h1 h2 h3 h4 h5 h6 h7
  unfold pop farN
  simp only [farK]
  rw [h0, h1, h2, h3, h4, h5, h6, h7, Nat.zero_add]
theorem dif_le (a b j : Nat) : dif a b j ≤ 1 := by unfold dif; split <;> omega
theorem farK_le (a b : Nat) : ∀ k, farK a b k ≤ k
  | 0 => Nat.le_refl _
  | k + 1 => by
    have := farK_le a b k
    have := dif_le a b k
    simp only [farK]
    omega
theorem far_le (a b : Nat) : farN a b ≤ 8 := farK_le a b 8
theorem dif_comm (a b j : Nat) : dif a b j = dif b a j := by unfold dif; simp only [eq_comm]
theorem farK_comm (a b : Nat) : ∀ k, farK a b k = farK b a k
  | 0 => rfl
  | k + 1 => by simp only [farK]; rw [farK_comm a b k, dif_comm]
theorem far_comm (a b : Nat) : farN a b = farN b a := farK_comm a b 8
theorem dif_tri (a b c j : Nat) : dif a b j ≤ dif a c j + dif c b j := by unfold dif; split <;> split <;> split <;> omega
theorem farK_tri (a b c : Nat) : ∀ k, farK a b k ≤ farK a c k + farK c b k
  | 0 => Nat.le_refl _
  | k + 1 => by
    have := farK_tri a b c k
    have := dif_tri a b c k
    simp only [farK]
    omega
theorem far_tri (a b c : Nat) : farN a b ≤ farN a c + farN c b := farK_tri a b c 8
theorem far_self (a : Nat) : farN a a = 0 := by simp [farN, farK, dif]
theorem far_zero {a b : Nat} (ha : a < 256) (hb : b < 256) (h : farN a b = 0) : a = b := by
  rw [← pop_xor] at h
  have hx : a ^^^ b < 2 ^ 8 := Nat.xor_lt_two_pow (by omega) (by omega)
  have h0 : a ^^^ b = 0 := pop_zero _ hx h
  have e : a ^^^ b ^^^ b = a := by rw [Nat.xor_assoc, Nat.xor_self, Nat.xor_zero]
  rw [h0, Nat.zero_xor] at e
  exact e.symm

def farOf (a b : Int) : Int := if inB a 0 255 && inB b 0 255 then (farN a.toNat b.toNat : Int) else -1
theorem farOf_no1 {a b : Int} (h : inB a 0 255 = false) : farOf a b = -1 := by simp [farOf, h]
theorem farOf_no2 {a b : Int} (h : inB b 0 255 = false) : farOf a b = -1 := by simp [farOf, h]
theorem farOf_ok {a b : Nat} (ha : a < 256) (hb : b < 256) : farOf (a : Int) (b : Int) = (farN a b : Int) := by
  have h1 : inB (a : Int) 0 255 = true := inB_true.2 (by omega)
  have h2 : inB (b : Int) 0 255 = true := inB_true.2 (by omega)
  simp [farOf, h1, h2]
theorem inB_255 {x : Int} (h : inB x 0 255 = true) : ∃ n : Nat, x = (n : Int) ∧ n < 256 := by
  have := inB_true.1 h
  exact ⟨x.toNat, by omega, by omega⟩

end Go.Proofs.YtebjhdipdffkgaaDoor.M
