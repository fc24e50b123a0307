/- Contracts on how many words there may be. -/
import Derived.Test.YtebjhdipdffkgaaDoorChoose
import Derived.Test.YtebjhdipdffkgaaDoorWBits
import Derived.Test.YtebjhdipdffkgaaDoorDraw
namespace Go.Proofs.YtebjhdipdffkgaaDoor
open Go Go.RowKit
open M (nth)

namespace M
open Go.RowKit in
theorem wrap64_eq (x : Int) : wrap64 x = Go.IntKind.i64.wrap x := by rw [Go.IntKind.wrap_i64, wrap64]
def oddB (f : Int) : Bool := !(f % 2 == 0)
def mostW (b f : Int) : Int := if inB b 1 8 && inB f 1 b && oddB f then ((2 ^ b.toNat / atm b.toNat (f.toNat / 2 + 1) : Nat) : Int) else -1
theorem mostW_ok {b f : Nat} (h1 : inB (b : Int) 1 8 = true) (h2 : inB (f : Int) 1 b = true) (h3 : f % 2 = 1) : mostW (b : Int) (f : Int) = ((2 ^ b / atm b (f / 2 + 1) : Nat) : Int) := by
  have e : oddB (f : Int) = true := by unfold oddB; have : ((f : Int) % 2) = 1 := by omega
                                       rw [this]; rfl
  simp [mostW, h1, h2, e]
theorem mostW_even {b f : Nat} (h3 : f % 2 = 0) : mostW (b : Int) (f : Int) = -1 := by
  have e : oddB (f : Int) = false := by unfold oddB; have : ((f : Int) % 2) = 0 := by omega
                                        rw [this]; rfl
  simp [mostW, e]
theorem most_in : ∀ b : Nat, b < 9 → ∀ f : Nat, f < 9 → 1 ≤ f → f ≤ b → atm b (f / 2 + 1) ≠ 0 ∧ 2 ^ b / atm b (f / 2 + 1) ≤ 256 ∧ 1 ≤ 2 ^ b / atm b (f / 2 + 1) := by decide +kernel
end M



end Go.Proofs.YtebjhdipdffkgaaDoor
