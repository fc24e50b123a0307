/- Contracts on the number of ones of a word, and on how far words are apart. -/
import Derived.Test.YtebjhdipdffkgaaDoorMem
import Derived.Test.YtebjhdipdffkgaaDoorWMath
namespace Go.Proofs.YtebjhdipdffkgaaDoor
open Go Go.RowKit
open M (nth)

def M.o1 (x : Int) : Int := IntKind.u64.wrap (bits .and .u64 (x / 2) 6148914691236517205 + bits .and .u64 x 6148914691236517205)
def M.o2 (x : Int) : Int := IntKind.u64.wrap (bits .and .u64 (x / 4) 3689348814741910323 + bits .and .u64 x 3689348814741910323)
def M.o3 (x : Int) : Int := bits .and .u64 (IntKind.u64.wrap (x / 16 + x)) 1085102592571150095
def M.o4 (d x : Int) : Int := IntKind.u64.wrap (x + x / d)
def M.ones (x : Int) : Int := bits .and .i64 (wrap64 (M.o4 4294967296 (M.o4 65536 (M.o4 256 (M.o3 (M.o2 (M.o1 x))))))) 127
theorem M.ones_eq : ∀ x : Nat, x < 256 → M.ones (x : Int) = ((M.pop x : Nat) : Int) := by decide +kernel

set_option maxRecDepth 100000 in
theorem OnesCount64_c (x : Nat) (w : World) (hx : x < 256) : Calls Tryd.prog 46 #[.int .u64 x] w fun e w' => e = .returned (.int .i64 (M.pop x : Nat)) ∧ w' = w := by
  go_enter Tryd.func46, Tryd.ntmps46
  go_wp2_with fail
  go_ret
  refine ⟨?_, rfl⟩
  refine congrArg (fun t => Ending.returned (Value.int .i64 t)) ?_
  exact M.ones_eq x hx

theorem OnesCount_c (x : Nat) (w : World) (hx : x < 256) : Calls Tryd.prog 27 #[.int .u64 x] w fun e w' => e = .returned (.int .i64 (M.pop x : Nat)) ∧ w' = w := by
  go_enter Tryd.func27, Tryd.ntmps27
  go_wp2_with fail
  refine (OnesCount64_c x w hx).mono ?_
  rintro e w1 ⟨rfl, rfl⟩
  go_wp2
  go_ret
  exact ⟨rfl, rfl⟩

theorem isWord_c (q : Nat) (x : Int) (w : World) (hq : q ≤ 8) : Calls Tryd.prog 30 #[.int .i64 q, .int .i64 x] w fun e w' => e = .returned (.bool (M.inB x 0 (2 ^ q - 1))) ∧ w' = w := by
  have hw2 : wrap64 ((2 : Int) ^ q) = 2 ^ q := M.wrap_pow q (by omega)
  have hw3 : wrap64 ((2 : Int) ^ q - 1) = 2 ^ q - 1 := by
    have h1 := M.two_pow_le hq
    have h2 := M.two_pow_pos q
    exact M.wrap_small (by omega) (by omega)
  go_enter Tryd.func30, Tryd.ntmps30
  go_wp2_with fail
  refine (in_c _ _ _ _).mono ?_
  rintro e w1 ⟨rfl, rfl⟩
  go_wp2
  go_ret
  exact ⟨rfl, rfl⟩

theorem iFar_c (a b : Nat) (w : World) (ha : a < 256) (hb : b < 256) : Calls Tryd.prog 31 #[.int .i64 a, .int .i64 b] w fun e w' => e = .returned (.int .i64 (M.farN a b : Nat)) ∧ w' = w := by
  have hx : a ^^^ b < 2 ^ 8 := Nat.xor_lt_two_pow (by omega) (by omega)
  have e1 := M.bxor a b (by omega) (by omega)
  have e2 : IntKind.u64.wrap ((a ^^^ b : Nat) : Int) = ((a ^^^ b : Nat) : Int) := by rw [IntKind.wrap_u64]; omega
  have e3 := M.pop_xor a b
  go_enter Tryd.func31, Tryd.ntmps31
  go_wp2_with fail
  refine (OnesCount_c _ _ (by omega)).mono ?_
  rintro e w1 ⟨rfl, rfl⟩
  go_wp2
  go_ret
  exact ⟨rfl, rfl⟩

set_option maxRecDepth 100000 in
theorem iFarOf_c (a b : Int) (w : World) : Calls Tryd.prog 15 #[.int .i64 a, .int .i64 b] w fun e w' => e = .returned (.int .i64 (M.farOf a b)) ∧ w' = w := by
  go_enter Tryd.func15, Tryd.ntmps15
  go_wp2_with fail
  refine (isWord_c 8 a _ (by omega)).mono ?_
  rintro e w1 ⟨rfl, rfl⟩
  simp only [show ((2 : Int) ^ 8 - 1) = 255 from rfl]
  cases ha : M.inB a 0 255 with
  | false =>
    have Hg := Lib.hid (M.farOf_no1 (b := b) ha)
    go_wp2
    go_ret
    exact ⟨by rw [Hg.out]; rfl, rfl⟩
  | true =>
    go_wp2_with fail
    refine (isWord_c 8 b _ (by omega)).mono ?_
    rintro e w1 ⟨rfl, rfl⟩
    simp only [show ((2 : Int) ^ 8 - 1) = 255 from rfl]
    cases hb : M.inB b 0 255 with
    | false =>
      have Hg := Lib.hid (M.farOf_no2 (a := a) hb)
      go_wp2
      go_ret
      exact ⟨by rw [Hg.out]; rfl, rfl⟩
    | true =>
      obtain ⟨a', rfl, ha'⟩ := M.inB_255 ha
      obtain ⟨b', rfl, hb'⟩ := M.inB_255 hb
      have Hg := Lib.hid (M.farOf_ok ha' hb')
      go_wp2_with fail
      refine (iFar_c a' b' _ ha' hb').mono ?_
      rintro e w1 ⟨rfl, rfl⟩
      go_wp2
      go_ret
      exact ⟨by rw [Hg.out]; rfl, rfl⟩


end Go.Proofs.YtebjhdipdffkgaaDoor
