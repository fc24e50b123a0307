/- Contracts on the number of ones of a word, and on how far words are apart. -/
import Derived.Test.YtebjhdipdffkgaaMem
import Derived.Test.YtebjhdipdffkgaaWMath
namespace Go.Proofs.Ytebjhdipdffkgaa
open Go Go.RowKit
open M (nth)

def M.o1 (x : Int) : Int := IntKind.u64.wrap (bits .and .u64 (x / 2) 6148914691236517205 + bits .and .u64 x 6148914691236517205)
def M.o2 (x : Int) : Int := IntKind.u64.wrap (bits .and .u64 (x / 4) 3689348814741910323 + bits .and .u64 x 3689348814741910323)
def M.o3 (x : Int) : Int := bits .and .u64 (IntKind.u64.wrap (x / 16 + x)) 1085102592571150095
def M.o4 (d x : Int) : Int := IntKind.u64.wrap (x + x / d)
def M.ones (x : Int) : Int := bits .and .i64 (wrap64 (M.o4 4294967296 (M.o4 65536 (M.o4 256 (M.o3 (M.o2 (M.o1 x))))))) 127
theorem M.ones_eq : ∀ x : Nat, x < 256 → M.ones (x : Int) = ((M.pop x : Nat) : Int) := by decide +kernel

set_option maxRecDepth 100000 in
theorem OnesCount64_c (x : Nat) (w : World) (hx : x < 256) : Calls Try.prog 68 #[.int .u64 x] w fun e w' => e = .returned (.int .i64 (M.pop x : Nat)) ∧ w' = w := by
  go_enter Try.func68, Try.ntmps68
  go_wp2_with fail
  go_ret
  refine ⟨?_, rfl⟩
  refine congrArg (fun t => Ending.returned (Value.int .i64 t)) ?_
  exact M.ones_eq x hx

theorem OnesCount_c (x : Nat) (w : World) (hx : x < 256) : Calls Try.prog 60 #[.int .u64 x] w fun e w' => e = .returned (.int .i64 (M.pop x : Nat)) ∧ w' = w := by
  go_enter Try.func60, Try.ntmps60
  go_wp2_with fail
  refine (OnesCount64_c x w hx).mono ?_
  rintro e w1 ⟨rfl, rfl⟩
  go_wp2
  go_ret
  exact ⟨rfl, rfl⟩

theorem isWord_c (q : Nat) (x : Int) (w : World) (hq : q ≤ 8) : Calls Try.prog 52 #[.int .i64 q, .int .i64 x] w fun e w' => e = .returned (.bool (M.inB x 0 (2 ^ q - 1))) ∧ w' = w := by
  have hw2 : wrap64 ((2 : Int) ^ q) = 2 ^ q := M.wrap_pow q (by omega)
  have hw3 : wrap64 ((2 : Int) ^ q - 1) = 2 ^ q - 1 := by
    have h1 := M.two_pow_le hq
    have h2 := M.two_pow_pos q
    exact M.wrap_small (by omega) (by omega)
  go_enter Try.func52, Try.ntmps52
  go_wp2_with fail
  refine (in_c _ _ _ _).mono ?_
  rintro e w1 ⟨rfl, rfl⟩
  go_wp2
  go_ret
  exact ⟨rfl, rfl⟩

theorem iFar_c (a b : Nat) (w : World) (ha : a < 256) (hb : b < 256) : Calls Try.prog 53 #[.int .i64 a, .int .i64 b] w fun e w' => e = .returned (.int .i64 (M.farN a b : Nat)) ∧ w' = w := by
  have hx : a ^^^ b < 2 ^ 8 := Nat.xor_lt_two_pow (by omega) (by omega)
  have e1 := M.bxor a b (by omega) (by omega)
  have e2 : IntKind.u64.wrap ((a ^^^ b : Nat) : Int) = ((a ^^^ b : Nat) : Int) := by rw [IntKind.wrap_u64]; omega
  have e3 := M.pop_xor a b
  go_enter Try.func53, Try.ntmps53
  go_wp2_with fail
  refine (OnesCount_c _ _ (by omega)).mono ?_
  rintro e w1 ⟨rfl, rfl⟩
  go_wp2
  go_ret
  exact ⟨rfl, rfl⟩

set_option maxRecDepth 100000 in
theorem iFarOf_c (a b : Int) (w : World) : Calls Try.prog 23 #[.int .i64 a, .int .i64 b] w fun e w' => e = .returned (.int .i64 (M.farOf a b)) ∧ w' = w := by
  go_enter Try.func23, Try.ntmps23
  go_wp2_with fail
  refine (isWord_c 8 a _ (by omega)).mono ?_
  rintro e w1 ⟨rfl, rfl⟩
  simp only [show ((2 : Int) ^ 8 - 1) = 255 from rfl]
  cases ha : M.inB a 0 255 with
  | false =>
    have Hg := Lib.hid (M.farOf_no1 (b := b) ha)
    go_wp2
    go_ret
    exact ⟨by rw [Hg.out]; rfl, rfl⟩
  | true =>
    go_wp2_with fail
    refine (isWord_c 8 b _ (by omega)).mono ?_
    rintro e w1 ⟨rfl, rfl⟩
    simp only [show ((2 : Int) ^ 8 - 1) = 255 from rfl]
    cases hb : M.inB b 0 255 with
    | false =>
      have Hg := Lib.hid (M.farOf_no2 (a := a) hb)
      go_wp2
      go_ret
      exact ⟨by rw [Hg.out]; rfl, rfl⟩
    | true =>
      obtain ⟨a', rfl, ha'⟩ := M.inB_255 ha
      obtain ⟨b', rfl, hb'⟩ := M.inB_255 hb
      have Hg := Lib.hid (M.farOf_ok ha' hb')
      go_wp2_with fail
      refine (iFar_c a' b' _ ha' hb').mono ?_
      rintro e w1 ⟨rfl, rfl⟩
      go_wp2
      go_ret
      exact ⟨by rw [Hg.out]; rfl, rfl⟩

set_option maxRecDepth 100000 in
theorem sFarOf_c (a b : Int) (w : World) : Calls Try.prog 22 #[.int .i64 a, .int .i64 b] w fun e w' => e = .returned (.int .i64 (M.farOf a b)) ∧ Quiet w w' := by
  go_enter Try.func22, Try.ntmps22
  go_wp2_with fail
  refine (l1In_c _ _ _ _).mono ?_
  rintro e w1 ⟨rfl, rfl⟩
  cases ha : M.inB a 0 255 with
  | false =>
    have Hg := Lib.hid (M.farOf_no1 (b := b) ha)
    go_wp2
    go_ret
    exact ⟨by rw [Hg.out]; rfl, Quiet.refl _⟩
  | true =>
    go_wp2_with fail
    refine (l1In_c _ _ _ _).mono ?_
    rintro e w1 ⟨rfl, rfl⟩
    cases hb : M.inB b 0 255 with
    | false =>
      have Hg := Lib.hid (M.farOf_no2 (a := a) hb)
      go_wp2
      go_ret
      exact ⟨by rw [Hg.out]; rfl, Quiet.refl _⟩
    | true =>
      obtain ⟨a', rfl, ha'⟩ := M.inB_255 ha
      obtain ⟨b', rfl, hb'⟩ := M.inB_255 hb
      have Hg := Lib.hid (M.farOf_ok ha' hb')
      go_wp2_with fail
      go_loopw [5, 6] (fun s i wr => ∃ k : Nat, k ≤ 8 ∧ i = .int .i64 k ∧ s = .int .i64 (M.farK a' b' k : Nat) ∧ Quiet w wr) (fun _ i _ => 8 - (intOf i).toNat)
      case atStart => exact ⟨0, by omega, rfl, rfl, Quiet.refl _⟩
      case round =>
        obtain ⟨k, hk, rfl, rfl, hq⟩ := hrel
        by_cases hlt : k < 8
        · have e1 := M.tmod_two a' k
          have e2 := M.tmod_two b' k
          have hle := M.farK_le a' b' k
          have hs : M.farK a' b' (k + 1) = M.farK a' b' k + (if a' / 2 ^ k % 2 = b' / 2 ^ k % 2 then 0 else 1) := rfl
          generalize a' / 2 ^ k % 2 = u at *
          generalize b' / 2 ^ k % 2 = v at *
          generalize M.farK a' b' k = f at *
          by_cases huv : u = v
          · subst huv
            rw [if_pos rfl] at hs
            have Hs := Lib.hid hs
            clear hs
            go_wp2_with fail
            go_quiet (fail)
            go_wp2
            exact ⟨⟨k + 1, by omega, rfl, by rw [Hs.out]; rfl, by first | exact hq | exact hq.drewN _⟩, by simp only [intOf]; omega⟩
          · rw [if_neg huv] at hs
            have Hs := Lib.hid hs
            clear hs
            have dn : ((u : Int) != (v : Int)) = true := by simp; omega
            go_wp2_with fail
            go_quiet (fail)
            go_wp2
            exact ⟨⟨k + 1, by omega, rfl, by rw [Hs.out]; rfl, by first | exact hq | exact hq.drewN _⟩, by simp only [intOf]; omega⟩
        · obtain rfl : k = 8 := by omega
          go_wp2
          go_ret
          exact ⟨by rw [Hg.out]; rfl, hq⟩

end Go.Proofs.Ytebjhdipdffkgaa
