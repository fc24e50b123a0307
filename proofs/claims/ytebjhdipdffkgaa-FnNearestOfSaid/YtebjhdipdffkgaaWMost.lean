/- Contracts on how many words there may be. -/
import Derived.Test.YtebjhdipdffkgaaChoose
import Derived.Test.YtebjhdipdffkgaaWBits
import Derived.Test.YtebjhdipdffkgaaDraw
namespace Go.Proofs.Ytebjhdipdffkgaa
open Go Go.RowKit
open M (nth)

namespace M
open Go.RowKit in
theorem wrap64_eq (x : Int) : wrap64 x = Go.IntKind.i64.wrap x := by rw [Go.IntKind.wrap_i64, wrap64]
def oddB (f : Int) : Bool := !(f % 2 == 0)
def mostW (b f : Int) : Int := if inB b 1 8 && inB f 1 b && oddB f then ((2 ^ b.toNat / atm b.toNat (f.toNat / 2 + 1) : Nat) : Int) else -1
theorem mostW_ok {b f : Nat} (h1 : inB (b : Int) 1 8 = true) (h2 : inB (f : Int) 1 b = true) (h3 : f % 2 = 1) : mostW (b : Int) (f : Int) = ((2 ^ b / atm b (f / 2 + 1) : Nat) : Int) := by
  have e : oddB (f : Int) = true := by unfold oddB; have : ((f : Int) % 2) = 1 := by omega
                                       rw [this]; rfl
  simp [mostW, h1, h2, e]
theorem mostW_even {b f : Nat} (h3 : f % 2 = 0) : mostW (b : Int) (f : Int) = -1 := by
  have e : oddB (f : Int) = false := by unfold oddB; have : ((f : Int) % 2) = 0 := by omega
                                        rw [this]; rfl
  simp [mostW, e]
theorem most_in : ∀ b : Nat, b < 9 → ∀ f : Nat, f < 9 → 1 ≤ f → f ≤ b → atm b (f / 2 + 1) ≠ 0 ∧ 2 ^ b / atm b (f / 2 + 1) ≤ 256 ∧ 1 ≤ 2 ^ b / atm b (f / 2 + 1) := by decide +kernel
end M

set_option maxHeartbeats 400000 in
theorem iMostWords_c (b f : Int) (w : World) : Calls Try.prog 18 #[.int .i64 b, .int .i64 f] w fun e w' => e = .returned (.int .i64 (M.mostW b f)) ∧ Quiet w w' := by
  go_enter Try.func18, Try.ntmps18
  go_wp2_with fail
  refine (in_c _ _ _ _).mono ?_
  rintro e w1 ⟨rfl, rfl⟩
  cases h1 : M.inB b 1 8 with
  | false =>
    have Hg := Lib.hid (show M.mostW b f = -1 by simp [M.mostW, h1])
    go_wp2
    go_ret
    exact ⟨by rw [Hg.out]; rfl, Quiet.refl _⟩
  | true =>
    go_wp2_with fail
    refine (in_c _ _ _ _).mono ?_
    rintro e w1 ⟨rfl, rfl⟩
    cases h2 : M.inB f 1 b with
    | false =>
      have Hg := Lib.hid (show M.mostW b f = -1 by simp [M.mostW, h2])
      go_wp2
      go_ret
      exact ⟨by rw [Hg.out]; rfl, Quiet.refl _⟩
    | true =>
      have h1' := M.inB_true.1 h1
      have h2' := M.inB_true.1 h2
      obtain ⟨b', rfl⟩ : ∃ b' : Nat, b = (b' : Int) := ⟨b.toNat, by omega⟩
      obtain ⟨f', rfl⟩ : ∃ f' : Nat, f = (f' : Int) := ⟨f.toNat, by omega⟩
      have et : Int.tmod (f' : Int) 2 = ((f' % 2 : Nat) : Int) := rfl
      have ed : Int.tdiv (f' : Int) 2 = ((f' / 2 : Nat) : Int) := rfl
      rcases Nat.mod_two_eq_zero_or_one f' with h3 | h3
      · have Hg := Lib.hid (M.mostW_even (b := b') h3)
        rw [h3] at et
        go_wp2
        go_ret
        exact ⟨by rw [Hg.out]; rfl, Quiet.refl _⟩
      · have Hg := Lib.hid (M.mostW_ok h1 h2 h3)
        rw [h3] at et
        obtain ⟨m1, m2, m3⟩ := M.most_in b' (by omega) f' (by omega) (by omega) (by omega)
        have hw2 : IntKind.i64.wrap ((2 : Int) ^ b') = ((2 ^ b' : Nat) : Int) := by
          have := M.wrap_pow b' (by omega)
          rwa [M.wrap64_eq, M.nat_pow] at this
        have hD := M.pow8 (q := b') (by omega)
        have hf2 : IntKind.i64.wrap ((f' / 2 : Nat) : Int) = ((f' / 2 : Nat) : Int) := by rw [IntKind.wrap_i64]; omega
        have hq2 : Int.tdiv ((2 ^ b' : Nat) : Int) ((M.atm b' (f' / 2 + 1) : Nat) : Int) = ((2 ^ b' / M.atm b' (f' / 2 + 1) : Nat) : Int) := rfl
        have hat : ∀ n, Calls Try.prog 47 #[.int .i64 b', .int .i64 (f' / 2 : Nat)] (w.drewN n) fun e w' => e = .returned (.int .i64 (M.atm b' (f' / 2 + 1) : Nat)) ∧ w.drewN n = w' := fun n => (atMost_c b' (f' / 2) _ (by omega) (by omega)).mono fun _ _ h => ⟨h.1, h.2.symm⟩
        generalize 2 ^ b' = D at *
        generalize M.atm b' (f' / 2 + 1) = V at *
        have hV : ¬ ((V : Nat) : Int) = 0 := by omega
        have hw3 : IntKind.i64.wrap ((D / V : Nat) : Int) = ((D / V : Nat) : Int) := by rw [IntKind.wrap_i64]; omega
        generalize D / V = G at *
        go_wp2_with fail
        go_quiet ((go_at_call 47; exact quiet_l (hat _)))
        go_wp2
        go_ret
        exact ⟨by rw [Hg.out]; rfl, ⟨_, rfl⟩⟩

set_option maxHeartbeats 400000 in
theorem sMostWords_c (b f : Int) (w : World) : Calls Try.prog 17 #[.int .i64 b, .int .i64 f] w fun e w' => e = .returned (.int .i64 (M.mostW b f)) ∧ Quiet w w' := by
  go_enter Try.func17, Try.ntmps17
  go_wp2_with fail
  refine (l1In_c _ _ _ _).mono ?_
  rintro e w1 ⟨rfl, rfl⟩
  cases h1 : M.inB b 1 8 with
  | false =>
    have Hg := Lib.hid (show M.mostW b f = -1 by simp [M.mostW, h1])
    go_wp2
    go_ret
    exact ⟨by rw [Hg.out]; rfl, Quiet.refl _⟩
  | true =>
    go_wp2_with fail
    refine (l1In_c _ _ _ _).mono ?_
    rintro e w1 ⟨rfl, rfl⟩
    cases h2 : M.inB f 1 b with
    | false =>
      have Hg := Lib.hid (show M.mostW b f = -1 by simp [M.mostW, h2])
      go_wp2
      go_ret
      exact ⟨by rw [Hg.out]; rfl, Quiet.refl _⟩
    | true =>
      have h1' := M.inB_true.1 h1
      have h2' := M.inB_true.1 h2
      obtain ⟨b', rfl⟩ : ∃ b' : Nat, b = (b' : Int) := ⟨b.toNat, by omega⟩
      obtain ⟨f', rfl⟩ : ∃ f' : Nat, f = (f' : Int) := ⟨f.toNat, by omega⟩
      have et : Int.tmod (f' : Int) 2 = ((f' % 2 : Nat) : Int) := rfl
      have ed : Int.tdiv (f' : Int) 2 = ((f' / 2 : Nat) : Int) := rfl
      rcases Nat.mod_two_eq_zero_or_one f' with h3 | h3
      · have Hg := Lib.hid (M.mostW_even (b := b') h3)
        rw [h3] at et
        go_wp2
        go_ret
        exact ⟨by rw [Hg.out]; rfl, Quiet.refl _⟩
      · have Hg := Lib.hid (M.mostW_ok h1 h2 h3)
        rw [h3] at et
        obtain ⟨m1, m2, m3⟩ := M.most_in b' (by omega) f' (by omega) (by omega) (by omega)
        have hw2 : IntKind.i64.wrap ((2 : Int) ^ b') = ((2 ^ b' : Nat) : Int) := by
          have := M.wrap_pow b' (by omega)
          rwa [M.wrap64_eq, M.nat_pow] at this
        have hD := M.pow8 (q := b') (by omega)
        have hf2 : IntKind.i64.wrap ((f' / 2 : Nat) : Int) = ((f' / 2 : Nat) : Int) := by rw [IntKind.wrap_i64]; omega
        have hq2 : Int.tdiv ((2 ^ b' : Nat) : Int) ((M.atm b' (f' / 2 + 1) : Nat) : Int) = ((2 ^ b' / M.atm b' (f' / 2 + 1) : Nat) : Int) := rfl
        have hat : ∀ n, Calls Try.prog 45 #[.int .i64 b', .int .i64 (f' / 2 : Nat)] (w.drewN n) fun e w' => e = .returned (.int .i64 (M.atm b' (f' / 2 + 1) : Nat)) ∧ Quiet (w.drewN n) w' := fun n => l5Choices_c b' (f' / 2) _ (by omega)
        generalize 2 ^ b' = D at *
        generalize M.atm b' (f' / 2 + 1) = V at *
        have hV : ¬ ((V : Nat) : Int) = 0 := by omega
        have hw3 : IntKind.i64.wrap ((D / V : Nat) : Int) = ((D / V : Nat) : Int) := by rw [IntKind.wrap_i64]; omega
        generalize D / V = G at *
        go_wp2_with fail
        go_quiet ((go_at_call 45; exact quiet_m (hat _)))
        go_wp2
        go_ret
        exact ⟨by rw [Hg.out]; rfl, ⟨_, rfl⟩⟩

end Go.Proofs.Ytebjhdipdffkgaa
