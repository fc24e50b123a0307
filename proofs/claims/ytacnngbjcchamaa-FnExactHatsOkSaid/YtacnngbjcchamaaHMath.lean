/- Plain lemmas for the hats. -/
import Derived.Test.YtacnngbjcchamaaPMath
namespace Go.Proofs.Ytacnngbjcchamaa.M
open Go.RowKit (wrap64)

def hatsB (c : Int) (xs : List Int) : Bool := inB c 1 5 && (inB xs.length 1 5 && allB xs 0 (c - 1))
theorem wrap_sub1 {c : Int} (h : inB c 1 5 = true) : wrap64 (c - 1) = c - 1 := by
  have := inB_true.1 h
  exact Go.IntWalk.wrap64_in _ ⟨by omega, by omega⟩
theorem hats_no_c {c : Int} {xs : List Int} (h : inB c 1 5 = false) : hatsB c xs = false := by simp [hatsB, h]
theorem hats_bad {c : Int} {xs : List Int} {k : Nat} (hk : k < xs.length) (h : inB (nth xs k) 0 (wrap64 (c - 1)) = false) : hatsB c xs = false := by
  cases hc : inB c 1 5 with
  | false => exact hats_no_c hc
  | true =>
    rw [wrap_sub1 hc] at h
    simp [hatsB, allB_false hk (inB_false.1 h)]
theorem hats_all {c : Int} {xs : List Int} {n : Nat} (hn : xs.length = n) (hc : inB c 1 5 = true) (h : ∀ k, k < n → inB (nth xs k) 0 (wrap64 (c - 1)) = true) : hatsB c xs = inB (n : Int) 1 5 := by
  rw [wrap_sub1 hc] at h
  have : allB xs 0 (c - 1) = true := allB_iff.2 (fun k hk => inB_true.1 (h k (by omega)))
  simp [hatsB, hc, this, hn]
theorem hats_iff {c : Int} {xs : List Int} : hatsB c xs = true ↔ (1 ≤ c ∧ c ≤ 5) ∧ (1 ≤ xs.length ∧ xs.length ≤ 5) ∧ ∀ k, k < xs.length → 0 ≤ nth xs k ∧ nth xs k ≤ c - 1 := by
  unfold hatsB
  rw [Bool.and_eq_true, Bool.and_eq_true, inB_true, inB_true, allB_iff]
  constructor
  · rintro ⟨a, b, d⟩; exact ⟨a, by omega, d⟩
  · rintro ⟨a, b, d⟩; exact ⟨a, by omega, d⟩

end Go.Proofs.Ytacnngbjcchamaa.M
