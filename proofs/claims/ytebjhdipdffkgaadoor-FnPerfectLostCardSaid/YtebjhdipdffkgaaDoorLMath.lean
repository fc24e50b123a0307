/- Plain lemmas for teams and their lost words. -/
import Derived.Test.YtebjhdipdffkgaaDoorPMath
namespace Go.Proofs.YtebjhdipdffkgaaDoor.M

/-- Each number is greater than the one before. -/
def ascB (xs : List Int) : Bool := decide (∀ k, k < xs.length → 0 < k → nth xs (k - 1) < nth xs k)
theorem ascB_iff {xs : List Int} : ascB xs = true ↔ ∀ k, k < xs.length → 0 < k → nth xs (k - 1) < nth xs k := by simp [ascB]
theorem ascB_no {xs : List Int} {k : Nat} (hk : k < xs.length) (h0 : 0 < k) (h : ¬ nth xs (k - 1) < nth xs k) : ascB xs = false := by
  cases e : ascB xs with
  | false => rfl
  | true => exact absurd (ascB_iff.1 e k hk h0) h
/-- No number is less than the one before. -/
def srtB (xs : List Int) : Bool := decide (∀ k, k < xs.length → 0 < k → nth xs (k - 1) ≤ nth xs k)
theorem srtB_iff {xs : List Int} : srtB xs = true ↔ ∀ k, k < xs.length → 0 < k → nth xs (k - 1) ≤ nth xs k := by simp [srtB]
theorem srtB_no {xs : List Int} {k : Nat} (hk : k < xs.length) (h0 : 0 < k) (h : nth xs k < nth xs (k - 1)) : srtB xs = false := by
  cases e : srtB xs with
  | false => rfl
  | true => have := srtB_iff.1 e k hk h0; omega

theorem get_arr (xs : List Int) (j : Nat) (hj : j < xs.length) : xs.toArray[j]! = nth xs j := by rw [nth_lt hj]; simp [hj]
theorem klen_eq {xs : List Int} : klen xs = xs.length ↔ ∀ k, k < xs.length → 0 < k → nth xs (k - 1) ≠ nth xs k := by
  unfold klen Go.Lib.compact Go.Lib.compactUpTo
  rw [List.length_map]
  have e : ((List.range xs.length).filter (Go.Lib.keeps xs.toArray)).length = xs.length ↔ ∀ j ∈ List.range xs.length, Go.Lib.keeps xs.toArray j = true := by
    have := List.length_filter_eq_length_iff (p := Go.Lib.keeps xs.toArray) (l := List.range xs.length)
    rw [List.length_range] at this
    exact this
  rw [e]
  constructor
  · intro h k hk h0
    have := h k (List.mem_range.2 hk)
    unfold Go.Lib.keeps at this
    rw [decide_eq_true_eq, get_arr xs k hk, get_arr xs (k - 1) (by omega)] at this
    rcases this with h | h
    · omega
    · exact fun e => h e.symm
  · intro h j hj
    have hj' := List.mem_range.1 hj
    unfold Go.Lib.keeps
    rw [decide_eq_true_eq, get_arr xs j hj', get_arr xs (j - 1) (by omega)]
    by_cases h0 : j = 0
    · exact .inl h0
    · exact .inr (fun e => h j hj' (by omega) e.symm)
theorem asc_of (xs : List Int) : (decide (klen xs = xs.length) && srtB xs) = ascB xs := by
  rw [Bool.eq_iff_iff, Bool.and_eq_true, decide_eq_true_eq, klen_eq, srtB_iff, ascB_iff]
  constructor
  · rintro ⟨a, b⟩ k hk h0
    have := a k hk h0
    have := b k hk h0
    omega
  · intro h
    exact ⟨fun k hk h0 => by have := h k hk h0; omega, fun k hk h0 => by have := h k hk h0; omega⟩

/-- Are these lost words of so many people? -/
def lostB (p : Int) (xs : List Int) : Bool := inB p 1 7 && (allB xs 0 (2 ^ p.toNat - 1) && ascB xs)
theorem lost_no {p : Int} {xs : List Int} (h : inB p 1 7 = false) : lostB p xs = false := by simp [lostB, h]
theorem lost_ok {p : Nat} {xs : List Int} (h : inB (p : Int) 1 7 = true) : lostB (p : Int) xs = (allB xs 0 (2 ^ p - 1) && ascB xs) := by simp [lostB, h]
/-- The word of number a. -/
def sixN (a : Nat) : Nat := a + 16 * ((a + a / 2 + a / 8) % 2) + 32 * ((a + a / 4 + a / 8) % 2) + 64 * ((a / 2 + a / 4 + a / 8) % 2)
/-- The first k of the sixteen words. -/
def six (k : Nat) : List Int := (List.range k).map fun a => (sixN a : Int)
theorem six_zero : six 0 = [] := rfl
theorem six_succ (k : Nat) : six (k + 1) = six k ++ [(sixN k : Int)] := by simp [six, List.range_succ]
theorem length_six (k : Nat) : (six k).length = k := by simp [six]
def sixteen : List Int := six 16
theorem six_succ' (k : Nat) : six (k + 1) = six k ++ [(k : Int) + 16 * (((k : Int) + (k : Int) / 2 + (k : Int) / 8) % 2) + 32 * (((k : Int) + (k : Int) / 4 + (k : Int) / 8) % 2) + 64 * (((k : Int) / 2 + (k : Int) / 4 + (k : Int) / 8) % 2)] := by
  rw [six_succ]; unfold sixN; simp
/-- Is a word among these? -/
def hasB (xs : List Int) (x : Int) : Bool := xs.any (· == x)
theorem hasB_iff {xs : List Int} {x : Int} : hasB xs x = true ↔ ∃ k, k < xs.length ∧ nth xs k = x := by
  unfold hasB
  rw [List.any_eq_true]
  constructor
  · rintro ⟨y, hy, e⟩
    obtain ⟨k, hk, rfl⟩ := List.getElem_of_mem hy
    exact ⟨k, hk, by rw [nth_lt hk]; simpa using e⟩
  · rintro ⟨k, hk, e⟩
    exact ⟨xs[k], List.getElem_mem hk, by rw [← nth_lt hk, e]; simp⟩
theorem hasB_yes {xs : List Int} {x : Int} {k : Nat} (hk : k < xs.length) (h : nth xs k = x) : hasB xs x = true := hasB_iff.2 ⟨k, hk, h⟩
theorem hasB_no {xs : List Int} {x : Int} (h : ∀ k, k < xs.length → ¬ nth xs k = x) : hasB xs x = false := by
  cases e : hasB xs x with
  | false => rfl
  | true => obtain ⟨k, hk, e'⟩ := hasB_iff.1 e; exact absurd e' (h k hk)
theorem hasB_mem {xs : List Int} {x : Int} : hasB xs x = true ↔ x ∈ xs := by simp [hasB]
/-- Of the first k words those that are among the sixteen. -/
def pgo (k : Nat) : List Int := ((List.range k).filter fun n : Nat => hasB sixteen (n : Int)).map fun n : Nat => (n : Int)
theorem pgo_zero : pgo 0 = [] := rfl
theorem pgo_yes {k : Nat} (h : hasB sixteen (k : Int) = true) : pgo (k + 1) = pgo k ++ [(k : Int)] := by simp [pgo, List.range_succ, List.filter_append, h]
theorem pgo_no {k : Nat} (h : hasB sixteen (k : Int) = false) : pgo (k + 1) = pgo k := by simp [pgo, List.range_succ, List.filter_append, h]
theorem length_pgo (k : Nat) : (pgo k).length ≤ k := by
  unfold pgo; rw [List.length_map]
  have := List.length_filter_le (fun n : Nat => hasB sixteen (n : Int)) (List.range k)
  rwa [List.length_range] at this
def perf (p : Int) : List Int := if p = 1 then [0] else if p = 3 then [0, 7] else if p = 7 then pgo 128 else []
theorem perf_not {p : Int} (h1 : ¬ p = 1) (h3 : ¬ p = 3) (h7 : ¬ p = 7) : perf p = [] := by simp [perf, h1, h3, h7]
theorem perf_seven : perf 7 = pgo 128 := by simp [perf]
theorem length_perf (p : Int) : (perf p).length ≤ 128 := by
  unfold perf
  split
  · simp
  · split
    · simp
    · split
      · exact length_pgo 128
      · simp
theorem lost_nil {p : Int} {xs : List Int} (h : lostB p xs = true) : lostB p [] = true := by
  unfold lostB at h ⊢
  simp only [Bool.and_eq_true] at h
  simp [h.1, allB, ascB]

end Go.Proofs.YtebjhdipdffkgaaDoor.M
