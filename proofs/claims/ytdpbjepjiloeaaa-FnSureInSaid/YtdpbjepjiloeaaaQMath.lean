/- The list of all questions about a row. No condition. -/
import Derived.Test.YtdpbjepjiloeaaaKMath
import Derived.Test.YtdpbjepjiloeaaaRoR
namespace Go.Proofs.Ytdpbjepjiloeaaa.M

/-- The row q with one number more, from 0 on, n of them. -/
def ups (q : List Int) (n : Nat) : List (List Int) := (List.range n).map fun (k : Nat) => q ++ [(k : Int)]
theorem ups_zero (q : List Int) : ups q 0 = [] := rfl
theorem ups_succ (q : List Int) (n : Nat) : ups q (n + 1) = ups q n ++ [q ++ [(n : Int)]] := by simp [ups, List.range_succ]
theorem length_ups (q : List Int) (n : Nat) : (ups q n).length = n := by simp [ups]
theorem mem_ups {q x : List Int} {n : Nat} : x ∈ ups q n ↔ ∃ k : Nat, k < n ∧ x = q ++ [(k : Int)] := by
  simp only [ups, List.mem_map, List.mem_range]
  constructor
  · rintro ⟨k, hk, rfl⟩; exact ⟨k, hk, rfl⟩
  · rintro ⟨k, hk, rfl⟩; exact ⟨k, hk, rfl⟩
/-- Each row with one number more, from 0 to a. -/
def ga (a : Nat) : List (List Int) → List (List Int)
  | [] => []
  | q :: r => ups q (a + 1) ++ ga a r
theorem ga_append (a : Nat) : ∀ (l m : List (List Int)), ga a (l ++ m) = ga a l ++ ga a m
  | [], m => rfl
  | q :: l, m => by simp [ga, ga_append a l m]
theorem ga_take {a : Nat} {l : List (List Int)} {i : Nat} (h : i < l.length) : ga a (l.take (i + 1)) = ga a (l.take i) ++ ups (nthR l i) (a + 1) := by
  have e : l.take (i + 1) = l.take i ++ [nthR l i] := by
    rw [List.take_add_one, nthR_lt h]; rfl
  rw [e, ga_append]
  simp [ga]
theorem length_ga (a : Nat) : ∀ l : List (List Int), (ga a l).length = l.length * (a + 1)
  | [] => by simp [ga]
  | q :: r => by simp [ga, length_ups, length_ga a r, Nat.add_mul]; omega
theorem mem_ga {a : Nat} {x : List Int} : ∀ {l : List (List Int)}, x ∈ ga a l ↔ ∃ q ∈ l, ∃ k : Nat, k < a + 1 ∧ x = q ++ [(k : Int)]
  | [] => by simp [ga]
  | q :: r => by
    simp only [ga, List.mem_append, mem_ups, mem_ga (l := r), List.mem_cons]
    constructor
    · rintro (⟨k, hk, rfl⟩ | ⟨p, hp, h⟩)
      · exact ⟨q, .inl rfl, k, hk, rfl⟩
      · exact ⟨p, .inr hp, h⟩
    · rintro ⟨p, rfl | hp, h⟩
      · exact .inl h
      · exact .inr ⟨p, hp, h⟩
/-- The questions about the first k numbers. -/
def qs (xs : List Int) : Nat → List (List Int)
  | 0 => [[]]
  | k + 1 => ga (nth xs k).toNat (qs xs k)
theorem nth_snoc {q : List Int} {y : Int} {j : Nat} : nth (q ++ [y]) j = if j < q.length then nth q j else if j = q.length then y else 0 := by
  by_cases h : j < q.length
  · simp [nth, h, List.getElem?_append_left h]
  · rw [if_neg h]
    by_cases e : j = q.length
    · subst e; simp [nth]
    · simp [nth, e]; rw [List.getElem?_eq_none (by simp; omega)]; rfl
theorem mem_qs {xs x : List Int} : ∀ {k : Nat}, (∀ j, j < k → 0 ≤ nth xs j) → (x ∈ qs xs k ↔ x.length = k ∧ ∀ j, j < k → 0 ≤ nth x j ∧ nth x j ≤ nth xs j)
  | 0, _ => by simp [qs]
  | k + 1, h0 => by
    simp only [qs, mem_ga]
    constructor
    · rintro ⟨q, hq, n, hn, rfl⟩
      obtain ⟨hl, hb⟩ := (mem_qs (k := k) (fun j hj => h0 j (by omega))).1 hq
      refine ⟨by simp [hl], fun j hj => ?_⟩
      have := h0 k (by omega)
      rw [nth_snoc]
      by_cases e : j < q.length
      · rw [if_pos e]; exact hb j (by omega)
      · have : j = k := by omega
        subst this
        rw [if_neg e, if_pos hl.symm]; omega
    · rintro ⟨hl, hb⟩
      have hk := hb k (by omega)
      have h0k := h0 k (by omega)
      refine ⟨x.take k, (mem_qs (k := k) (fun j hj => h0 j (by omega))).2 ⟨by simp; omega, fun j hj => ?_⟩, (nth x k).toNat, by omega, ?_⟩
      · have e : nth (x.take k) j = nth x j := by simp [nth, hj]
        rw [e]; exact hb j (by omega)
      · rw [Int.toNat_of_nonneg hk.1, ← take_succ x k (by omega)]
        rw [List.take_of_length_le (by omega)]
theorem mem_split {row x : List Int} (hk : knownB row = true) : x ∈ qs row row.length ↔ splitB row x = true := by
  obtain ⟨k1, k3, hx, -⟩ := known_parts hk
  rw [mem_qs fun j hj => (hx j hj).1]
  constructor
  · rintro ⟨h1, h2⟩; exact split_of hk h1 fun j hj => inB_true.2 (h2 j hj)
  · intro h; obtain ⟨-, h2, h3⟩ := split_parts h; exact ⟨h2, h3⟩
theorem len_qs {row : List Int} (hk : knownB row = true) : ∀ k, k ≤ row.length → (qs row k).length ≤ 11 ^ k
  | 0, _ => by simp [qs]
  | k + 1, h => by
    obtain ⟨k1, k3, hx, -⟩ := known_parts hk
    have := len_qs hk k (by omega)
    have hb := hx k (by omega)
    rw [qs, length_ga, Nat.pow_succ]
    exact Nat.mul_le_mul this (by omega)
theorem row_len {xs : List Int} : ∀ {k : Nat} {x : List Int}, x ∈ qs xs k → x.length = k
  | 0, x, h => by simp [qs] at h; simp [h]
  | k + 1, x, h => by
    obtain ⟨q, hq, n, hn, rfl⟩ := mem_ga.1 h
    simp [row_len hq]
theorem nthR_mem {l : List (List Int)} {i : Nat} (h : i < l.length) : nthR l i ∈ l := List.mem_of_getElem? (nthR_lt h)
end Go.Proofs.Ytdpbjepjiloeaaa.M
