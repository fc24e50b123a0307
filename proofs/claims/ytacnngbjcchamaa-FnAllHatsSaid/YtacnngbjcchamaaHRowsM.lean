/- Plain lemmas on all rows of numbers: as the program and as the reference lay them. No condition. -/
import Derived.Test.YtacnngbjcchamaaHMath
namespace Go.Proofs.Ytacnngbjcchamaa.M

/-- All rows of m numbers below c, the lesser number at the first difference first. -/
def rowsL (c : Nat) : Nat → List (List Int)
  | 0 => [[]]
  | m + 1 => (List.range c).flatMap fun n : Nat => (rowsL c m).map fun r => (n : Int) :: r
/-- Those that begin with pre. -/
def rowsF (c m : Nat) (pre : List Int) : List (List Int) := (rowsL c m).map (pre ++ ·)
/-- Those that begin with pre and one of the first k numbers. -/
def rowsK (c m : Nat) (pre : List Int) (k : Nat) : List (List Int) := (List.range k).flatMap fun n : Nat => rowsF c m (pre ++ [(n : Int)])
theorem rowsF_zero (c : Nat) (pre : List Int) : rowsF c 0 pre = [pre] := by simp [rowsF, rowsL]
theorem rowsK_zero (c m : Nat) (pre : List Int) : rowsK c m pre 0 = [] := rfl
theorem rowsK_succ (c m : Nat) (pre : List Int) (k : Nat) : rowsK c m pre (k + 1) = rowsK c m pre k ++ rowsF c m (pre ++ [(k : Int)]) := by simp [rowsK, List.range_succ]
theorem rowsF_succ (c m : Nat) (pre : List Int) : rowsF c (m + 1) pre = rowsK c m pre c := by
  simp [rowsF, rowsK, rowsL, List.map_flatMap, List.map_map, Function.comp_def]
theorem rowsF_nil (c m : Nat) : rowsF c m [] = rowsL c m := by simp [rowsF]
theorem len_rowsL (c : Nat) : ∀ m, (rowsL c m).length = c ^ m
  | 0 => rfl
  | m + 1 => by
    have hs : ∀ n : Nat, ((List.range n).map fun _ => c ^ m).sum = n * c ^ m := fun n => by
      induction n with
      | zero => simp
      | succ n ih => rw [List.range_succ, List.map_append, List.sum_append, ih]; simp [Nat.succ_mul]
    simp [rowsL, len_rowsL c m, List.length_flatMap]
    rw [hs, Nat.pow_succ, Nat.mul_comm]
theorem len_rowsF (c m : Nat) (pre : List Int) : (rowsF c m pre).length = c ^ m := by simp [rowsF, len_rowsL]
theorem len_rowsK (c m : Nat) (pre : List Int) : ∀ k, (rowsK c m pre k).length = k * c ^ m
  | 0 => by simp [rowsK]
  | k + 1 => by rw [rowsK_succ, List.length_append, len_rowsK c m pre k, len_rowsF, Nat.succ_mul]
theorem mem_rowsL {c : Nat} : ∀ {m : Nat} {r : List Int}, r ∈ rowsL c m → r.length = m ∧ ∀ k, k < m → 0 ≤ nth r k ∧ nth r k ≤ (c : Int) - 1
  | 0, r, h => by simp [rowsL] at h; subst h; exact ⟨rfl, fun k hk => by omega⟩
  | m + 1, r, h => by
    simp only [rowsL, List.mem_flatMap, List.mem_range, List.mem_map] at h
    obtain ⟨n, hn, q, hq, rfl⟩ := h
    obtain ⟨h1, h2⟩ := mem_rowsL hq
    refine ⟨by simp [h1], fun k hk => ?_⟩
    cases k with
    | zero => simp [nth]; omega
    | succ k => have := h2 k (by omega); simpa [nth] using this
/-- The number of so many rows. -/
def powN (c : Nat) : Nat → Nat
  | 0 => 1
  | m + 1 => powN c m * c
theorem powN_eq (c : Nat) : ∀ m, powN c m = c ^ m
  | 0 => rfl
  | m + 1 => by simp [powN, powN_eq c m, Nat.pow_succ]
theorem powN_le {c : Nat} (h : c ≤ 6) : ∀ m, m ≤ 6 → powN c m ≤ 46656 := by
  intro m hm
  rw [powN_eq]
  calc c ^ m ≤ 6 ^ m := Nat.pow_le_pow_left h m
    _ ≤ 6 ^ 6 := Nat.pow_le_pow_right (by omega) hm
/-- The digits of n, from the first of m on, k of them. -/
def digs (c m n : Nat) : Nat → List Int
  | 0 => []
  | k + 1 => digs c m n k ++ [((n / (powN c m / powN c (k + 1)) % c : Nat) : Int)]
def digsB (c p : Nat) : Bool := decide (rowsL c p = (List.range (powN c p)).map fun n => digs c p n p)
theorem rows_digs : ∀ p : Nat, p < 6 → ∀ c : Nat, c < 6 → 1 ≤ p → 1 ≤ c → powN c p ≤ 1000 → digsB c p = true := by decide +kernel
/-- All ways to wear hats. -/
def waysOk (p c : Int) : Bool := inB p 1 5 && (inB c 1 5 && decide (powN c.toNat p.toNat ≤ 1000))
def waysL (p c : Int) : List (List Int) := if waysOk p c then rowsL c.toNat p.toNat else []
theorem ways_no {p c : Int} (h : waysOk p c = false) : waysL p c = [] := by simp [waysL, h]
theorem ways_ok {p c : Int} (h : waysOk p c = true) : waysL p c = rowsL c.toNat p.toNat := by simp [waysL, h]
theorem ways_parts {p c : Int} (h : waysOk p c = true) : (1 ≤ p ∧ p ≤ 5) ∧ (1 ≤ c ∧ c ≤ 5) ∧ powN c.toNat p.toNat ≤ 1000 := by
  unfold waysOk at h
  simp only [Bool.and_eq_true, decide_eq_true_eq] at h
  exact ⟨inB_true.1 h.1, inB_true.1 h.2.1, h.2.2⟩
theorem ways_len {p c : Int} (h : waysOk p c = true) : (waysL p c).length = powN c.toNat p.toNat := by rw [ways_ok h, len_rowsL, powN_eq]
theorem ways_digs {p c : Int} (h : waysOk p c = true) : waysL p c = (List.range (powN c.toNat p.toNat)).map fun n => digs c.toNat p.toNat n p.toNat := by
  obtain ⟨hp, hc, hk⟩ := ways_parts h
  have := rows_digs p.toNat (by omega) c.toNat (by omega) (by omega) (by omega) hk
  unfold digsB at this
  rw [decide_eq_true_eq] at this
  rw [ways_ok h, this]
theorem ways_hats {p c : Int} {r : List Int} (h : r ∈ waysL p c) : hatsB c r = true ∧ (r.length : Int) = p := by
  cases hw : waysOk p c with
  | false => rw [ways_no hw] at h; cases h
  | true =>
    obtain ⟨hp, hc, -⟩ := ways_parts hw
    rw [ways_ok hw] at h
    obtain ⟨h1, h2⟩ := mem_rowsL h
    exact ⟨hats_iff.2 ⟨hc, by omega, fun k hk => by have := h2 k (by omega); omega⟩, by omega⟩
/-- Rows that follow each other differ. -/
def apartB : List (List Int) → Bool
  | a :: b :: r => !eqL b a && apartB (b :: r)
  | _ => true
theorem apart_all : ∀ p : Nat, p < 6 → ∀ c : Nat, c < 6 → 1 ≤ p → 1 ≤ c → powN c p ≤ 1000 → apartB (rowsL c p) = true := by decide +kernel
theorem apart_at : ∀ {l : List (List Int)} {k : Nat} {a b : List Int}, apartB l = true → l[k]? = some a → l[k + 1]? = some b → eqL b a = false
  | [], _, _, _, _, h, _ => by simp at h
  | [_], k, _, _, _, _, h => by simp at h
  | x :: y :: r, 0, a, b, h, h1, h2 => by
    simp at h1 h2
    subst h1 h2
    simp [apartB] at h
    exact h.1
  | x :: y :: r, k + 1, a, b, h, h1, h2 => by
    simp [apartB] at h
    exact apart_at (l := y :: r) (k := k) h.2 (by simpa using h1) (by simpa using h2)
theorem ways_apart {p c : Int} {k : Nat} {a b : List Int} (h1 : (waysL p c)[k]? = some a) (h2 : (waysL p c)[k + 1]? = some b) : eqL b a = false := by
  cases hw : waysOk p c with
  | false => rw [ways_no hw] at h1; simp at h1
  | true =>
    obtain ⟨hp, hc, hk⟩ := ways_parts hw
    rw [ways_ok hw] at h1 h2
    exact apart_at (apart_all p.toNat (by omega) c.toNat (by omega) (by omega) (by omega) hk) h1 h2
/-- The least of what the rows give. -/
def leastL (f : List Int → Int) : List (List Int) → Int → Int
  | [], l => l
  | r :: q, l => leastL f q (if l < 0 ∨ f r < l then f r else l)
theorem leastL_snoc (f : List Int → Int) : ∀ (q : List (List Int)) (r : List Int) (l : Int), leastL f (q ++ [r]) l = if leastL f q l < 0 ∨ f r < leastL f q l then f r else leastL f q l
  | [], _, _ => rfl
  | _ :: q, r, _ => leastL_snoc f q r _
def always (p c : Int) : Int := leastL (rightOf c) (waysL p c) (-1)
theorem always_all : ∀ p : Nat, p < 6 → ∀ c : Nat, c < 6 → 1 ≤ p → 1 ≤ c → powN c p ≤ 1000 → leastL (rightOf (c : Int)) (rowsL c p) (-1) = ((p / c : Nat) : Int) := by decide +kernel
theorem always_no {p c : Int} (h : waysOk p c = false) : always p c = -1 := by unfold always; rw [ways_no h]; rfl
theorem always_ok {p c : Int} (h : waysOk p c = true) : always p c = p / c ∧ 0 ≤ p / c := by
  obtain ⟨hp, hc, hk⟩ := ways_parts h
  have := always_all p.toNat (by omega) c.toNat (by omega) (by omega) (by omega) hk
  obtain ⟨P, rfl⟩ := Int.eq_ofNat_of_zero_le (show 0 ≤ p by omega)
  obtain ⟨C, rfl⟩ := Int.eq_ofNat_of_zero_le (show 0 ≤ c by omega)
  unfold always
  rw [ways_ok h]
  simp only [Int.toNat_natCast] at this ⊢
  rw [this]
  exact ⟨by simp, Int.ediv_nonneg (by omega) (by omega)⟩

end Go.Proofs.Ytacnngbjcchamaa.M
