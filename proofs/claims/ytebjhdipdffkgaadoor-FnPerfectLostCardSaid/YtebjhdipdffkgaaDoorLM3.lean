/- Plain lemmas on covers. -/
import Derived.Test.YtebjhdipdffkgaaDoorGuess
namespace Go.Proofs.YtebjhdipdffkgaaDoor.M

theorem flip_lt : ∀ p : Nat, p < 8 → ∀ x : Nat, x < 2 ^ p → ∀ k : Nat, k < p → flipAt x k < 2 ^ p := by decide +kernel
theorem flip_flip : ∀ x : Nat, x < 128 → ∀ k : Nat, k < 7 → flipAt (flipAt x k) k = x ∧ zeroAt (flipAt x k) k = zeroAt x k ∧ ((x / 2 ^ k % 2 = 0 ∧ zeroAt x k = x ∧ oneAt x k = flipAt x k) ∨ (x / 2 ^ k % 2 = 1 ∧ oneAt x k = x ∧ zeroAt x k = flipAt x k)) := by decide +kernel
theorem guess_flip (xs : List Int) (x k : Nat) (hx : x < 128) (hk : k < 7) : guessN xs (flipAt x k) k = guessN xs x k := by
  unfold guessN oneAt
  rw [(flip_flip x hx k hk).2.1]
theorem guess_in (xs : List Int) (x k : Nat) : -1 ≤ guessN xs x k ∧ guessN xs x k ≤ 1 := by
  unfold guessN
  split
  · omega
  · split <;> omega

theorem guess_own {xs : List Int} {x k : Nat} (hx : x < 128) (hk : k < 7) :
    guessN xs x k = if hasB xs (x : Int) = hasB xs (flipAt x k : Nat) then -1 else if hasB xs (x : Int) = true then 1 - bitAt x k else bitAt x k := by
  obtain ⟨_, _, ⟨h0, hz, ho⟩ | ⟨h0, ho, hz⟩⟩ := flip_flip x hx k hk <;> unfold guessN bitAt <;> rw [hz, ho, h0]
  · cases hasB xs (x : Int) <;> cases hasB xs (flipAt x k : Nat) <;> simp
  · cases hasB xs (x : Int) <;> cases hasB xs (flipAt x k : Nat) <;> simp

def nearN (xs : List Int) (x q : Nat) : Bool := decide (∃ k, k < q ∧ hasB xs (flipAt x k : Nat) = true)
theorem near_zero (xs : List Int) (x : Nat) : nearN xs x 0 = false := by simp [nearN]
theorem near_succ (xs : List Int) (x k : Nat) : nearN xs x (k + 1) = (nearN xs x k || hasB xs (flipAt x k : Nat)) := by
  unfold nearN
  rw [Bool.eq_iff_iff, Bool.or_eq_true, decide_eq_true_eq, decide_eq_true_eq]
  constructor
  · rintro ⟨j, hj, h⟩
    by_cases e : j = k
    · subst e; exact .inr h
    · exact .inl ⟨j, by omega, h⟩
  · rintro (⟨j, hj, h⟩ | h)
    · exact ⟨j, by omega, h⟩
    · exact ⟨k, by omega, h⟩

theorem wins_near {xs : List Int} {x q : Nat} (hx : x < 128) (hq : q ≤ 7) : winsN xs x q = (nearN xs x q && !hasB xs (x : Int)) := by
  have hb : ∀ k, bitAt x k = 0 ∨ bitAt x k = 1 := fun k => by unfold bitAt; omega
  rw [Bool.eq_iff_iff]
  unfold winsN fineN someN nearN
  simp only [Bool.and_eq_true, decide_eq_true_eq, Bool.not_eq_true']
  cases hl : hasB xs (x : Int) with
  | false =>
    simp only [and_true]
    have key : ∀ k, k < q → guessN xs x k = if hasB xs (flipAt x k : Nat) = true then bitAt x k else -1 := fun k hk => by
      rw [guess_own hx (by omega), hl]
      cases hasB xs (flipAt x k : Nat) <;> simp
    constructor
    · rintro ⟨_, k, hk, h⟩
      refine ⟨k, hk, ?_⟩
      rw [key k hk] at h
      cases hf : hasB xs (flipAt x k : Nat) with
      | true => rfl
      | false => rw [hf] at h; simp at h
    · rintro ⟨k, hk, h⟩
      refine ⟨fun j hj => ?_, k, hk, ?_⟩
      · rw [key j hj]
        cases hasB xs (flipAt x j : Nat)
        · exact .inl (by simp)
        · exact .inr (by simp)
      · rw [key k hk, h]
        have := hb k
        simp
        omega
  | true =>
    simp only [Bool.true_eq_false, and_false, iff_false, not_and]
    intro h
    rintro ⟨k, hk, hg⟩
    have h1 := h k hk
    rw [guess_own hx (by omega), hl] at h1 hg
    have h2 := hb k
    cases hf : hasB xs (flipAt x k : Nat) <;> rw [hf] at h1 hg <;> simp at h1 hg <;> omega

theorem nodup_filter {l : List Nat} (p : Nat → Bool) (h : l.Nodup) : (l.filter p).Nodup := List.Pairwise.filter p h
theorem filter_both (p : List Nat) (f : Nat → Bool) : (p.filter f).length + (p.filter fun x => !f x).length = p.length := by
  induction p with
  | nil => rfl
  | cons a l ih =>
    cases h : f a <;> simp [h] <;> omega
theorem len_le_of_subset : ∀ {l m : List Nat}, l.Nodup → (∀ x ∈ l, x ∈ m) → l.length ≤ m.length
  | [], _, _, _ => by simp
  | a :: l, m, hn, hs => by
    have ha : a ∈ m := hs a (by simp)
    have hn' := List.nodup_cons.1 hn
    have h := len_le_of_subset (l := l) (m := m.erase a) hn'.2 fun x hx => by
      refine (List.mem_erase_of_ne ?_).2 (hs x (by simp [hx]))
      rintro rfl
      exact hn'.1 hx
    rw [List.length_erase_of_mem ha] at h
    have : 0 < m.length := List.length_pos_of_mem ha
    simp
    omega

theorem wonN_eq (xs : List Int) (q : Nat) : ∀ m, wonN xs q m = ((List.range m).filter fun x => winsN xs x q).length
  | 0 => rfl
  | m + 1 => by
    rw [List.range_succ, List.filter_append, List.length_append, ← wonN_eq xs q m]
    simp only [wonN]
    cases h : winsN xs m q <;> simp [h]

/-- The words that one change makes of the lost ones. -/
def reachL (xs : List Int) (q : Nat) : List Nat := (List.range q).flatMap fun k => xs.map fun l => flipAt l.toNat k
theorem length_reachL (xs : List Int) : ∀ q, (reachL xs q).length = q * xs.length
  | 0 => by simp [reachL]
  | q + 1 => by
    have := length_reachL xs q
    unfold reachL at *
    rw [List.range_succ, List.flatMap_append, List.length_append, this]
    simp [Nat.succ_mul]
theorem mem_reachL {xs : List Int} {q x : Nat} (hx : x < 128) (hq : q ≤ 7) (h : nearN xs x q = true) : x ∈ reachL xs q := by
  unfold nearN at h
  rw [decide_eq_true_eq] at h
  obtain ⟨k, hk, h⟩ := h
  unfold reachL
  rw [List.mem_flatMap]
  refine ⟨k, List.mem_range.2 hk, List.mem_map.2 ⟨_, hasB_mem.1 h, ?_⟩⟩
  exact (flip_flip x hx k (by omega)).1

theorem won_le {xs : List Int} {q : Nat} (hq : q ≤ 7) : wonN xs q (2 ^ q) ≤ q * xs.length := by
  have h128 := pow7 hq
  rw [wonN_eq, ← length_reachL]
  refine len_le_of_subset (nodup_filter _ List.nodup_range) fun x hx => ?_
  rw [List.mem_filter, List.mem_range] at hx
  rw [wins_near (by omega) hq, Bool.and_eq_true] at hx
  exact mem_reachL (by omega) hq hx.2.1

theorem reach_or (xs : List Int) (x q : Nat) : reachN xs x q = (hasB xs (x : Int) || nearN xs x q) := rfl

theorem cover_le {xs : List Int} {q : Nat} (hq : q ≤ 7) (h : coverN xs q = true) : 2 ^ q ≤ (q + 1) * xs.length := by
  have h128 := pow7 hq
  have hl := len_le_of_subset (l := List.range (2 ^ q)) (m := xs.map Int.toNat ++ reachL xs q) List.nodup_range fun x hx => by
    rw [List.mem_range] at hx
    unfold coverN at h
    rw [decide_eq_true_eq] at h
    have := h x hx
    rw [reach_or, Bool.or_eq_true] at this
    rw [List.mem_append]
    rcases this with h1 | h1
    · exact .inl (List.mem_map.2 ⟨_, hasB_mem.1 h1, by simp⟩)
    · exact .inr (mem_reachL (by omega) hq h1)
  rw [List.length_append, length_reachL] at hl
  simp at hl
  rw [Nat.succ_mul]
  omega

theorem nodup_of_asc : ∀ {xs : List Int}, ascB xs = true → xs.Nodup := by
  intro xs h
  have h1 := ascB_iff.1 h
  have h2 : ∀ d k, k + d + 1 < xs.length → nth xs k < nth xs (k + d + 1) := by
    intro d
    induction d with
    | zero => intro k hk; have := h1 (k + 1) (by omega) (by omega); simpa using this
    | succ d ih =>
      intro k hk
      have a := ih k (by omega)
      have b := h1 (k + (d + 1) + 1) hk (by omega)
      rw [show k + (d + 1) + 1 - 1 = k + d + 1 by omega] at b
      omega
  rw [List.nodup_iff_pairwise_ne, List.pairwise_iff_getElem]
  intro i j hi hj hij e
  have := h2 (j - i - 1) i (by omega)
  rw [show i + (j - i - 1) + 1 = j by omega, nth_lt hi, nth_lt hj] at this
  omega

theorem lost_card {xs : List Int} {q : Nat} (h : lostB (q : Int) xs = true) : ((List.range (2 ^ q)).filter fun x : Nat => hasB xs (x : Int)).length = xs.length := by
  unfold lostB at h
  rw [Bool.and_eq_true, Bool.and_eq_true] at h
  obtain ⟨_, ha, hs⟩ := h
  have hn := nodup_of_asc hs
  have hin : ∀ x ∈ xs, 0 ≤ x ∧ x < 2 ^ q := fun x hx => by
    obtain ⟨k, hk, e⟩ := hasB_iff.1 (hasB_mem.2 hx)
    have := allB_iff.1 ha k hk
    rw [e] at this
    simp at this
    omega
  have e := nat_pow q
  apply Nat.le_antisymm
  · have := len_le_of_subset (l := (List.range (2 ^ q)).filter fun x : Nat => hasB xs (x : Int)) (m := xs.map Int.toNat) (nodup_filter _ List.nodup_range) fun x hx => by
      rw [List.mem_filter] at hx
      exact List.mem_map.2 ⟨_, hasB_mem.1 hx.2, by simp⟩
    simpa using this
  · have := len_le_of_subset (l := xs.map Int.toNat) (m := (List.range (2 ^ q)).filter fun x : Nat => hasB xs (x : Int)) (by
      unfold List.Nodup
      rw [List.pairwise_map]
      refine hn.imp_of_mem fun {a b} ha hb hab e => hab ?_
      have := hin a ha
      have := hin b hb
      omega) fun x hx => by
      obtain ⟨y, hy, rfl⟩ := List.mem_map.1 hx
      have := hin y hy
      rw [List.mem_filter, List.mem_range]
      exact ⟨by omega, hasB_mem.2 (by rw [Int.toNat_of_nonneg this.1]; exact hy)⟩
    simpa using this

theorem won_cover {xs : List Int} {q : Nat} (hq : q ≤ 7) (hl : lostB (q : Int) xs = true) (h : coverN xs q = true) : wonN xs q (2 ^ q) + xs.length = 2 ^ q := by
  have h128 := pow7 hq
  rw [wonN_eq, ← lost_card hl]
  have e : ((List.range (2 ^ q)).filter fun x => winsN xs x q) = (List.range (2 ^ q)).filter fun x : Nat => !hasB xs (x : Int) := by
    refine List.filter_congr fun x hx => ?_
    rw [List.mem_range] at hx
    unfold coverN at h
    rw [decide_eq_true_eq] at h
    have := h x hx
    rw [reach_or] at this
    rw [wins_near (by omega) hq]
    cases hb : hasB xs (x : Int) <;> rw [hb] at this <;> simp at this ⊢
    exact this
  rw [e]
  have := filter_both (List.range (2 ^ q)) fun x : Nat => hasB xs (x : Int)
  rw [List.length_range] at this
  omega

def iota (m : Nat) : List Int := (List.range m).map fun k : Nat => (k : Int)
theorem iota_zero : iota 0 = [] := rfl
theorem iota_succ (m : Nat) : iota (m + 1) = iota m ++ [(m : Int)] := by simp [iota, List.range_succ]
theorem length_iota (m : Nat) : (iota m).length = m := by simp [iota]
theorem nth_iota {m k : Nat} (h : k < m) : nth (iota m) k = (k : Int) := by
  rw [nth_lt (by rw [length_iota]; exact h)]
  simp [iota]
theorem lost_iota {q : Nat} (h0 : 1 ≤ q) (hq : q ≤ 7) : lostB (q : Int) (iota (2 ^ q)) = true := by
  rw [lost_ok (inB_true.2 (by omega)), Bool.and_eq_true]
  have e := nat_pow q
  refine ⟨allB_iff.2 fun k hk => ?_, ascB_iff.2 fun k hk h0 => ?_⟩
  · rw [length_iota] at hk
    rw [nth_iota hk]
    omega
  · rw [length_iota] at hk
    rw [nth_iota hk, nth_iota (by omega)]
    omega
theorem cover_iota (q : Nat) : coverN (iota (2 ^ q)) q = true := by
  refine cover_yes fun x hx => ?_
  rw [reach_or]
  have : hasB (iota (2 ^ q)) (x : Int) = true := hasB_yes (k := x) (by rw [length_iota]; exact hx) (nth_iota hx)
  rw [this, Bool.true_or]

theorem guess_cases {p : Int} {xs : List Int} {x k : Int} : guessW p xs x k = -2 ∨ ∃ q x' k' : Nat, p = q ∧ x = x' ∧ k = k' ∧ lostB (q : Int) xs = true ∧ x' < 2 ^ q ∧ k' < q ∧ q ≤ 7 ∧ guessW (q : Int) xs (x' : Int) (k' : Int) = guessN xs x' k' := by
  cases h1 : lostB p xs with
  | false => exact .inl (by simp [guessW, h1])
  | true =>
    obtain ⟨q, rfl, hq1, hq7⟩ := lost_p h1
    cases h2 : inB x 0 (2 ^ q - 1) with
    | false => exact .inl (by simp [guessW, h2])
    | true =>
      obtain ⟨x', rfl, hx'⟩ := inB_word h2
      cases h3 : inB k 0 ((q : Int) - 1) with
      | false => exact .inl (by simp [guessW, h3])
      | true =>
        obtain ⟨k', rfl, hk'⟩ := inB_nat h3
        exact .inr ⟨q, x', k', rfl, rfl, rfl, h1, hx', by omega, hq7, guess_ok h1 hx' (by omega)⟩
open Go.RowKit in
theorem turn_cases {x k : Nat} (hx : x < 128) (hk : k < 7) : ((bitAt x k == 1) = false ∧ wrap64 ((x : Int) + 2 ^ k) = (flipAt x k : Nat)) ∨ ((bitAt x k == 1) = true ∧ wrap64 ((x : Int) - 2 ^ k) = (flipAt x k : Nat) ∧ wrap64 ((x : Int) + 2 ^ k) = x + 2 ^ k) := by
  have h6 := two_pow_le (show k ≤ 6 by omega)
  have h0 := two_pow_pos k
  rcases Nat.mod_two_eq_zero_or_one (x / 2 ^ k) with hm | hm
  · left
    have Hf : (flipAt x k : Int) = x + 2 ^ k := by unfold flipAt; rw [hm, nat_pow]; rfl
    exact ⟨by unfold bitAt; rw [hm]; rfl, by rw [Hf]; exact wrap_small (by omega) (by omega)⟩
  · right
    have hl : 2 ^ k ≤ x := by
      rcases Nat.lt_or_ge x (2 ^ k) with hl | hl
      · rw [Nat.div_eq_of_lt hl] at hm; omega
      · exact hl
    have Hf : (flipAt x k : Int) = x - 2 ^ k := by unfold flipAt; rw [hm, nat_pow, if_pos rfl]; omega
    exact ⟨by unfold bitAt; rw [hm]; rfl, by rw [Hf]; exact wrap_small (by rw [nat_pow]; omega) (by omega), wrap_small (by omega) (by omega)⟩

end Go.Proofs.YtebjhdipdffkgaaDoor.M
