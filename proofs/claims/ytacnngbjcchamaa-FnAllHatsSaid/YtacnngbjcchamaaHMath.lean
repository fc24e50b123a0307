/- Plain lemmas for the hats. -/
import Derived.Test.YtacnngbjcchamaaPMath
namespace Go.Proofs.Ytacnngbjcchamaa.M
open Go.RowKit (wrap64)

def hatsB (c : Int) (xs : List Int) : Bool := inB c 1 5 && (inB xs.length 1 5 && allB xs 0 (c - 1))
theorem wrap_sub1 {c : Int} (h : inB c 1 5 = true) : wrap64 (c - 1) = c - 1 := by
  have := inB_true.1 h
  exact Go.IntWalk.wrap64_in _ ⟨by omega, by omega⟩
theorem hats_no_c {c : Int} {xs : List Int} (h : inB c 1 5 = false) : hatsB c xs = false := by simp [hatsB, h]
theorem hats_bad {c : Int} {xs : List Int} {k : Nat} (hk : k < xs.length) (h : inB (nth xs k) 0 (wrap64 (c - 1)) = false) : hatsB c xs = false := by
  cases hc : inB c 1 5 with
  | false => exact hats_no_c hc
  | true =>
    rw [wrap_sub1 hc] at h
    simp [hatsB, allB_false hk (inB_false.1 h)]
theorem hats_all {c : Int} {xs : List Int} {n : Nat} (hn : xs.length = n) (hc : inB c 1 5 = true) (h : ∀ k, k < n → inB (nth xs k) 0 (wrap64 (c - 1)) = true) : hatsB c xs = inB (n : Int) 1 5 := by
  rw [wrap_sub1 hc] at h
  have : allB xs 0 (c - 1) = true := allB_iff.2 (fun k hk => inB_true.1 (h k (by omega)))
  simp [hatsB, hc, this, hn]
theorem hats_iff {c : Int} {xs : List Int} : hatsB c xs = true ↔ (1 ≤ c ∧ c ≤ 5) ∧ (1 ≤ xs.length ∧ xs.length ≤ 5) ∧ ∀ k, k < xs.length → 0 ≤ nth xs k ∧ nth xs k ≤ c - 1 := by
  unfold hatsB
  rw [Bool.and_eq_true, Bool.and_eq_true, inB_true, inB_true, allB_iff]
  constructor
  · rintro ⟨a, b, d⟩; exact ⟨a, by omega, d⟩
  · rintro ⟨a, b, d⟩; exact ⟨a, by omega, d⟩
theorem hats_zeros {c : Int} {xs : List Int} {n : Nat} (h : hatsB c xs = true) (hn : xs.length = n) : hatsB c (List.replicate n 0) = true := by
  rw [hats_iff] at h ⊢
  refine ⟨h.1, by simp; omega, fun k hk => ?_⟩
  have : nth (List.replicate n 0) k = 0 := by simp [nth]; simp at hk; simp [hk]
  omega
theorem tmod_add (x b : Int) : (x.tmod b + b) % b = x % b := by
  rw [Int.add_emod_right]
  have := Int.tmod_add_mul_tdiv x b
  have e : x % b = (x.tmod b + b * x.tdiv b) % b := by rw [this]
  rw [e, Int.add_mul_emod_self_left]
theorem hats_fits {c : Int} {xs : List Int} (h : hatsB c xs = true) : sumFits xs := by
  have h' := h
  unfold hatsB at h'
  simp only [Bool.and_eq_true] at h'
  obtain ⟨h1, h2, h3⟩ := h'
  rw [inB_true] at h1 h2
  exact sumFits_of h3 (by omega) (by omega) (by omega)
theorem hats_sum {c : Int} {xs : List Int} (h : hatsB c xs = true) : 0 ≤ sumL xs ∧ sumL xs ≤ 20 := by
  have h' := h
  unfold hatsB at h'
  simp only [Bool.and_eq_true] at h'
  obtain ⟨h1, h2, h3⟩ := h'
  rw [inB_true] at h1 h2
  have := sumL_bounds xs 0 (c - 1) h3
  have h4 : (c - 1) * (xs.length : Int) ≤ 4 * xs.length := Int.mul_le_mul_of_nonneg_right (by omega) (by omega)
  omega

theorem sum_split (xs : List Int) (k : Nat) (hk : k < xs.length) : sumL xs = sumL (xs.take k) + nth xs k + sumL (xs.drop (k + 1)) := by
  have e : xs = xs.take k ++ (nth xs k :: xs.drop (k + 1)) := by
    rw [nth_lt hk, ← List.drop_eq_getElem_cons hk, List.take_append_drop]
  conv => lhs; rw [e]
  rw [sumL_append, sumL]
  omega
theorem hats_seen {c : Int} {xs : List Int} (h : hatsB c xs = true) (k : Nat) (hk : k < xs.length) : 0 ≤ sumL xs - nth xs k ∧ sumL xs - nth xs k ≤ 4 * (c - 1) := by
  have h' := h
  unfold hatsB at h'
  simp only [Bool.and_eq_true] at h'
  obtain ⟨h1, h2, h3⟩ := h'
  rw [inB_true] at h1 h2
  have b1 := sumL_bounds _ 0 (c - 1) (allB_take h3 k)
  have b2 := sumL_bounds _ 0 (c - 1) (allB_drop h3 (k + 1))
  have l1 : (xs.take k).length = k := by simp; omega
  have l2 : (xs.drop (k + 1)).length = xs.length - (k + 1) := by simp
  rw [l1] at b1
  rw [l2] at b2
  have e := sum_split xs k hk
  have e2 : (c - 1) * (k : Int) + (c - 1) * ((xs.length - (k + 1) : Nat) : Int) = (c - 1) * ((xs.length - 1 : Nat) : Int) := by
    rw [← Int.mul_add]; congr 1; omega
  have e3 : (c - 1) * ((xs.length - 1 : Nat) : Int) ≤ (c - 1) * 4 := Int.mul_le_mul_of_nonneg_left (by omega) (by omega)
  omega

/-- What the k-th one guesses. -/
def guess (c : Int) (xs : List Int) (k : Nat) : Int := ((k : Int) - (sumL xs - nth xs k)) % c
/-- The first k guesses. -/
def gpre (c : Int) (xs : List Int) (k : Nat) : List Int := (List.range k).map (guess c xs)
theorem gpre_zero (c : Int) (xs : List Int) : gpre c xs 0 = [] := rfl
theorem gpre_succ (c : Int) (xs : List Int) (k : Nat) : gpre c xs (k + 1) = gpre c xs k ++ [guess c xs k] := by simp [gpre, List.range_succ]
theorem length_gpre (c : Int) (xs : List Int) (k : Nat) : (gpre c xs k).length = k := by simp [gpre]
def guessed (c : Int) (xs : List Int) : List Int := if hatsB c xs then gpre c xs xs.length else []
theorem guessed_not {c : Int} {xs : List Int} (h : hatsB c xs = false) : guessed c xs = [] := by simp [guessed, h]
theorem guessed_ok {c : Int} {xs : List Int} (h : hatsB c xs = true) : guessed c xs = gpre c xs xs.length := by simp [guessed, h]
theorem length_guessed (c : Int) (xs : List Int) : (guessed c xs).length ≤ 5 := by
  unfold guessed
  split
  · rename_i h; have := (hats_iff.1 h).2.1; rw [length_gpre]; omega
  · simp
theorem nth_gpre (c : Int) (xs : List Int) (n k : Nat) (h : k < n) : nth (gpre c xs n) k = guess c xs k := by simp [nth, gpre, h]
theorem guessed_hats {c : Int} {xs : List Int} (h : hatsB c xs = true) : hatsB c (guessed c xs) = true := by
  rw [guessed_ok h]
  rw [hats_iff] at h ⊢
  rw [length_gpre]
  refine ⟨h.1, h.2.1, fun k hk => ?_⟩
  rw [nth_gpre c xs _ k hk]
  unfold guess
  have h1 := Int.emod_nonneg ((k : Int) - (sumL xs - nth xs k)) (show c ≠ 0 by omega)
  have h2 := Int.emod_lt_of_pos ((k : Int) - (sumL xs - nth xs k)) (show 0 < c by omega)
  omega
theorem nth_set (xs : List Int) (k j : Nat) (x : Int) (hk : k < xs.length) : nth (xs.set k x) j = if j = k then x else nth xs j := by
  unfold nth
  rw [List.getElem?_set]
  by_cases h : k = j
  · subst h; simp [hk]
  · rw [if_neg h, if_neg (fun e => h e.symm)]
theorem sumL_set (xs : List Int) (k : Nat) (x : Int) (hk : k < xs.length) : sumL (xs.set k x) = sumL xs - nth xs k + x := by
  have e1 := sum_split xs k hk
  have e2 := sum_split (xs.set k x) k (by simpa using hk)
  rw [nth_set xs k k x hk, if_pos rfl] at e2
  rw [List.take_set_of_le (Nat.le_refl k), List.drop_set_of_lt (by omega)] at e2
  omega
theorem guess_other (c : Int) (xs : List Int) (k : Nat) (x : Int) (hk : k < xs.length) : guess c (xs.set k x) k = guess c xs k := by
  unfold guess
  rw [sumL_set xs k x hk, nth_set xs k k x hk, if_pos rfl]
  congr 2
  omega
theorem hats_other {c : Int} {xs : List Int} (h : hatsB c xs = true) (k : Nat) (hk : k < xs.length) : hatsB c (xs.set k ((nth xs k + 1) % c)) = true := by
  rw [hats_iff] at h ⊢
  refine ⟨h.1, by simpa using h.2.1, fun j hj => ?_⟩
  rw [nth_set xs k j _ hk]
  split
  · have h1 := Int.emod_nonneg (nth xs k + 1) (show c ≠ 0 by omega)
    have h2 := Int.emod_lt_of_pos (nth xs k + 1) (show 0 < c by omega)
    omega
  · exact h.2.2 j (by simpa using hj)
theorem guess_other' {c : Int} {xs : List Int} (h : hatsB c xs = true) (k : Nat) (hk : k < xs.length) : nth (guessed c (xs.set k ((nth xs k + 1) % c))) k = nth (guessed c xs) k := by
  rw [guessed_ok h, guessed_ok (hats_other h k hk), nth_gpre c xs _ k hk, nth_gpre c _ _ k (by simpa using hk), guess_other c xs k _ hk]
theorem guess_spec (c : Int) (xs : List Int) (k : Nat) : ((k : Int) + c * 5 - (sumL xs - nth xs k)) % c = guess c xs k := by
  unfold guess
  rw [show (k : Int) + c * 5 - (sumL xs - nth xs k) = ((k : Int) - (sumL xs - nth xs k)) + c * 5 by omega, Int.add_mul_emod_self_left]
/-- The first k guesses, then zeros. -/
def gcop (c : Int) (xs : List Int) (n k : Nat) : List Int := gpre c xs k ++ List.replicate (n - k) 0
theorem gcop_zero (c : Int) (xs : List Int) (n : Nat) : gcop c xs n 0 = List.replicate n 0 := by simp [gcop, gpre]
theorem gcop_all (c : Int) (xs : List Int) (n : Nat) : gcop c xs n n = gpre c xs n := by simp [gcop]
theorem gcop_set (c : Int) (xs : List Int) (n k : Nat) (hk : k < n) : (gcop c xs n k).set k (guess c xs k) = gcop c xs n (k + 1) := by
  unfold gcop
  have e : n - k = (n - (k + 1)) + 1 := by omega
  rw [e, List.replicate_succ, List.set_append_right _ _ (by rw [length_gpre]; exact Nat.le_refl _), length_gpre, Nat.sub_self, List.set_cons_zero, gpre_succ]
  simp
theorem hats_tail {c : Int} {xs : List Int} (h : hatsB c xs = true) : allB (xs.drop 1) 0 (c - 1) = true ∧ 1 ≤ c ∧ c ≤ 5 ∧ (xs.drop 1).length ≤ 4 := by
  have h' := h
  unfold hatsB at h'
  simp only [Bool.and_eq_true] at h'
  obtain ⟨h1, h2, h3⟩ := h'
  rw [inB_true] at h1 h2
  exact ⟨allB_drop h3 1, by omega, by omega, by simp; omega⟩
theorem hats_fits_tail {c : Int} {xs : List Int} (h : hatsB c xs = true) : sumFits (xs.drop 1) := by
  obtain ⟨h1, h2, h3, h4⟩ := hats_tail h
  exact sumFits_of h1 (by omega) (by omega) (by omega)
theorem hats_sum_tail {c : Int} {xs : List Int} (h : hatsB c xs = true) : 0 ≤ sumL (xs.drop 1) ∧ sumL (xs.drop 1) ≤ 4 * (c - 1) := by
  obtain ⟨h1, h2, h3, h4⟩ := hats_tail h
  have b := sumL_bounds _ 0 (c - 1) h1
  have e3 : (c - 1) * ((xs.drop 1).length : Int) ≤ (c - 1) * 4 := Int.mul_le_mul_of_nonneg_left (by omega) (by omega)
  omega
theorem hats_bounds_tail {c : Int} {xs : List Int} (h : hatsB c xs = true) : ∀ k, k < (xs.drop 1).length → 0 ≤ nth (xs.drop 1) k ∧ nth (xs.drop 1) k ≤ c - 1 := allB_iff.1 (hats_tail h).1
theorem psum_le {ts : List Int} {hi : Int} (h : allB ts 0 hi = true) (k : Nat) : 0 ≤ psum ts k ∧ psum ts k ≤ sumL ts := by
  have e : sumL ts = sumL (ts.take k) + sumL (ts.drop k) := by
    conv => lhs; rw [← List.take_append_drop k ts]
    rw [sumL_append]
  have b1 := sumL_bounds _ 0 hi (allB_take h k)
  have b2 := sumL_bounds _ 0 hi (allB_drop h k)
  unfold psum
  omega
theorem hats_psum_tail {c : Int} {xs : List Int} (h : hatsB c xs = true) : ∀ k, 0 ≤ psum (xs.drop 1) k ∧ psum (xs.drop 1) k ≤ sumL (xs.drop 1) := fun k => psum_le (hats_tail h).1 k
/-- What the people say: the remainder of the sum of all hats but the first, then these hats. -/
def said (c : Int) (xs : List Int) : List Int := if hatsB c xs then sumL (xs.drop 1) % c :: xs.drop 1 else []
theorem said_not {c : Int} {xs : List Int} (h : hatsB c xs = false) : said c xs = [] := by simp [said, h]
theorem said_ok {c : Int} {xs : List Int} (h : hatsB c xs = true) : said c xs = sumL (xs.drop 1) % c :: xs.drop 1 := by simp [said, h]
theorem length_said (c : Int) (xs : List Int) : (said c xs).length ≤ 5 := by
  unfold said
  split
  · rename_i h; have := (hats_iff.1 h).2.1; simp; omega
  · simp
def spre (c : Int) (ts : List Int) (k : Nat) : List Int := sumL ts % c :: ts.take k
theorem spre_zero (c : Int) (ts : List Int) : spre c ts 0 = [sumL ts % c] := by simp [spre]
theorem spre_succ (c : Int) (ts : List Int) (k : Nat) (h : k < ts.length) : spre c ts (k + 1) = spre c ts k ++ [nth ts k] := by simp [spre, take_succ ts k h]
theorem spre_all (c : Int) (ts : List Int) (n : Nat) (h : ts.length ≤ n) : spre c ts n = sumL ts % c :: ts := by simp [spre, List.take_of_length_le h]
theorem length_spre (c : Int) (ts : List Int) (k : Nat) (h : k ≤ ts.length) : (spre c ts k).length = k + 1 := by simp [spre]; omega
theorem nth_spre0 (c : Int) (ts : List Int) (k : Nat) : nth (spre c ts k) 0 = sumL ts % c := by simp [nth, spre]
/-- What the k-th one behind says is their own hat. -/
theorem said_own (c : Int) (ts : List Int) (k : Nat) (h0 : 0 ≤ nth ts k) (h1 : nth ts k ≤ c - 1) :
    (sumL ts % c - psum ts k - (sumL ts - psum ts k - nth ts k)) % c = nth ts k := by
  have e : sumL ts % c - psum ts k - (sumL ts - psum ts k - nth ts k) = nth ts k + (-(sumL ts / c)) * c := by
    have := Int.emod_add_mul_ediv (sumL ts) c
    rw [Int.neg_mul, Int.mul_comm (sumL ts / c) c]
    omega
  rw [e, Int.add_mul_emod_self_right]
  exact Int.emod_eq_of_lt h0 (by omega)
theorem hats_drop {c : Int} {xs : List Int} (h : hatsB c xs = true) : ∀ j, sumFits (xs.drop j) ∧ 0 ≤ sumL (xs.drop j) ∧ sumL (xs.drop j) ≤ 5 * (c - 1) := by
  intro j
  have h' := h
  unfold hatsB at h'
  simp only [Bool.and_eq_true] at h'
  obtain ⟨h1, h2, h3⟩ := h'
  rw [inB_true] at h1 h2
  have b := sumL_bounds _ 0 (c - 1) (allB_drop h3 j)
  have hl : (xs.drop j).length ≤ 5 := by rw [List.length_drop]; omega
  have e3 : (c - 1) * ((xs.drop j).length : Int) ≤ (c - 1) * 5 := Int.mul_le_mul_of_nonneg_left (by omega) (by omega)
  exact ⟨sumFits_of (allB_drop h3 j) (by omega) (by omega) (by omega), by omega, by omega⟩
/-- What the first k say. -/
def sgo (c : Int) (xs : List Int) (k : Nat) : List Int := (sumL (xs.drop 1) % c :: xs.drop 1).take k
theorem sgo_zero (c : Int) (xs : List Int) : sgo c xs 0 = [] := rfl
theorem sgo_one (c : Int) (xs : List Int) : sgo c xs 1 = [sumL (xs.drop 1) % c] := by simp [sgo]
theorem sgo_first (c : Int) (xs : List Int) (k : Nat) (h : k = 0) : sgo c xs (k + 1) = sgo c xs k ++ [sumL (xs.drop (k + 1)) % c] := by subst h; simp [sgo]
theorem length_sgo (c : Int) (xs : List Int) (k : Nat) (h : k ≤ xs.length) (hx : 0 < xs.length) : (sgo c xs k).length = k := by simp [sgo]; omega
theorem sgo_succ (c : Int) (xs : List Int) (k : Nat) (h1 : 1 ≤ k) (h : k < xs.length) : sgo c xs (k + 1) = sgo c xs k ++ [nth xs k] := by
  unfold sgo
  rw [take_succ _ k (by simp; omega)]
  congr 2
  obtain ⟨j, rfl⟩ : ∃ j, k = j + 1 := ⟨k - 1, by omega⟩
  simp [nth]
theorem sgo_all (c : Int) (xs : List Int) (h : 0 < xs.length) : sgo c xs xs.length = sumL (xs.drop 1) % c :: xs.drop 1 := by
  unfold sgo; rw [List.take_of_length_le (by simp; omega)]
theorem sgo_tail (c : Int) (xs : List Int) (k : Nat) : (sgo c xs (k + 1)).drop 1 = (xs.drop 1).take k := by simp [sgo]
theorem nth_sgo0 (c : Int) (xs : List Int) (k : Nat) (h : 1 ≤ k) : nth (sgo c xs k) 0 = sumL (xs.drop 1) % c := by
  obtain ⟨j, rfl⟩ : ∃ j, k = j + 1 := ⟨k - 1, by omega⟩
  simp [nth, sgo]
theorem sgo_sum {c : Int} {xs : List Int} (h : hatsB c xs = true) (k : Nat) (h1 : 1 ≤ k) : sumFits ((sgo c xs k).drop 1) ∧ 0 ≤ sumL ((sgo c xs k).drop 1) ∧ sumL ((sgo c xs k).drop 1) ≤ 5 * (c - 1) := by
  obtain ⟨j, rfl⟩ : ∃ j, k = j + 1 := ⟨k - 1, by omega⟩
  rw [sgo_tail]
  obtain ⟨a1, a2, a3, a4⟩ := hats_tail h
  have hl : ((xs.drop 1).take j).length ≤ 5 := by rw [List.length_take]; omega
  have b := sumL_bounds _ 0 (c - 1) (allB_take a1 j)
  have e3 : (c - 1) * (((xs.drop 1).take j).length : Int) ≤ (c - 1) * 5 := Int.mul_le_mul_of_nonneg_left (by omega) (by omega)
  exact ⟨sumFits_of (allB_take a1 j) (by omega) (by omega) (by omega), by omega, by omega⟩
theorem said_spec {c : Int} {xs : List Int} (h : hatsB c xs = true) (k : Nat) (h1 : 1 ≤ k) (hk : k < xs.length) :
    (sumL (xs.drop 1) % c + c * 2 * 5 - sumL ((sgo c xs k).drop 1) - sumL (xs.drop (k + 1))) % c = nth xs k := by
  obtain ⟨j, rfl⟩ : ∃ j, k = j + 1 := ⟨k - 1, by omega⟩
  rw [sgo_tail]
  have hx := (hats_iff.1 h).2.2 (j + 1) hk
  have e0 := sum_split (xs.drop 1) j (by simp; omega)
  have e1 : nth (xs.drop 1) j = nth xs (j + 1) := by simp [nth]
  have e2 : (xs.drop 1).drop (j + 1) = xs.drop (j + 1 + 1) := by rw [List.drop_drop]; congr 1; omega
  rw [e1, e2] at e0
  have := Int.emod_add_mul_ediv (sumL (xs.drop 1)) c
  have e : sumL (xs.drop 1) % c + c * 2 * 5 - sumL ((xs.drop 1).take j) - sumL (xs.drop (j + 1 + 1)) = nth xs (j + 1) + c * (10 - sumL (xs.drop 1) / c) := by
    rw [Int.mul_sub]; omega
  rw [e, Int.add_mul_emod_self_left]
  exact Int.emod_eq_of_lt hx.1 (by omega)
/-- In how many of the first k places two lists are the same. -/
def mat (xs ys : List Int) : Nat → Nat
  | 0 => 0
  | k + 1 => mat xs ys k + if nth xs k = nth ys k then 1 else 0
theorem mat_succ (xs ys : List Int) (k : Nat) : mat xs ys (k + 1) = mat xs ys k + if nth xs k = nth ys k then 1 else 0 := rfl
theorem len_guessed {c : Int} {xs : List Int} (h : hatsB c xs = true) : (guessed c xs).length = xs.length := by rw [guessed_ok h, length_gpre]
theorem len_said {c : Int} {xs : List Int} (h : hatsB c xs = true) : (said c xs).length = xs.length := by
  have := (hats_iff.1 h).2.1
  rw [said_ok h]; simp; omega
/-- How many are right: among the guesses; in a row. -/
def rightOf (c : Int) (xs : List Int) : Int := if hatsB c xs then (mat (guessed c xs) xs xs.length : Nat) else -1
def rightRow (c : Int) (xs : List Int) : Int := if hatsB c xs then (mat (said c xs) xs xs.length : Nat) else -1
theorem mat_le (xs ys : List Int) (k : Nat) : mat xs ys k ≤ k := by
  induction k with
  | zero => simp [mat]
  | succ k ih => unfold mat; split <;> omega
theorem rightOf_no {c : Int} {xs : List Int} (h : hatsB c xs = false) : rightOf c xs = -1 := by simp [rightOf, h]
theorem rightRow_no {c : Int} {xs : List Int} (h : hatsB c xs = false) : rightRow c xs = -1 := by simp [rightRow, h]
/-- How many of the first k numbers have the remainder of s. -/
def cnt (c s : Int) : Nat → Nat
  | 0 => 0
  | k + 1 => cnt c s k + if (k : Int) % c = s % c then 1 else 0
theorem cnt_succ (c s : Int) (k : Nat) : cnt c s (k + 1) = cnt c s k + if (k : Int) % c = s % c then 1 else 0 := rfl
theorem cnt_le (c s : Int) (k : Nat) : cnt c s k ≤ k := by
  induction k with
  | zero => simp [cnt]
  | succ k ih => rw [cnt_succ]; split <;> omega
theorem guess_right {c : Int} {xs : List Int} (h : hatsB c xs = true) (k : Nat) (hk : k < xs.length) : (nth (guessed c xs) k = nth xs k) ↔ (k : Int) % c = sumL xs % c := by
  obtain ⟨⟨hc1, _⟩, _, hall⟩ := hats_iff.1 h
  have hx := hall k hk
  rw [guessed_ok h, nth_gpre c xs _ k hk]
  unfold guess
  have e1 : nth xs k % c = nth xs k := Int.emod_eq_of_lt hx.1 (by omega)
  constructor
  · intro e
    have e' : ((k : Int) - (sumL xs - nth xs k)) % c = nth xs k % c := by rw [e, e1]
    have e2 : ((k : Int) - (sumL xs - nth xs k) - nth xs k) % c = 0 := Int.emod_eq_emod_iff_emod_sub_eq_zero.1 e'
    exact Int.emod_eq_emod_iff_emod_sub_eq_zero.2 (by rw [← e2]; congr 1; omega)
  · intro e
    have e2 := Int.emod_eq_emod_iff_emod_sub_eq_zero.1 e
    have e3 : ((k : Int) - (sumL xs - nth xs k)) % c = nth xs k % c := Int.emod_eq_emod_iff_emod_sub_eq_zero.2 (by rw [← e2]; congr 1; omega)
    rw [e3, e1]
theorem rightOf_cnt {c : Int} {xs : List Int} (h : hatsB c xs = true) : rightOf c xs = (cnt c (sumL xs) xs.length : Nat) := by
  have key : ∀ k, k ≤ xs.length → mat (guessed c xs) xs k = cnt c (sumL xs) k := by
    intro k
    induction k with
    | zero => intro _; rfl
    | succ k ih =>
      intro hk
      rw [mat_succ, cnt_succ, ih (by omega)]
      by_cases e : nth (guessed c xs) k = nth xs k
      · rw [if_pos e, if_pos ((guess_right h k (by omega)).1 e)]
      · rw [if_neg e, if_neg (fun e' => e ((guess_right h k (by omega)).2 e'))]
  unfold rightOf
  rw [if_pos h, key _ (Nat.le_refl _)]
theorem cnt_one (c s : Int) (h1 : 1 ≤ c) (h5 : c ≤ 5) : ∀ n : Nat, (n : Int) = c → cnt c s n = 1 := by
  intro n hn
  have hr0 := Int.emod_nonneg s (show c ≠ 0 by omega)
  have hr1 := Int.emod_lt_of_pos s (show 0 < c by omega)
  rcases (by omega : c = 1 ∨ c = 2 ∨ c = 3 ∨ c = 4 ∨ c = 5) with rfl | rfl | rfl | rfl | rfl
  · obtain rfl : n = 1 := by omega
    simp only [cnt]; simp
  · obtain rfl : n = 2 := by omega
    simp only [cnt]; split <;> split <;> omega
  · obtain rfl : n = 3 := by omega
    simp only [cnt]; split <;> split <;> split <;> omega
  · obtain rfl : n = 4 := by omega
    simp only [cnt]; split <;> split <;> split <;> split <;> omega
  · obtain rfl : n = 5 := by omega
    simp only [cnt]; split <;> split <;> split <;> split <;> split <;> omega
theorem rightRow_val {c : Int} {xs : List Int} (h : hatsB c xs = true) : rightRow c xs = if sumL (xs.drop 1) % c = nth xs 0 then (xs.length : Int) else (xs.length : Int) - 1 := by
  have hn := (hats_iff.1 h).2.1
  have e0 : ∀ k, nth (sumL (xs.drop 1) % c :: xs.drop 1) (k + 1) = nth xs (k + 1) := fun k => by simp [nth]
  have e1 : nth (sumL (xs.drop 1) % c :: xs.drop 1) 0 = sumL (xs.drop 1) % c := rfl
  have key : ∀ k, mat (said c xs) xs (k + 1) = k + if sumL (xs.drop 1) % c = nth xs 0 then 1 else 0 := by
    rw [said_ok h]
    intro k
    induction k with
    | zero => rw [mat_succ, e1]; simp [mat]
    | succ k ih => rw [mat_succ, ih, e0, if_pos rfl]; omega
  obtain ⟨k, hk⟩ : ∃ k, xs.length = k + 1 := ⟨xs.length - 1, by omega⟩
  unfold rightRow
  rw [if_pos h, hk, key]
  split <;> omega

end Go.Proofs.Ytacnngbjcchamaa.M
