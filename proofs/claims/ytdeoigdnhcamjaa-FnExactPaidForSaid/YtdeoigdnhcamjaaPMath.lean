/- Plain lemmas on lists of integers: ranges, sums, copies, equality. No condition. -/
import Derived.IntWalk
import Derived.Lib.SlicesCompact
namespace Go.Proofs.Ytdeoigdnhcamjaa.M

def inB (n lo hi : Int) : Bool := decide (lo ≤ n ∧ n ≤ hi)
theorem inB_true {n lo hi : Int} : inB n lo hi = true ↔ lo ≤ n ∧ n ≤ hi := by simp [inB]
theorem inB_false {n lo hi : Int} : inB n lo hi = false ↔ ¬ (lo ≤ n ∧ n ≤ hi) := by simp [inB]

/-- The k-th number of a list; 0 behind its end. -/
def nth (xs : List Int) (k : Nat) : Int := xs[k]?.getD 0
theorem nth_lt {xs : List Int} {k : Nat} (h : k < xs.length) : nth xs k = xs[k] := by simp [nth, List.getElem?_eq_getElem h]

def sumL : List Int → Int
  | [] => 0
  | x :: r => x + sumL r
theorem sumL_append (a b : List Int) : sumL (a ++ b) = sumL a + sumL b := by
  induction a with
  | nil => simp [sumL]
  | cons x r ih => simp [sumL, ih]; omega
theorem take_succ (xs : List Int) (k : Nat) (h : k < xs.length) : xs.take (k + 1) = xs.take k ++ [nth xs k] := by
  rw [List.take_succ_eq_append_getElem h, nth_lt h]
theorem sumL_take_succ (xs : List Int) (k : Nat) (h : k < xs.length) : sumL (xs.take (k + 1)) = sumL (xs.take k) + nth xs k := by
  rw [take_succ xs k h, sumL_append]; simp [sumL]
/-- The sum of the first k. -/
def psum (xs : List Int) (k : Nat) : Int := sumL (xs.take k)
theorem psum_zero (xs : List Int) : psum xs 0 = 0 := rfl
theorem psum_succ (xs : List Int) (k : Nat) (h : k < xs.length) : psum xs (k + 1) = psum xs k + nth xs k := sumL_take_succ xs k h
theorem psum_all (xs : List Int) (n : Nat) (h : xs.length ≤ n) : psum xs n = sumL xs := by unfold psum; rw [List.take_of_length_le h]

def allB (xs : List Int) (lo hi : Int) : Bool := xs.all fun x => inB x lo hi
theorem allB_iff {xs : List Int} {lo hi : Int} : allB xs lo hi = true ↔ ∀ k, k < xs.length → lo ≤ nth xs k ∧ nth xs k ≤ hi := by
  unfold allB
  rw [List.all_eq_true]
  constructor
  · intro h k hk
    have := h xs[k] (List.getElem_mem hk)
    rw [inB_true] at this
    rw [nth_lt hk]; exact this
  · intro h x hx
    obtain ⟨k, hk, rfl⟩ := List.getElem_of_mem hx
    rw [inB_true, ← nth_lt hk]; exact h k hk
theorem allB_false {xs : List Int} {lo hi : Int} {k : Nat} (hk : k < xs.length) (h : ¬ (lo ≤ nth xs k ∧ nth xs k ≤ hi)) : allB xs lo hi = false := by
  cases e : allB xs lo hi with
  | false => rfl
  | true => exact absurd (allB_iff.1 e k hk) h

/-- The first k are copied. -/
def cop (xs : List Int) (n k : Nat) : List Int := xs.take k ++ List.replicate (n - k) 0
theorem cop_zero (xs : List Int) (n : Nat) : cop xs n 0 = List.replicate n 0 := by simp [cop]
theorem cop_all (xs : List Int) (n : Nat) (h : xs.length = n) : cop xs n n = xs := by simp [cop, ← h]
theorem cop_set (xs : List Int) (n k : Nat) (h : xs.length = n) (hk : k < n) : (cop xs n k).set k (nth xs k) = cop xs n (k + 1) := by
  unfold cop
  have e : n - k = (n - (k + 1)) + 1 := by omega
  have hl : (xs.take k).length = k := by simp; omega
  rw [e, List.replicate_succ, List.set_append_right _ _ (by omega), hl, Nat.sub_self, List.set_cons_zero, take_succ xs k (by omega)]
  simp

/-- Are two lists the same? -/
def eqL (xs ys : List Int) : Bool := decide (xs = ys)
theorem eqL_true {xs ys : List Int} : eqL xs ys = true ↔ xs = ys := by simp [eqL]
theorem eqL_refl (xs : List Int) : eqL xs xs = true := by simp [eqL]
theorem eqL_len {xs ys : List Int} (h : ¬ xs.length = ys.length) : eqL xs ys = false := by
  unfold eqL; simp; rintro rfl; exact h rfl
theorem eqL_ne {xs ys : List Int} {k : Nat} (_h1 : k < xs.length) (_h2 : k < ys.length) (h : ¬ nth xs k = nth ys k) : eqL xs ys = false := by
  unfold eqL; simp; rintro rfl; exact h rfl
theorem ext_nth {xs ys : List Int} (h : xs.length = ys.length) (hj : ∀ j, j < xs.length → nth xs j = nth ys j) : xs = ys := by
  apply List.ext_getElem h
  intro i h1 h2
  have := hj i h1
  rw [nth_lt h1, nth_lt h2] at this
  exact this
theorem eqL_all {xs ys : List Int} (h : xs.length = ys.length) (hj : ∀ j, j < xs.length → nth xs j = nth ys j) : eqL xs ys = true := by
  rw [eqL_true]; exact ext_nth h hj

/-- s, s + 1, .. : n numbers. -/
def marks (s : Int) (n : Nat) : List Int := (List.range n).map fun k : Nat => s + (k : Int)
theorem length_marks (s : Int) (n : Nat) : (marks s n).length = n := by simp [marks]
theorem nth_marks (s : Int) (n k : Nat) (h : k < n) : nth (marks s n) k = s + k := by simp [nth, marks, h]
/-- The first k are marked. -/
def mrk (xs : List Int) (s : Int) (k : Nat) : List Int := marks s k ++ xs.drop k
theorem mrk_zero (xs : List Int) (s : Int) : mrk xs s 0 = xs := by simp [mrk, marks]
theorem mrk_all (xs : List Int) (s : Int) (n : Nat) (h : xs.length = n) : mrk xs s n = marks s n := by simp [mrk, ← h]
theorem mrk_set (xs : List Int) (s : Int) (k : Nat) (h : k < xs.length) : (mrk xs s k).set k (s + k) = mrk xs s (k + 1) := by
  unfold mrk
  rw [List.set_append_right _ _ (by rw [length_marks]; exact Nat.le_refl _), length_marks, Nat.sub_self, List.drop_eq_getElem_cons h, List.set_cons_zero]
  simp [marks, List.range_succ]

/-- No sum of the first k passes an int. -/
def sumFits (xs : List Int) : Prop := ∀ k, k ≤ xs.length → -9223372036854775808 ≤ psum xs k ∧ psum xs k ≤ 9223372036854775807

theorem sumL_bounds (xs : List Int) (lo hi : Int) (h : allB xs lo hi = true) : lo * xs.length ≤ sumL xs ∧ sumL xs ≤ hi * xs.length := by
  induction xs with
  | nil => simp [sumL]
  | cons x r ih =>
    simp only [allB, List.all_cons, Bool.and_eq_true] at h
    have h1 := inB_true.1 h.1
    have h2 := ih h.2
    simp only [sumL, List.length_cons]
    have e1 : lo * ((r.length + 1 : Nat) : Int) = lo * r.length + lo := by push_cast; rw [Int.mul_add, Int.mul_one]
    have e2 : hi * ((r.length + 1 : Nat) : Int) = hi * r.length + hi := by push_cast; rw [Int.mul_add, Int.mul_one]
    omega
theorem allB_take {xs : List Int} {lo hi : Int} (h : allB xs lo hi = true) (k : Nat) : allB (xs.take k) lo hi = true := by
  unfold allB at *
  rw [List.all_eq_true] at *
  exact fun x hx => h x (List.mem_of_mem_take hx)
theorem allB_drop {xs : List Int} {lo hi : Int} (h : allB xs lo hi = true) (k : Nat) : allB (xs.drop k) lo hi = true := by
  unfold allB at *
  rw [List.all_eq_true] at *
  exact fun x hx => h x (List.mem_of_mem_drop hx)
/-- Numbers in a small range, not too many: no sum passes an int. -/
theorem sumFits_of {xs : List Int} {lo hi : Int} (h : allB xs lo hi = true) (hlo : -1000 ≤ lo) (hhi : hi ≤ 1000) (hn : xs.length ≤ 4398046511104) : sumFits xs := by
  intro k hk
  have hb := sumL_bounds _ lo hi (allB_take h k)
  have hl : (xs.take k).length = k := by simp; omega
  rw [hl] at hb
  unfold psum
  have h1 : -1000 * (k : Int) ≤ lo * k := Int.mul_le_mul_of_nonneg_right hlo (by omega)
  have h2 : hi * (k : Int) ≤ 1000 * k := Int.mul_le_mul_of_nonneg_right hhi (by omega)
  omega

/-- How often 1 is to be doubled until it is at least x. -/
def lqGo (x : Int) : Nat → Nat → Nat
  | 0, k => k
  | f + 1, k => if (2 : Int) ^ k < x then lqGo x f (k + 1) else k
def lq (x : Int) : Int := lqGo x 20 0
theorem two_pow_pos (k : Nat) : (0 : Int) < 2 ^ k := Int.pow_pos (by omega)
theorem two_pow_le {j k : Nat} (h : j ≤ k) : (2 : Int) ^ j ≤ 2 ^ k := by
  have h0 : (2 : Nat) ^ j ≤ 2 ^ k := Nat.pow_le_pow_right (by omega) h
  exact_mod_cast h0
theorem wrap_pow (k : Nat) (h : k ≤ 62) : Go.RowKit.wrap64 ((2 : Int) ^ k) = 2 ^ k := by
  have h1 := two_pow_pos k
  have h2 := two_pow_le h
  exact Go.IntWalk.wrap64_in _ ⟨by omega, by omega⟩
theorem pow_lt_20 (k : Nat) (_hk : k ≤ 20) (h : (2 : Int) ^ k < 1000000) : k < 20 := by
  rcases Nat.lt_or_ge k 20 with h' | h'
  · exact h'
  · have := two_pow_le h'
    omega
theorem lqGo_step (x : Int) (k : Nat) (hk : k < 20) (h : (2 : Int) ^ k < x) : lqGo x (20 - (k + 1)) (k + 1) = lqGo x (20 - k) k := by
  have e : 20 - k = (20 - (k + 1)) + 1 := by omega
  rw [e, lqGo, if_pos h]
theorem lqGo_stop (x : Int) (f k : Nat) (h : ¬ (2 : Int) ^ k < x) : lqGo x f k = k := by
  cases f with
  | zero => rfl
  | succ f => rw [lqGo, if_neg h]
/-- How many numbers are kept if each is struck that is the same as the one before. -/
def klen (xs : List Int) : Nat := (Go.Lib.compact xs).length

end Go.Proofs.Ytdeoigdnhcamjaa.M
