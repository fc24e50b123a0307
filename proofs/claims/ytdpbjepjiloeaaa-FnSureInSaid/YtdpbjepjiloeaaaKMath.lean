/- Plain lemmas on what is known: rows, questions, answers, weights. -/
import Derived.Test.YtdpbjepjiloeaaaPMath
import Derived.Test.YtdpbjepjiloeaaaChoose
namespace Go.Proofs.Ytdpbjepjiloeaaa.M

def knownB (xs : List Int) : Bool := inB (xs.length : Int) 1 3 && (allB xs 0 10 && decide (sumL xs ≤ 10))
theorem known_no1 {xs : List Int} (h : inB (xs.length : Int) 1 3 = false) : knownB xs = false := by simp [knownB, h]
theorem known_no2 {xs : List Int} (h : allB xs 0 10 = false) : knownB xs = false := by simp [knownB, h]
theorem known_ok {xs : List Int} (h1 : inB (xs.length : Int) 1 3 = true) (h2 : allB xs 0 10 = true) : knownB xs = decide (sumL xs ≤ 10) := by simp [knownB, h1, h2]
theorem known_parts {xs : List Int} (h : knownB xs = true) : 1 ≤ xs.length ∧ xs.length ≤ 3 ∧ (∀ k, k < xs.length → 0 ≤ nth xs k ∧ nth xs k ≤ 10) ∧ sumL xs ≤ 10 := by
  unfold knownB at h
  simp only [Bool.and_eq_true, decide_eq_true_eq] at h
  have := inB_true.1 h.1
  exact ⟨by omega, by omega, allB_iff.1 h.2.1, h.2.2⟩
theorem known_of {xs : List Int} (h1 : 1 ≤ xs.length) (h2 : xs.length ≤ 3) (h3 : ∀ k, k < xs.length → 0 ≤ nth xs k ∧ nth xs k ≤ 10) (h4 : sumL xs ≤ 10) : knownB xs = true := by
  rw [known_ok (inB_true.2 (by omega)) (allB_iff.2 h3), decide_eq_true_eq]; exact h4

/-- Is q a question about row? -/
def splitB (row q : List Int) : Bool := knownB row && (decide (q.length = row.length) && decide (∀ k, k < row.length → inB (nth q k) 0 (nth row k) = true))
theorem split_no1 {row q : List Int} (h : knownB row = false) : splitB row q = false := by simp [splitB, h]
theorem split_no2 {row q : List Int} (h : ¬ q.length = row.length) : splitB row q = false := by simp [splitB, h]
theorem split_no3 {row q : List Int} {k : Nat} (hk : k < row.length) (h : inB (nth q k) 0 (nth row k) = false) : splitB row q = false := by
  cases e : splitB row q with
  | false => rfl
  | true =>
    unfold splitB at e
    simp only [Bool.and_eq_true, decide_eq_true_eq] at e
    rw [e.2.2 k hk] at h
    cases h
theorem split_of {row q : List Int} (h1 : knownB row = true) (h2 : q.length = row.length) (h3 : ∀ k, k < row.length → inB (nth q k) 0 (nth row k) = true) : splitB row q = true := by
  unfold splitB
  simp only [Bool.and_eq_true, decide_eq_true_eq]
  exact ⟨h1, h2, h3⟩
theorem split_parts {row q : List Int} (h : splitB row q = true) : knownB row = true ∧ q.length = row.length ∧ ∀ k, k < row.length → 0 ≤ nth q k ∧ nth q k ≤ nth row k := by
  unfold splitB at h
  simp only [Bool.and_eq_true, decide_eq_true_eq] at h
  exact ⟨h.1, h.2.1, fun k hk => inB_true.1 (h.2.2 k hk)⟩

/-- The first k of a new list, the rest of the old one. -/
def mix (new old : List Int) (k : Nat) : List Int := new.take k ++ old.drop k
theorem mix_zero (new old : List Int) : mix new old 0 = old := by simp [mix]
theorem mix_all {new old : List Int} {k : Nat} (h : new.length = old.length) (hk : k = old.length) : mix new old k = new := by simp [mix, hk, ← h]
theorem length_mix {new old : List Int} {k : Nat} (h : new.length = old.length) (hk : k ≤ old.length) : (mix new old k).length = old.length := by simp [mix]; omega
theorem nth_mix {new old : List Int} {k : Nat} (h : new.length = old.length) (hk : k < old.length) : nth (mix new old k) k = nth old k := by
  unfold mix nth
  rw [List.getElem?_append_right (by simp; omega), List.getElem?_drop]
  simp [show min k new.length = k by omega]
theorem mix_set {new old : List Int} {k : Nat} (h : new.length = old.length) (hk : k < old.length) : (mix new old k).set k (nth new k) = mix new old (k + 1) := by
  unfold mix
  have hl : (new.take k).length = k := by simp; omega
  rw [List.set_append_right _ _ (by omega), hl, Nat.sub_self, List.drop_eq_getElem_cons hk, List.set_cons_zero, take_succ new k (by omega)]
  simp

def sub (row q : List Int) : List Int := (List.range row.length).map fun k => nth row k - nth q k
theorem length_sub (row q : List Int) : (sub row q).length = row.length := by simp [sub]
theorem nth_sub {row q : List Int} {k : Nat} (h : k < row.length) : nth (sub row q) k = nth row k - nth q k := by simp [nth, sub, h]
/-- What is known after yes. -/
def conf (row q : List Int) : List Int := (List.range row.length).map fun k => nth q k + (if k + 1 < row.length then nth row (k + 1) - nth q (k + 1) else 0)
theorem length_conf (row q : List Int) : (conf row q).length = row.length := by simp [conf]
theorem nth_conf {row q : List Int} {k : Nat} (h : k + 1 < row.length) : nth (conf row q) k = nth q k + (nth row (k + 1) - nth q (k + 1)) := by
  simp [nth, conf, h, show k < row.length by omega]
theorem nth_conf_last {row q : List Int} {k : Nat} (h : k + 1 = row.length) : nth (conf row q) k = nth q k := by
  simp [nth, conf, h, show k < row.length by omega]
def yesL (row q : List Int) : List Int := if splitB row q = true then conf row q else []
def noL (row q : List Int) : List Int := if splitB row q = true then conf row (sub row q) else []
theorem yes_ok {row q : List Int} (h : splitB row q = true) : yesL row q = conf row q := by simp [yesL, h]
theorem yes_no {row q : List Int} (h : splitB row q = false) : yesL row q = [] := by simp [yesL, h]
theorem no_ok {row q : List Int} (h : splitB row q = true) : noL row q = conf row (sub row q) := by simp [noL, h]
theorem no_no {row q : List Int} (h : splitB row q = false) : noL row q = [] := by simp [noL, h]
theorem split_sub {row q : List Int} (h : splitB row q = true) : splitB row (sub row q) = true := by
  obtain ⟨h1, h2, h3⟩ := split_parts h
  refine split_of h1 (length_sub _ _) fun k hk => inB_true.2 ?_
  rw [nth_sub hk]
  have := h3 k hk
  omega

/-- A list of at most three numbers, by these. -/
theorem three {xs : List Int} (h1 : 1 ≤ xs.length) (h3 : xs.length ≤ 3) : (∃ a, xs = [a]) ∨ (∃ a b, xs = [a, b]) ∨ ∃ a b c, xs = [a, b, c] := by
  match xs, h1, h3 with
  | [a], _, _ => exact .inl ⟨a, rfl⟩
  | [a, b], _, _ => exact .inr (.inl ⟨a, b, rfl⟩)
  | [a, b, c], _, _ => exact .inr (.inr ⟨a, b, c, rfl⟩)
  | _ :: _ :: _ :: _ :: _, _, h => simp at h
theorem three_of {row q : List Int} (h : splitB row q = true) : (∃ a x, row = [a] ∧ q = [x] ∧ 0 ≤ x ∧ x ≤ a ∧ a ≤ 10) ∨ (∃ a b x y, row = [a, b] ∧ q = [x, y] ∧ 0 ≤ x ∧ x ≤ a ∧ 0 ≤ y ∧ y ≤ b ∧ a + b ≤ 10) ∨
    (∃ a b c x y z, row = [a, b, c] ∧ q = [x, y, z] ∧ 0 ≤ x ∧ x ≤ a ∧ 0 ≤ y ∧ y ≤ b ∧ 0 ≤ z ∧ z ≤ c ∧ a + b + c ≤ 10) := by
  obtain ⟨h1, h2, h3⟩ := split_parts h
  obtain ⟨k1, k2, k3, k4⟩ := known_parts h1
  rcases three k1 k2 with ⟨a, rfl⟩ | ⟨a, b, rfl⟩ | ⟨a, b, c, rfl⟩
  · match q, h2 with
    | [x], _ =>
      have a0 := h3 0 (by simp)
      simp [nth, sumL] at a0 k4
      exact .inl ⟨a, x, rfl, rfl, by omega, by omega, by omega⟩
  · match q, h2 with
    | [x, y], _ =>
      have a0 := h3 0 (by simp)
      have a1 := h3 1 (by simp)
      simp [nth, sumL] at a0 a1 k4
      exact .inr (.inl ⟨a, b, x, y, rfl, rfl, by omega, by omega, by omega, by omega, by omega⟩)
  · match q, h2 with
    | [x, y, z], _ =>
      have a0 := h3 0 (by simp)
      have a1 := h3 1 (by simp)
      have a2 := h3 2 (by simp)
      simp [nth, sumL] at a0 a1 a2 k4
      exact .inr (.inr ⟨a, b, c, x, y, z, rfl, rfl, by omega, by omega, by omega, by omega, by omega, by omega, by omega⟩)
theorem conf1 (a x : Int) : conf [a] [x] = [x] := by simp [conf, nth, List.range_succ]
theorem conf2 (a b x y : Int) : conf [a, b] [x, y] = [x + (b - y), y] := by simp [conf, nth, List.range_succ]
theorem conf3 (a b c x y z : Int) : conf [a, b, c] [x, y, z] = [x + (b - y), y + (c - z), z] := by simp [conf, nth, List.range_succ]
theorem sub1 (a x : Int) : sub [a] [x] = [a - x] := by simp [sub, nth, List.range_succ]
theorem sub2 (a b x y : Int) : sub [a, b] [x, y] = [a - x, b - y] := by simp [sub, nth, List.range_succ]
theorem sub3 (a b c x y z : Int) : sub [a, b, c] [x, y, z] = [a - x, b - y, c - z] := by simp [sub, nth, List.range_succ]

/-- The answers together leave each thing that has lies twice, each other one once. -/
theorem sum_law {row q : List Int} (h : splitB row q = true) : sumL (noL row q) + sumL (yesL row q) = 2 * sumL row - nth row 0 := by
  rw [yes_ok h, no_ok h]
  rcases three_of h with ⟨a, x, rfl, rfl, h1⟩ | ⟨a, b, x, y, rfl, rfl, h1⟩ | ⟨a, b, c, x, y, z, rfl, rfl, h1⟩
  · rw [sub1, conf1, conf1]; simp [sumL, nth]; omega
  · rw [sub2, conf2, conf2]; simp [sumL, nth]; omega
  · rw [sub3, conf3, conf3]; simp [sumL, nth]; omega
theorem known_conf {row q : List Int} (h : splitB row q = true) : knownB (conf row q) = true := by
  rcases three_of h with ⟨a, x, rfl, rfl, h1⟩ | ⟨a, b, x, y, rfl, rfl, h1⟩ | ⟨a, b, c, x, y, z, rfl, rfl, h1⟩
  · rw [conf1]
    refine known_of (by simp) (by simp) (fun k hk => ?_) (by simp [sumL]; omega)
    match k, hk with
    | 0, _ => simp [nth]; omega
  · rw [conf2]
    refine known_of (by simp) (by simp) (fun k hk => ?_) (by simp [sumL]; omega)
    match k, hk with
    | 0, _ => simp [nth]; omega
    | 1, _ => simp [nth]; omega
  · rw [conf3]
    refine known_of (by simp) (by simp) (fun k hk => ?_) (by simp [sumL]; omega)
    match k, hk with
    | 0, _ => simp [nth]; omega
    | 1, _ => simp [nth]; omega
    | 2, _ => simp [nth]; omega

/-- The weight of the first k kinds. -/
def wsum (xs : List Int) (n : Nat) : Nat → Int
  | 0 => 0
  | k + 1 => wsum xs n k + nth xs k * (atm n (k + 1) : Nat)
def wgt (xs : List Int) (n : Nat) : Int := wsum xs n xs.length
theorem atm_step : ∀ n : Nat, n < 10 → ∀ k : Nat, k < 4 → atm (n + 1) (k + 1) = atm n (k + 1) + atm n k := by decide +kernel
theorem atm_pow : ∀ n : Nat, n < 11 → ∀ k : Nat, k < 5 → atm n k ≤ 2 ^ n ∧ atm n k ≤ 512 + 512 := by decide +kernel
theorem atm_one : ∀ n : Nat, n < 11 → atm n 1 = 1 := by decide +kernel
theorem atm_zero (n : Nat) : atm n 0 = 0 := rfl
theorem wgt1 (a : Int) (n : Nat) : wgt [a] n = a * (atm n 1 : Nat) := by simp [wgt, wsum, nth]
theorem wgt2 (a b : Int) (n : Nat) : wgt [a, b] n = a * (atm n 1 : Nat) + b * (atm n 2 : Nat) := by simp [wgt, wsum, nth]
theorem wgt3 (a b c : Int) (n : Nat) : wgt [a, b, c] n = a * (atm n 1 : Nat) + b * (atm n 2 : Nat) + c * (atm n 3 : Nat) := by simp [wgt, wsum, nth]
/-- A question keeps the weight. -/
theorem wgt_law {row q : List Int} (h : splitB row q = true) {n : Nat} (hn : n < 9) : wgt row (n + 1) = wgt (conf row q) n + wgt (conf row (sub row q)) n := by
  have e1 := atm_step n (by omega) 0 (by omega)
  have e2 := atm_step n (by omega) 1 (by omega)
  have e3 := atm_step n (by omega) 2 (by omega)
  simp only [atm_zero, Nat.add_zero, Nat.zero_add, Nat.reduceAdd] at e1 e2 e3
  rcases three_of h with ⟨a, x, rfl, rfl, h1⟩ | ⟨a, b, x, y, rfl, rfl, h1⟩ | ⟨a, b, c, x, y, z, rfl, rfl, h1⟩
  · rw [sub1, conf1, conf1, wgt1, wgt1, wgt1, e1]
    rw [← Int.add_mul]
    congr 1
    omega
  · rw [sub2, conf2, conf2, wgt2, wgt2, wgt2, e1, e2]
    generalize atm n 1 = A1
    generalize atm n 2 = A2
    push_cast
    simp only [Int.mul_add, Int.add_mul, Int.sub_mul]
    omega
  · rw [sub3, conf3, conf3, wgt3, wgt3, wgt3, e1, e2, e3]
    generalize atm n 1 = A1
    generalize atm n 2 = A2
    generalize atm n 3 = A3
    push_cast
    simp only [Int.mul_add, Int.add_mul, Int.sub_mul]
    omega
def weightF (xs : List Int) (n : Int) : Int := if (knownB xs && inB n 0 9) = true then wgt xs n.toNat else -1
theorem weight_no1 {xs : List Int} {n : Int} (h : knownB xs = false) : weightF xs n = -1 := by simp [weightF, h]
theorem weight_no2 {xs : List Int} {n : Int} (h : inB n 0 9 = false) : weightF xs n = -1 := by simp [weightF, h]
theorem weight_ok {xs : List Int} {n : Nat} (h : knownB xs = true) (h2 : inB (n : Int) 0 9 = true) : weightF xs (n : Int) = wgt xs n := by simp [weightF, h, h2]
theorem wsum_le {xs : List Int} {n : Nat} (hk : ∀ k, k < xs.length → 0 ≤ nth xs k ∧ nth xs k ≤ 10) (hn : n < 11) : ∀ k, k ≤ xs.length → k ≤ 3 → 0 ≤ wsum xs n k ∧ wsum xs n k ≤ 10240 * k
  | 0, _, _ => by simp [wsum]
  | k + 1, h1, h2 => by
    have ih := wsum_le hk hn k (by omega) (by omega)
    have hx := hk k (by omega)
    have ha := (atm_pow n hn (k + 1) (by omega)).2
    simp only [wsum]
    have m1 : 0 ≤ nth xs k * ((atm n (k + 1) : Nat) : Int) := Int.mul_nonneg hx.1 (by omega)
    have m2 : nth xs k * ((atm n (k + 1) : Nat) : Int) ≤ 10 * 1024 := Int.mul_le_mul hx.2 (by omega) (by omega) (by omega)
    omega
/-- The least number of questions for which the weight fits. -/
def boundGo (xs : List Int) : Nat → Nat → Int
  | 0, _ => -1
  | g + 1, n => if wgt xs n ≤ 2 ^ n then (n : Int) else boundGo xs g (n + 1)
def boundF (xs : List Int) : Int := if knownB xs = true then boundGo xs 10 0 else -1
theorem bound_no {xs : List Int} (h : knownB xs = false) : boundF xs = -1 := by simp [boundF, h]
theorem bound_ok {xs : List Int} (h : knownB xs = true) : boundF xs = boundGo xs 10 0 := by simp [boundF, h]
theorem bound_yes {xs : List Int} {g n : Nat} (h : wgt xs n ≤ 2 ^ n) : boundGo xs (g + 1) n = n := by rw [boundGo, if_pos h]
theorem bound_not {xs : List Int} {g n : Nat} (h : ¬ wgt xs n ≤ 2 ^ n) : boundGo xs (g + 1) n = boundGo xs g (n + 1) := by rw [boundGo, if_neg h]
theorem bound_law {xs : List Int} : ∀ g n, boundGo xs g n = -1 ∨ ∃ k : Nat, boundGo xs g n = k ∧ n ≤ k ∧ k < n + g ∧ wgt xs k ≤ 2 ^ k ∧ ∀ j, n ≤ j → j < k → ¬ wgt xs j ≤ 2 ^ j
  | 0, n => .inl rfl
  | g + 1, n => by
    by_cases h : wgt xs n ≤ 2 ^ n
    · exact .inr ⟨n, bound_yes h, Nat.le_refl _, by omega, h, fun j h1 h2 => by omega⟩
    · rw [bound_not h]
      rcases bound_law g (n + 1) with e | ⟨k, e, h1, h2, h3, h4⟩
      · exact .inl e
      · refine .inr ⟨k, e, by omega, by omega, h3, fun j j1 j2 => ?_⟩
        by_cases e' : j = n
        · rw [e']; exact h
        · exact h4 j (by omega) j2

end Go.Proofs.Ytdpbjepjiloeaaa.M
