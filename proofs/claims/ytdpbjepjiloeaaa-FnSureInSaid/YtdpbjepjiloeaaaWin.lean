/- Plain lemmas on the search of what can be sure: questions, wins. No condition. -/
import Derived.Test.YtdpbjepjiloeaaaKMath
namespace Go.Proofs.Ytdpbjepjiloeaaa.M

/-- Does g hold for one of c numbers from n on? -/
def anyN (g : Nat → Bool) : Nat → Nat → Bool
  | 0, _ => false
  | c + 1, n => g n || anyN g c (n + 1)
theorem anyN_iff {g : Nat → Bool} : ∀ {c n : Nat}, anyN g c n = true ↔ ∃ j, n ≤ j ∧ j < n + c ∧ g j = true
  | 0, n => by simp [anyN]; intro j h1 h2; omega
  | c + 1, n => by
    simp only [anyN, Bool.or_eq_true, anyN_iff (c := c) (n := n + 1)]
    constructor
    · rintro (h | ⟨j, h1, h2, h3⟩)
      · exact ⟨n, Nat.le_refl _, by omega, h⟩
      · exact ⟨j, by omega, by omega, h3⟩
    · rintro ⟨j, h1, h2, h3⟩
      by_cases e : j = n
      · subst e; exact .inl h3
      · exact .inr ⟨j, by omega, by omega, h3⟩
/-- Does f hold for a list that begins with pre, the others of which are at most those of the rest? -/
def anyC (f : List Int → Bool) : List Int → List Int → Bool
  | [], pre => f pre
  | a :: r, pre => anyN (fun n => anyC f r (pre ++ [(n : Int)])) (a.toNat + 1) 0
/-- Is q a list of numbers from 0 on, each at most the one of row? -/
def Fits : List Int → List Int → Prop
  | [], [] => True
  | a :: r, x :: q => 0 ≤ x ∧ x ≤ a ∧ Fits r q
  | _, _ => False
theorem fits_len : ∀ {r q : List Int}, Fits r q → q.length = r.length
  | [], [], _ => rfl
  | a :: r, x :: q, h => by simp [fits_len h.2.2]
  | [], _ :: _, h => h.elim
  | _ :: _, [], h => h.elim
theorem anyC_iff {f : List Int → Bool} : ∀ {r pre : List Int}, (∀ a ∈ r, 0 ≤ a) → (anyC f r pre = true ↔ ∃ q, Fits r q ∧ f (pre ++ q) = true)
  | [], pre, _ => by
    simp only [anyC]
    constructor
    · intro h; exact ⟨[], trivial, by simpa using h⟩
    · rintro ⟨q, hq, h⟩
      match q, hq, h with
      | [], _, h => simpa using h
  | a :: r, pre, h0 => by
    have ha := h0 a (by simp)
    have hr : ∀ a ∈ r, 0 ≤ a := fun x hx => h0 x (by simp [hx])
    simp only [anyC]
    rw [anyN_iff]
    constructor
    · rintro ⟨j, h1, h2, h3⟩
      obtain ⟨q, hq, hf⟩ := (anyC_iff hr).1 h3
      exact ⟨(j : Int) :: q, ⟨by omega, by omega, hq⟩, by simpa using hf⟩
    · rintro ⟨q, hq, h⟩
      match q, hq, h with
      | x :: q, hq, h =>
        obtain ⟨n, rfl⟩ := Int.eq_ofNat_of_zero_le hq.1
        refine ⟨n, by omega, by have := hq.2.1; omega, (anyC_iff hr).2 ⟨q, hq.2.2, by simpa using h⟩⟩
theorem fits_nth : ∀ {row q : List Int} {k : Nat}, Fits row q → k < row.length → 0 ≤ nth q k ∧ nth q k ≤ nth row k
  | [], _, _, _, hk => by simp at hk
  | _ :: _, [], _, h, _ => h.elim
  | a :: r, x :: q, 0, h, _ => by simp [nth]; exact ⟨h.1, h.2.1⟩
  | a :: r, x :: q, k + 1, h, hk => by
    have := fits_nth (k := k) h.2.2 (by simp at hk; omega)
    simpa [nth] using this
theorem fits_split {row q : List Int} (h : knownB row = true) : Fits row q ↔ splitB row q = true := by
  obtain ⟨k1, k3, hk, -⟩ := known_parts h
  constructor
  · intro hf
    exact split_of h (fits_len hf) fun k hk => inB_true.2 (fits_nth hf hk)
  · intro hs
    rcases three_of hs with ⟨a, x, rfl, rfl, h1⟩ | ⟨a, b, x, y, rfl, rfl, h1⟩ | ⟨a, b, c, x, y, z, rfl, rfl, h1⟩
    · exact ⟨h1.1, h1.2.1, trivial⟩
    · exact ⟨by omega, by omega, by omega, by omega, trivial⟩
    · exact ⟨by omega, by omega, by omega, by omega, by omega, by omega, trivial⟩
/-- Can one be sure with so many questions? -/
def win : Nat → List Int → Bool
  | 0, row => decide (sumL row ≤ 1)
  | q + 1, row => decide (sumL row ≤ 1) || anyC (fun x => win q (conf row x) && win q (conf row (sub row x))) row []
theorem win_few {row : List Int} (h : sumL row ≤ 1) : ∀ q, win q row = true
  | 0 => by simp [win, h]
  | q + 1 => by simp [win, h]
theorem win_zero {row : List Int} (h : ¬ sumL row ≤ 1) : win 0 row = false := by simp [win, h]
theorem win_step {row : List Int} {q : Nat} (h : ¬ sumL row ≤ 1) : win (q + 1) row = anyC (fun x => win q (conf row x) && win q (conf row (sub row x))) row [] := by simp [win, h]
theorem known_pos {row : List Int} (h : knownB row = true) : ∀ a ∈ row, 0 ≤ a := fun a ha => by
  obtain ⟨k, hk, rfl⟩ := List.getElem_of_mem ha
  rw [← nth_lt hk]
  exact ((known_parts h).2.2.1 k hk).1
theorem win_iff {row : List Int} {q : Nat} (hk : knownB row = true) (h : ¬ sumL row ≤ 1) : win (q + 1) row = true ↔ ∃ x, splitB row x = true ∧ win q (conf row x) = true ∧ win q (conf row (sub row x)) = true := by
  rw [win_step h, anyC_iff (known_pos hk)]
  constructor
  · rintro ⟨x, hx, hf⟩
    simp only [List.nil_append, Bool.and_eq_true] at hf
    exact ⟨x, (fits_split hk).1 hx, hf⟩
  · rintro ⟨x, hx, hf⟩
    exact ⟨x, (fits_split hk).2 hx, by simpa using hf⟩
theorem sub_sub {row q : List Int} (h : splitB row q = true) : sub row (sub row q) = q := by
  obtain ⟨-, h2, -⟩ := split_parts h
  refine ext_nth (by rw [length_sub, h2]) fun j hj => ?_
  rw [length_sub] at hj
  rw [nth_sub hj, nth_sub hj]
  omega
theorem sum_sub {row q : List Int} (h : splitB row q = true) : sumL (sub row q) = sumL row - sumL q := by
  rcases three_of h with ⟨a, x, rfl, rfl, h1⟩ | ⟨a, b, x, y, rfl, rfl, h1⟩ | ⟨a, b, c, x, y, z, rfl, rfl, h1⟩
  · rw [sub1]; simp [sumL]
  · rw [sub2]; simp [sumL]; omega
  · rw [sub3]; simp [sumL]; omega
/-- Questions about at most half of the things are enough. -/
theorem win_half {row : List Int} {q : Nat} (hk : knownB row = true) (h : ¬ sumL row ≤ 1) :
    win (q + 1) row = true ↔ ∃ x, splitB row x = true ∧ 2 * sumL x ≤ sumL row + 1 ∧ win q (conf row x) = true ∧ win q (conf row (sub row x)) = true := by
  rw [win_iff hk h]
  constructor
  · rintro ⟨x, hx, h1, h2⟩
    by_cases hs : 2 * sumL x ≤ sumL row + 1
    · exact ⟨x, hx, hs, h1, h2⟩
    · exact ⟨sub row x, split_sub hx, by rw [sum_sub hx]; omega, h2, by rw [sub_sub hx]; exact h1⟩
  · rintro ⟨x, hx, -, h1, h2⟩
    exact ⟨x, hx, h1, h2⟩
theorem wgt_few {row : List Int} (hk : knownB row = true) (h : sumL row ≤ 1) {q : Nat} (hq : q < 11) : wgt row q ≤ 2 ^ q := by
  obtain ⟨k1, k3, hx, -⟩ := known_parts hk
  have p1 := (atm_pow q hq 1 (by omega)).1
  have p2 := (atm_pow q hq 2 (by omega)).1
  have p3 := (atm_pow q hq 3 (by omega)).1
  have e : (2 : Int) ^ q = ((2 ^ q : Nat) : Int) := by push_cast; rfl
  rw [e]
  generalize 2 ^ q = T at *
  rcases three k1 k3 with ⟨a, rfl⟩ | ⟨a, b, rfl⟩ | ⟨a, b, c, rfl⟩
  · have a0 := hx 0 (by simp)
    simp [nth, sumL] at a0 h
    rw [wgt1]
    generalize atm q 1 = A at *
    obtain rfl | rfl : a = 0 ∨ a = 1 := by omega
    · simp
    · omega
  · have a0 := hx 0 (by simp)
    have a1 := hx 1 (by simp)
    simp [nth, sumL] at a0 a1 h
    rw [wgt2]
    generalize atm q 1 = A at *
    generalize atm q 2 = B at *
    obtain ⟨rfl, rfl⟩ | ⟨rfl, rfl⟩ | ⟨rfl, rfl⟩ : (a = 0 ∧ b = 0) ∨ (a = 1 ∧ b = 0) ∨ (a = 0 ∧ b = 1) := by omega
    all_goals omega
  · have a0 := hx 0 (by simp)
    have a1 := hx 1 (by simp)
    have a2 := hx 2 (by simp)
    simp [nth, sumL] at a0 a1 a2 h
    rw [wgt3]
    generalize atm q 1 = A at *
    generalize atm q 2 = B at *
    generalize atm q 3 = C at *
    obtain ⟨rfl, rfl, rfl⟩ | ⟨rfl, rfl, rfl⟩ | ⟨rfl, rfl, rfl⟩ | ⟨rfl, rfl, rfl⟩ : (a = 0 ∧ b = 0 ∧ c = 0) ∨ (a = 1 ∧ b = 0 ∧ c = 0) ∨ (a = 0 ∧ b = 1 ∧ c = 0) ∨ (a = 0 ∧ b = 0 ∧ c = 1) := by omega
    all_goals omega
/-- Too great a weight is never sure. -/
theorem win_wgt : ∀ (q : Nat) (row : List Int), q < 10 → knownB row = true → win q row = true → wgt row q ≤ 2 ^ q := by
  intro q
  induction q with
  | zero =>
    intro row hq hk h
    by_cases hs : sumL row ≤ 1
    · exact wgt_few hk hs (by omega)
    · rw [win_zero hs] at h; cases h
  | succ q ih =>
    intro row hq hk h
    by_cases hs : sumL row ≤ 1
    · exact wgt_few hk hs (by omega)
    · obtain ⟨x, hx, h1, h2⟩ := (win_iff hk hs).1 h
      have w1 := ih _ (by omega) (known_conf hx) h1
      have w2 := ih _ (by omega) (known_conf (split_sub hx)) h2
      rw [wgt_law hx (by omega), Int.pow_succ]
      omega
/-- What the reference decides is the same. -/
theorem win_no {q : Nat} {row : List Int} (hq : q < 10) (hk : knownB row = true) (h : ¬ wgt row q ≤ 2 ^ q) : win q row = false := by
  cases e : win q row with
  | false => rfl
  | true => exact absurd (win_wgt q row hq hk e) h
/-- One question more. -/
theorem win_more : ∀ (q : Nat) (row : List Int), knownB row = true → win q row = true → win (q + 1) row = true := by
  intro q
  induction q with
  | zero =>
    intro row hk h
    by_cases hs : sumL row ≤ 1
    · exact win_few hs _
    · rw [win_zero hs] at h; cases h
  | succ q ih =>
    intro row hk h
    by_cases hs : sumL row ≤ 1
    · exact win_few hs _
    · obtain ⟨x, hx, h1, h2⟩ := (win_iff hk hs).1 h
      exact (win_iff hk hs).2 ⟨x, hx, ih _ (known_conf hx) h1, ih _ (known_conf (split_sub hx)) h2⟩
theorem win_up {row : List Int} (hk : knownB row = true) {q : Nat} (h : win q row = true) : ∀ d, win (q + d) row = true
  | 0 => h
  | d + 1 => win_more _ _ hk (win_up hk h d)

/-- Is each number at most the other's? -/
def Le (xs ys : List Int) : Prop := xs.length = ys.length ∧ ∀ k, k < ys.length → nth xs k ≤ nth ys k
theorem le_sum : ∀ {xs ys : List Int}, Le xs ys → sumL xs ≤ sumL ys
  | [], [], _ => Int.le_refl _
  | [], _ :: _, h => by have := h.1; simp at this
  | _ :: _, [], h => by have := h.1; simp at this
  | x :: r, y :: q, h => by
    have h0 := h.2 0 (by simp)
    have hr : Le r q := ⟨by simpa using h.1, fun k hk => by have := h.2 (k + 1) (by simp; omega); simpa [nth] using this⟩
    have := le_sum hr
    simp [nth] at h0
    simp only [sumL]
    omega
def meet (x r : List Int) : List Int := (List.range r.length).map fun k => min (nth x k) (nth r k)
theorem length_meet (x r : List Int) : (meet x r).length = r.length := by simp [meet]
theorem nth_meet {x r : List Int} {k : Nat} (h : k < r.length) : nth (meet x r) k = min (nth x k) (nth r k) := by simp [nth, meet, h]
theorem le_conf {row row' x x' : List Int} (hl : row'.length = row.length) (h1 : ∀ k, k < row.length → nth x' k ≤ nth x k) (h2 : ∀ k, k < row.length → nth row' k - nth x' k ≤ nth row k - nth x k) : Le (conf row' x') (conf row x) := by
  refine ⟨by rw [length_conf, length_conf, hl], fun k hk => ?_⟩
  rw [length_conf] at hk
  by_cases e : k + 1 < row.length
  · rw [nth_conf e, nth_conf (by omega)]
    have := h1 k hk
    have := h2 (k + 1) e
    omega
  · rw [nth_conf_last (by omega), nth_conf_last (by omega)]
    exact h1 k hk
theorem known_le {row row' : List Int} (hk : knownB row = true) (h : Le row' row) (h0 : ∀ k, k < row'.length → 0 ≤ nth row' k) : knownB row' = true := by
  obtain ⟨k1, k3, hx, hs⟩ := known_parts hk
  have := le_sum h
  exact known_of (by rw [h.1]; omega) (by rw [h.1]; omega) (fun k hk' => ⟨h0 k hk', by have := h.2 k (by rw [← h.1]; exact hk'); have := hx k (by rw [← h.1]; exact hk'); omega⟩) (by omega)
/-- With fewer things one can be sure, too. -/
theorem win_le : ∀ (q : Nat) (row row' : List Int), knownB row = true → Le row' row → (∀ k, k < row'.length → 0 ≤ nth row' k) → win q row = true → win q row' = true := by
  intro q
  induction q with
  | zero =>
    intro row row' hk hle h0 h
    by_cases hs : sumL row ≤ 1
    · exact win_few (by have := le_sum hle; omega) _
    · rw [win_zero hs] at h; cases h
  | succ q ih =>
    intro row row' hk hle h0 h
    by_cases hs' : sumL row' ≤ 1
    · exact win_few hs' _
    · have hsum := le_sum hle
      have hs : ¬ sumL row ≤ 1 := by omega
      have hk' := known_le hk hle h0
      obtain ⟨x, hx, h1, h2⟩ := (win_iff hk hs).1 h
      obtain ⟨-, hxl, hxk⟩ := split_parts hx
      have hl := hle.1
      have hm : splitB row' (meet x row') = true := split_of hk' (length_meet _ _) fun k hk2 => inB_true.2 (by
        rw [nth_meet hk2]
        have := h0 k hk2
        have := hxk k (by omega)
        omega)
      have c1 : Le (conf row' (meet x row')) (conf row x) := le_conf hl (fun k hk2 => by rw [nth_meet (by omega)]; omega) (fun k hk2 => by
        rw [nth_meet (by omega)]
        have := hle.2 k hk2
        have := hxk k hk2
        omega)
      have c2 : Le (conf row' (sub row' (meet x row'))) (conf row (sub row x)) := le_conf hl (fun k hk2 => by
        rw [nth_sub (by omega), nth_sub hk2, nth_meet (by omega)]
        have := hle.2 k hk2
        have := hxk k hk2
        omega) (fun k hk2 => by
        rw [nth_sub (by omega), nth_sub hk2, nth_meet (by omega)]
        omega)
      have p1 := (known_parts (known_conf hm)).2.2.1
      have p2 := (known_parts (known_conf (split_sub hm))).2.2.1
      exact (win_iff hk' hs').2 ⟨_, hm, ih _ _ (known_conf hx) c1 (fun k hk2 => (p1 k hk2).1) h1, ih _ _ (known_conf (split_sub hx)) c2 (fun k hk2 => (p2 k hk2).1) h2⟩
/-- Without lies halves do. -/
theorem win_one : ∀ (q : Nat) (a : Int), q < 10 → knownB [a] = true → win q [a] = decide (a ≤ 2 ^ q) := by
  intro q
  induction q with
  | zero => intro a _ _; simp [win, sumL]
  | succ q ih =>
    intro a hq hk
    have ha := (known_parts hk).2.2.1 0 (by simp)
    simp [nth] at ha
    have hp : (1 : Int) ≤ 2 ^ q := by have : 0 < 2 ^ q := Nat.two_pow_pos q; exact_mod_cast this
    by_cases hs : a ≤ 1
    · rw [win_few (by simp [sumL]; omega)]
      symm
      rw [decide_eq_true_eq, Int.pow_succ]
      omega
    · have hs' : ¬ sumL [a] ≤ 1 := by simp [sumL]; omega
      have hsp : ∀ x, splitB [a] [x] = true ↔ 0 ≤ x ∧ x ≤ a := fun x => by
        constructor
        · intro h
          have := (split_parts h).2.2 0 (by simp)
          simpa [nth] using this
        · intro h
          exact split_of hk rfl fun k hk2 => by
            obtain rfl : k = 0 := by simp at hk2; omega
            simp [nth]; exact inB_true.2 h
      have hkn : ∀ x, 0 ≤ x → x ≤ a → knownB [x] = true := fun x h1 h2 => known_le hk ⟨rfl, fun k hk2 => by
        obtain rfl : k = 0 := by simp at hk2; omega
        simpa [nth] using h2⟩ fun k hk2 => by
        obtain rfl : k = 0 := by simp at hk2; omega
        simpa [nth] using h1
      rw [Bool.eq_iff_iff, decide_eq_true_eq, Int.pow_succ, win_iff hk hs']
      constructor
      · rintro ⟨x, hx, h1, h2⟩
        match x, (split_parts hx).2.1 with
        | [x], _ =>
          have hx' := (hsp x).1 hx
          rw [conf1, ih x (by omega) (hkn x hx'.1 hx'.2), decide_eq_true_eq] at h1
          rw [sub1, conf1, ih (a - x) (by omega) (hkn _ (by omega) (by omega)), decide_eq_true_eq] at h2
          omega
      · intro h
        refine ⟨[a / 2], (hsp _).2 (by omega), ?_, ?_⟩
        · rw [conf1, ih _ (by omega) (hkn _ (by omega) (by omega)), decide_eq_true_eq]; omega
        · rw [sub1, conf1, ih _ (by omega) (hkn _ (by omega) (by omega)), decide_eq_true_eq]; omega

/-- The least number of questions. -/
def questGo (xs : List Int) : Nat → Nat → Int
  | 0, _ => -1
  | g + 1, n => if win n xs = true then (n : Int) else questGo xs g (n + 1)
def questF (xs : List Int) : Int := if knownB xs = true then questGo xs 10 0 else -1
theorem quest_no {xs : List Int} (h : knownB xs = false) : questF xs = -1 := by simp [questF, h]
theorem quest_ok {xs : List Int} (h : knownB xs = true) : questF xs = questGo xs 10 0 := by simp [questF, h]
theorem quest_yes {xs : List Int} {g n : Nat} (h : win n xs = true) : questGo xs (g + 1) n = n := by rw [questGo, if_pos h]
theorem quest_not {xs : List Int} {g n : Nat} (h : win n xs = false) : questGo xs (g + 1) n = questGo xs g (n + 1) := by rw [questGo, if_neg (by simp [h])]
theorem quest_law {xs : List Int} : ∀ g n, questGo xs g n = -1 ∨ ∃ k : Nat, questGo xs g n = k ∧ n ≤ k ∧ k < n + g ∧ win k xs = true ∧ ∀ j, n ≤ j → j < k → win j xs = false
  | 0, n => .inl rfl
  | g + 1, n => by
    cases h : win n xs with
    | true => exact .inr ⟨n, quest_yes h, Nat.le_refl _, by omega, h, fun j h1 h2 => by omega⟩
    | false =>
      rw [quest_not h]
      rcases quest_law g (n + 1) with e | ⟨k, e, h1, h2, h3, h4⟩
      · exact .inl e
      · refine .inr ⟨k, e, by omega, by omega, h3, fun j j1 j2 => ?_⟩
        by_cases e' : j = n
        · rw [e']; exact h
        · exact h4 j (by omega) j2
/-- The bound is no greater than a number of questions with which the weight fits. -/
theorem bound_le {xs : List Int} : ∀ g n k, n ≤ k → k < n + g → wgt xs k ≤ 2 ^ k → boundGo xs g n ≤ k
  | 0, n, k, h1, h2, _ => by omega
  | g + 1, n, k, h1, h2, h3 => by
    by_cases h : wgt xs n ≤ 2 ^ n
    · rw [bound_yes h]; omega
    · rw [bound_not h]
      by_cases e : n = k
      · subst e; exact absurd h3 h
      · exact bound_le g (n + 1) k (by omega) (by omega) h3
def sureB (xs : List Int) (q : Int) : Bool := knownB xs && (inB q 0 9 && win q.toNat xs)
theorem sure_no1 {xs : List Int} {q : Int} (h : knownB xs = false) : sureB xs q = false := by simp [sureB, h]
theorem sure_no2 {xs : List Int} {q : Int} (h : inB q 0 9 = false) : sureB xs q = false := by simp [sureB, h]
theorem sure_ok {xs : List Int} {q : Nat} (h : knownB xs = true) (h2 : q < 10) : sureB xs (q : Int) = win q xs := by
  have : inB (q : Int) 0 9 = true := inB_true.2 (by omega)
  simp [sureB, h, this]

end Go.Proofs.Ytdpbjepjiloeaaa.M
