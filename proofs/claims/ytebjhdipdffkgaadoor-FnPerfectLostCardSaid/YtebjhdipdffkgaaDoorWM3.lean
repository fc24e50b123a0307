/- Plain lemmas on words: whether they are some, how far they are apart at least, which one is nearest, whether lies can be told. -/
import Derived.Test.YtebjhdipdffkgaaDoorWPick
import Derived.Test.YtebjhdipdffkgaaDoorLMath
namespace Go.Proofs.YtebjhdipdffkgaaDoor.M

theorem nodup_nth {xs : List Int} : xs.Nodup ↔ ∀ i j, i < j → j < xs.length → nth xs i ≠ nth xs j := by
  unfold List.Nodup
  rw [List.pairwise_iff_getElem]
  constructor
  · intro h i j hij hj
    rw [nth_lt hj, nth_lt (by omega)]
    exact h i j (by omega) hj hij
  · intro h i j hi hj hij
    have := h i j hij hj
    rwa [nth_lt hj, nth_lt hi] at this
theorem klen_nodup {ys : List Int} (hs : ys.Pairwise (· ≤ ·)) : klen ys = ys.length ↔ ys.Nodup := by
  rw [klen_eq, nodup_nth]
  rw [List.pairwise_iff_getElem] at hs
  constructor
  · intro h i j hij hj
    have hlt : nth ys (j - 1) < nth ys j := by
      have h1 := h j hj (by omega)
      have h2 := hs (j - 1) j (by omega) hj (by omega)
      rw [nth_lt hj, nth_lt (show j - 1 < ys.length by omega)] at h1 ⊢
      omega
    have hle : nth ys i ≤ nth ys (j - 1) := by
      by_cases e : i = j - 1
      · rw [e]; exact Int.le_refl _
      · have := hs i (j - 1) (by omega) (by omega) (by omega)
        rwa [nth_lt (show i < ys.length by omega), nth_lt (show j - 1 < ys.length by omega)]
    omega
  · intro h k hk h0
    exact h (k - 1) k (by omega) hk
def leI (x y : Int) : Bool := decide (x ≤ y)
theorem klen_sorted (xs : List Int) : klen (xs.mergeSort fun x y => decide (x ≤ y)) = xs.length ↔ xs.Nodup := by
  have hp := List.mergeSort_perm xs (fun x y => decide (x ≤ y))
  have hs := List.pairwise_mergeSort (le := fun x y : Int => decide (x ≤ y)) (fun a b c h1 h2 => by simp at *; omega) (fun a b => by simp; omega) xs
  have hs' : (xs.mergeSort fun x y => decide (x ≤ y)).Pairwise (· ≤ ·) := hs.imp fun h => by simpa using h
  rw [← hp.length_eq, klen_nodup hs', hp.nodup_iff]

/-- Are these words of so many bits? -/
def wokB (b : Int) (xs : List Int) : Bool := inB b 1 8 && (inB (xs.length : Int) 1 16 && (allB xs 0 (2 ^ b.toNat - 1) && decide xs.Nodup))
theorem wok_no1 {b : Int} {xs : List Int} (h : inB b 1 8 = false) : wokB b xs = false := by simp [wokB, h]
theorem wok_no2 {b : Int} {xs : List Int} (h : inB (xs.length : Int) 1 16 = false) : wokB b xs = false := by simp [wokB, h]
theorem wok_ok {b : Nat} {xs : List Int} (h : inB (b : Int) 1 8 = true) (h2 : inB (xs.length : Int) 1 16 = true) : wokB (b : Int) xs = (allB xs 0 (2 ^ b - 1) && decide xs.Nodup) := by simp [wokB, h, h2]
theorem wok_parts {b : Int} {xs : List Int} (h : wokB b xs = true) : ∃ q : Nat, b = (q : Int) ∧ 1 ≤ q ∧ q ≤ 8 ∧ 1 ≤ xs.length ∧ xs.length ≤ 16 ∧ (∀ k, k < xs.length → 0 ≤ nth xs k ∧ nth xs k < 2 ^ q) ∧ xs.Nodup := by
  unfold wokB at h
  simp only [Bool.and_eq_true, decide_eq_true_eq] at h
  obtain ⟨h1, h2, h3, h4⟩ := h
  have h1' := inB_true.1 h1
  have h2' := inB_true.1 h2
  obtain ⟨q, rfl⟩ : ∃ q : Nat, b = (q : Int) := ⟨b.toNat, by omega⟩
  refine ⟨q, rfl, by omega, by omega, by omega, by omega, fun k hk => ?_, h4⟩
  have := allB_iff.1 h3 k hk
  rw [Int.toNat_natCast] at this
  omega
theorem wok_of {q : Nat} {xs : List Int} (h1 : 1 ≤ q) (h2 : q ≤ 8) (h3 : 1 ≤ xs.length) (h4 : xs.length ≤ 16) (h5 : ∀ k, k < xs.length → 0 ≤ nth xs k ∧ nth xs k < 2 ^ q) (h6 : xs.Nodup) : wokB (q : Int) xs = true := by
  rw [wok_ok (inB_true.2 (by omega)) (inB_true.2 (by omega)), Bool.and_eq_true, decide_eq_true_eq]
  exact ⟨allB_iff.2 fun k hk => by have := h5 k hk; omega, h6⟩
theorem nth_take {xs : List Int} {m k : Nat} (h : k < m) : nth (xs.take m) k = nth xs k := by simp [nth, h]
theorem wok_take {b : Int} {xs : List Int} {m : Nat} (h : wokB b xs = true) (hm : 1 ≤ m) : wokB b (xs.take m) = true := by
  obtain ⟨q, rfl, h1, h2, h3, h4, h5, h6⟩ := wok_parts h
  have hl : (xs.take m).length = min m xs.length := List.length_take
  refine wok_of h1 h2 (by omega) (by omega) (fun k hk => ?_) (h6.sublist (List.take_sublist _ _))
  rw [nth_take (by omega)]
  exact h5 k (by omega)
theorem pow_256 {q : Nat} (h : q ≤ 8) : (2 : Int) ^ q ≤ 256 := by
  have := pow8 h
  have e := nat_pow q
  omega
/-- A word by its number. -/
theorem wok_nat {b : Int} {xs : List Int} (h : wokB b xs = true) {k : Nat} (hk : k < xs.length) : ∃ x : Nat, nth xs k = (x : Int) ∧ x < 2 ^ b.toNat ∧ x < 256 := by
  obtain ⟨q, rfl, h1, h2, h3, h4, h5, h6⟩ := wok_parts h
  have := h5 k hk
  have e := nat_pow q
  have := pow8 h2
  exact ⟨(nth xs k).toNat, by omega, by rw [Int.toNat_natCast]; omega, by omega⟩

/-- The least distance from a among the first j words, and acc. -/
def lrow (xs : List Int) (a acc : Nat) : Nat → Nat
  | 0 => acc
  | j + 1 => min (lrow xs a acc j) (farN a (nth xs j).toNat)
theorem lrow_iff {xs : List Int} {a acc d : Nat} : ∀ {j : Nat}, d ≤ lrow xs a acc j ↔ d ≤ acc ∧ ∀ t, t < j → d ≤ farN a (nth xs t).toNat
  | 0 => by simp [lrow]
  | j + 1 => by
    rw [lrow, Nat.le_min, lrow_iff]
    constructor
    · rintro ⟨⟨h1, h2⟩, h3⟩
      refine ⟨h1, fun t ht => ?_⟩
      by_cases e : t = j
      · rw [e]; exact h3
      · exact h2 t (by omega)
    · rintro ⟨h1, h2⟩
      exact ⟨⟨h1, fun t ht => h2 t (by omega)⟩, h2 j (by omega)⟩
def lall (b : Nat) (xs : List Int) : Nat → Nat
  | 0 => b + 1
  | i + 1 => lrow xs (nth xs i).toNat (lall b xs i) i
theorem lall_iff {b : Nat} {xs : List Int} {d : Nat} : ∀ {n : Nat}, d ≤ lall b xs n ↔ d ≤ b + 1 ∧ ∀ i, i < n → ∀ t, t < i → d ≤ farN (nth xs i).toNat (nth xs t).toNat
  | 0 => by simp [lall]
  | n + 1 => by
    rw [lall, lrow_iff, lall_iff]
    constructor
    · rintro ⟨⟨h1, h2⟩, h3⟩
      refine ⟨h1, fun i hi => ?_⟩
      by_cases e : i = n
      · rw [e]; exact h3
      · exact h2 i (by omega)
    · rintro ⟨h1, h2⟩
      exact ⟨⟨h1, fun i hi => h2 i (by omega)⟩, h2 n (by omega)⟩
theorem lall_le (b : Nat) (xs : List Int) (n : Nat) : lall b xs n ≤ b + 1 := (lall_iff.1 (Nat.le_refl (lall b xs n))).1
theorem lrow_le {xs : List Int} {a acc j : Nat} : lrow xs a acc j ≤ acc := (lrow_iff.1 (Nat.le_refl (lrow xs a acc j))).1
theorem lall_take {b : Nat} {xs : List Int} {m : Nat} (hm : m ≤ xs.length) : lall b xs xs.length ≤ lall b (xs.take m) (xs.take m).length := by
  have hl : (xs.take m).length = m := by rw [List.length_take]; omega
  rw [hl, lall_iff]
  have h := lall_iff.1 (Nat.le_refl (lall b xs xs.length))
  exact ⟨h.1, fun i hi t ht => by rw [nth_take hi, nth_take (by omega)]; exact h.2 i (by omega) t ht⟩
def leastF (b : Int) (xs : List Int) : Int := if wokB b xs = true then (lall b.toNat xs xs.length : Nat) else -1
theorem least_no {b : Int} {xs : List Int} (h : wokB b xs = false) : leastF b xs = -1 := by simp [leastF, h]
theorem least_ok {q : Nat} {xs : List Int} (h : wokB (q : Int) xs = true) : leastF (q : Int) xs = (lall q xs xs.length : Nat) := by simp [leastF, h]

/-- The first one of the first k words that is nearest to a. -/
def nearK (xs : List Int) (a : Nat) : Nat → Nat
  | 0 => 0
  | k + 1 => if farN (nth xs k).toNat a < farN (nth xs (nearK xs a k)).toNat a then k else nearK xs a k
theorem near_yes {xs : List Int} {a k : Nat} (h : farN (nth xs k).toNat a < farN (nth xs (nearK xs a k)).toNat a) : nearK xs a (k + 1) = k := by rw [nearK, if_pos h]
theorem near_not {xs : List Int} {a k : Nat} (h : ¬ farN (nth xs k).toNat a < farN (nth xs (nearK xs a k)).toNat a) : nearK xs a (k + 1) = nearK xs a k := by rw [nearK, if_neg h]
theorem near_one (xs : List Int) (a : Nat) : nearK xs a 1 = 0 := near_not (by simp [nearK])
theorem near_lt {xs : List Int} {a : Nat} : ∀ k, nearK xs a k < k ∨ (k = 0 ∧ nearK xs a k = 0)
  | 0 => .inr ⟨rfl, rfl⟩
  | k + 1 => by
    have := near_lt (xs := xs) (a := a) k
    by_cases h : farN (nth xs k).toNat a < farN (nth xs (nearK xs a k)).toNat a
    · rw [near_yes h]; omega
    · rw [near_not h]; omega
theorem near_min {xs : List Int} {a : Nat} : ∀ k j, j < k → farN (nth xs (nearK xs a k)).toNat a ≤ farN (nth xs j).toNat a
  | 0, j, h => absurd h (Nat.not_lt_zero _)
  | k + 1, j, h => by
    by_cases hf : farN (nth xs k).toNat a < farN (nth xs (nearK xs a k)).toNat a
    · rw [near_yes hf]
      by_cases e : j = k
      · rw [e]; exact Nat.le_refl _
      · have := near_min k j (by omega) (xs := xs) (a := a)
        omega
    · rw [near_not hf]
      by_cases e : j = k
      · rw [e]; omega
      · exact near_min k j (by omega)
def nearF (b : Int) (xs : List Int) (a : Int) : Int := if (wokB b xs && inB a 0 (2 ^ b.toNat - 1)) = true then (nearK xs a.toNat xs.length : Nat) else -1
theorem nearF_no1 {b a : Int} {xs : List Int} (h : wokB b xs = false) : nearF b xs a = -1 := by simp [nearF, h]
theorem nearF_no2 {q : Nat} {a : Int} {xs : List Int} (h : inB a 0 (2 ^ q - 1) = false) : nearF (q : Int) xs a = -1 := by simp [nearF, h]
theorem nearF_ok {q : Nat} {a : Nat} {xs : List Int} (h : wokB (q : Int) xs = true) (h2 : inB (a : Int) 0 (2 ^ q - 1) = true) : nearF (q : Int) xs (a : Int) = (nearK xs a xs.length : Nat) := by simp [nearF, h, h2]

def sureB (b : Int) (xs : List Int) (l : Int) : Bool := wokB b xs && (inB l 0 b && decide (∀ a, a < 2 ^ b.toNat → wiN xs a l xs.length ≤ 1))
theorem sure_no1 {b l : Int} {xs : List Int} (h : wokB b xs = false) : sureB b xs l = false := by simp [sureB, h]
theorem sure_no2 {b l : Int} {xs : List Int} (h : inB l 0 b = false) : sureB b xs l = false := by simp [sureB, h]
theorem sure_ok {q : Nat} {l : Int} {xs : List Int} (h : wokB (q : Int) xs = true) (h2 : inB l 0 (q : Int) = true) : (sureB (q : Int) xs l = true ↔ ∀ a, a < 2 ^ q → wiN xs a l xs.length ≤ 1) := by simp [sureB, h, h2]
theorem sure_ok_no {q a : Nat} {l : Int} {xs : List Int} (ha : a < 2 ^ q) (hw : ¬ wiN xs a l xs.length ≤ 1) : sureB (q : Int) xs l = false := by
  cases e : sureB (q : Int) xs l with
  | false => rfl
  | true =>
    unfold sureB at e
    simp only [Bool.and_eq_true, decide_eq_true_eq, Int.toNat_natCast] at e
    exact absurd (e.2.2 a ha) hw

/-- At most one word is near exactly if no two are. -/
theorem wiN_one {xs : List Int} {x : Nat} {m : Int} : ∀ {n : Nat}, wiN xs x m n ≤ 1 ↔ ∀ i j, i < j → j < n → ¬ ((farN (nth xs i).toNat x : Int) ≤ m ∧ (farN (nth xs j).toNat x : Int) ≤ m)
  | 0 => by simp [wiN]
  | n + 1 => by
    have ih := wiN_one (xs := xs) (x := x) (m := m) (n := n)
    have hz := wiN_zero (xs := xs) (x := x) (m := m) (n := n)
    simp only [wiN]
    by_cases hn : (farN (nth xs n).toNat x : Int) ≤ m
    · rw [if_pos hn]
      constructor
      · intro h i j hij hj hb
        have h0 := hz.1 (by omega)
        by_cases e : j = n
        · have := h0 i (by omega); omega
        · have := h0 j (by omega); omega
      · intro h
        have : wiN xs x m n = 0 := hz.2 fun k hk => by
          have := h k n hk (by omega)
          omega
        omega
    · rw [if_neg hn]
      constructor
      · intro h i j hij hj hb
        by_cases e : j = n
        · subst e; exact hn hb.2
        · exact ih.1 (by omega) i j hij (by omega) hb
      · intro h
        have := ih.2 fun i j hij hj => h i j hij (by omega)
        omega

/-- Every other one of the ones of x, from the lowest one on. -/
def hb (x : Nat) : Nat := ((List.range 8).filter fun j => decide (x / 2 ^ j % 2 = 1 ∧ pop (x % 2 ^ j) % 2 = 0)).foldl (fun s j => s + 2 ^ j) 0
theorem hb_all : ∀ x : Nat, x < 256 → hb x ≤ x ∧ 2 * pop (hb x) ≤ pop x + 1 ∧ 2 * pop (x ^^^ hb x) ≤ pop x + 1 := by decide +kernel
theorem pop_bits : ∀ q : Nat, q < 9 → ∀ x : Nat, x < 256 → x < 2 ^ q → pop x ≤ q := by decide +kernel
theorem far_bits {q a b : Nat} (hq : q ≤ 8) (ha : a < 2 ^ q) (hb : b < 2 ^ q) : farN a b ≤ q := by
  rw [← pop_xor]
  have := pow8 hq
  have hx : a ^^^ b < 2 ^ q := Nat.xor_lt_two_pow ha hb
  exact pop_bits q (by omega) _ (by omega) hx
/-- A word half way. -/
theorem midway {q a b l : Nat} (hq : q ≤ 8) (ha : a < 2 ^ q) (hb' : b < 2 ^ q) (h : farN a b ≤ 2 * l) : ∃ c, c < 2 ^ q ∧ farN a c ≤ l ∧ farN b c ≤ l := by
  have h8 := pow8 hq
  have hx : a ^^^ b < 2 ^ q := Nat.xor_lt_two_pow ha hb'
  obtain ⟨h1, h2, h3⟩ := hb_all (a ^^^ b) (by omega)
  have hp := pop_xor a b
  rw [hp] at h2 h3
  refine ⟨a ^^^ hb (a ^^^ b), Nat.xor_lt_two_pow ha (by omega), ?_, ?_⟩
  · rw [← pop_xor, ← Nat.xor_assoc, Nat.xor_self, Nat.zero_xor]
    omega
  · rw [← pop_xor]
    have e : b ^^^ (a ^^^ hb (a ^^^ b)) = (a ^^^ b) ^^^ hb (a ^^^ b) := by rw [← Nat.xor_assoc, Nat.xor_comm b a]
    rw [e]
    omega
/-- Lies can be told exactly if the words are far enough apart. -/
theorem sure_iff {q l : Nat} {xs : List Int} (h : wokB (q : Int) xs = true) (hl : l ≤ q) : sureB (q : Int) xs (l : Int) = true ↔ (xs.length = 1 ∨ 2 * l < lall q xs xs.length) := by
  rw [sure_ok h (inB_true.2 (by omega))]
  obtain ⟨q', eq, h1, h2, h3, h4, h5, h6⟩ := wok_parts h
  obtain rfl : q = q' := by omega
  have hn := nodup_nth.1 h6
  have hw : ∀ k, k < xs.length → (nth xs k).toNat < 2 ^ q := fun k hk => by
    have := h5 k hk
    have e := nat_pow q
    omega
  constructor
  · intro hs
    by_cases hone : xs.length = 1
    · exact .inl hone
    · right
      have hpair : ∀ i, i < xs.length → ∀ t, t < i → 2 * l + 1 ≤ farN (nth xs i).toNat (nth xs t).toNat := by
        intro i hi t ht
        refine Nat.lt_of_not_le fun hle => ?_
        obtain ⟨c, hc, c1, c2⟩ := midway h2 (hw i hi) (hw t (by omega)) hle
        exact wiN_one.1 (hs c hc) t i ht hi ⟨by omega, by omega⟩
      refine lall_iff.2 ⟨?_, hpair⟩
      have := hpair 1 (by omega) 0 (by omega)
      have := far_bits h2 (hw 1 (by omega)) (hw 0 (by omega))
      omega
  · rintro (hone | hfar) a ha
    · have := wiN_le xs a (l : Int) xs.length
      omega
    · refine wiN_one.2 fun i j hij hj hb => ?_
      have h7 := (lall_iff.1 (show 2 * l + 1 ≤ lall q xs xs.length by omega)).2 j hj i hij
      have h8 := far_tri (nth xs j).toNat (nth xs i).toNat a
      rw [far_comm a] at h8
      omega
theorem far_one {a b : Nat} (ha : a < 256) (hb : b < 256) (h : a ≠ b) : 1 ≤ farN a b := by
  refine Nat.lt_of_not_le fun hle => h (far_zero ha hb (by omega))
theorem lall_pos {q : Nat} {xs : List Int} (h : wokB (q : Int) xs = true) : 1 ≤ lall q xs xs.length := by
  obtain ⟨q', eq, h1, h2, h3, h4, h5, h6⟩ := wok_parts h
  refine lall_iff.2 ⟨by omega, fun i hi t ht => ?_⟩
  obtain ⟨x, ex, _, hx⟩ := wok_nat h hi
  obtain ⟨y, ey, _, hy⟩ := wok_nat h (show t < xs.length by omega)
  have := nodup_nth.1 h6 t i ht hi
  rw [ex, ey] at *
  exact far_one (by simpa using hx) (by simpa using hy) (fun e => this (by simp at e; omega))
end Go.Proofs.YtebjhdipdffkgaaDoor.M
