/- Plain lemmas on ways of guessing: trees, their texts, what they need, what is paid. No condition. -/
import Derived.Test.YtdeoigdnhcamjaaPMath
namespace Go.Proofs.Ytdeoigdnhcamjaa.M

/-- A way of guessing. -/
inductive Way where
  | nil
  | node (b o : Way)
def sz : Way → Nat
  | .nil => 0
  | .node b o => sz b + sz o + 1
abbrev Txt := List UInt8
/-- Reads a way, whose numbers go up from n on, from the front of a text. -/
def pt : Nat → Nat → Txt → Option (Way × Txt)
  | 0, _, _ => none
  | _ + 1, _, [] => none
  | f + 1, n, c :: r =>
    if c.toNat = 46 then some (.nil, r)
    else if c.toNat = 40 then
      match pt f n r with
      | some (b, d :: r1) =>
        if n + sz b ≤ 8 ∧ d.toNat = 48 + (n + sz b) then
          match pt f (n + sz b + 1) r1 with
          | some (o, e :: r2) => if e.toNat = 41 then some (.node b o, r2) else none
          | _ => none
        else none
      | _ => none
    else none
/-- The parts of a way that is read. -/
theorem pt_node {f n : Nat} {c : UInt8} {r : Txt} {t : Way} {q : Txt} (hc : c.toNat = 40) (h : pt (f + 1) n (c :: r) = some (t, q)) :
    ∃ b o d r1 e, t = .node b o ∧ pt f n r = some (b, d :: r1) ∧ n + sz b ≤ 8 ∧ d.toNat = 48 + (n + sz b) ∧ pt f (n + sz b + 1) r1 = some (o, e :: q) ∧ e.toNat = 41 := by
  simp only [pt] at h
  rw [if_neg (by omega), if_pos hc] at h
  split at h
  · rename_i b d r1 h1
    split at h
    · rename_i hd
      split at h
      · rename_i o e r2 h2
        split at h
        · rename_i he
          cases h
          exact ⟨b, o, d, r1, e, rfl, h1, hd.1, hd.2, h2, he⟩
        · cases h
      · cases h
    · cases h
  · cases h
theorem pt_of {f n : Nat} {c : UInt8} {r : Txt} {b o : Way} {d : UInt8} {r1 : Txt} {e : UInt8} {q : Txt} (hc : c.toNat = 40) (h1 : pt f n r = some (b, d :: r1)) (hn : n + sz b ≤ 8) (hd : d.toNat = 48 + (n + sz b)) (h2 : pt f (n + sz b + 1) r1 = some (o, e :: q)) (he : e.toNat = 41) :
    pt (f + 1) n (c :: r) = some (.node b o, q) := by
  simp only [pt]
  rw [if_neg (by omega), if_pos hc, h1]
  simp only
  rw [if_pos ⟨hn, hd⟩, h2]
  simp only
  rw [if_pos he]
theorem pt_dot {f n : Nat} {c : UInt8} {r : Txt} (hc : c.toNat = 46) : pt (f + 1) n (c :: r) = some (.nil, r) := by
  simp only [pt]
  rw [if_pos hc]
theorem pt_other {f n : Nat} {c : UInt8} {r : Txt} (h1 : ¬ c.toNat = 46) (h2 : ¬ c.toNat = 40) : pt (f + 1) n (c :: r) = none := by
  simp only [pt]
  rw [if_neg h1, if_neg h2]
/-- What is left is shorter; the numbers end at most at 9. -/
theorem pt_short : ∀ (f n : Nat) (l : Txt) (t : Way) (q : Txt), pt f n l = some (t, q) → q.length < l.length ∧ (n ≤ 9 → n + sz t ≤ 9) := by
  intro f
  induction f with
  | zero => intro n l t q h; cases h
  | succ f ih =>
    intro n l t q h
    match l, h with
    | [], h => cases h
    | c :: r, h =>
      by_cases h1 : c.toNat = 46
      · rw [pt_dot h1] at h
        cases h
        exact ⟨by simp, fun hn => by simp [sz]; omega⟩
      · by_cases h2 : c.toNat = 40
        · obtain ⟨b, o, d, r1, e, rfl, p1, hn, -, p2, -⟩ := pt_node h2 h
          have a1 := ih _ _ _ _ p1
          have a2 := ih _ _ _ _ p2
          have a3 := a2.2 (by omega)
          simp at a1 a2 ⊢
          exact ⟨by omega, fun _ => by simp [sz]; omega⟩
        · rw [pt_other h1 h2] at h; cases h
/-- More fuel than letters is enough. -/
theorem pt_fuel : ∀ (f n : Nat) (l : Txt) (t : Way) (q : Txt) (g : Nat), pt f n l = some (t, q) → l.length < g → pt g n l = some (t, q) := by
  intro f
  induction f with
  | zero => intro n l t q g h; cases h
  | succ f ih =>
    intro n l t q g h hg
    obtain ⟨g, rfl⟩ : ∃ g', g = g' + 1 := ⟨g - 1, by omega⟩
    match l, h, hg with
    | [], h, _ => cases h
    | c :: r, h, hg =>
      simp at hg
      by_cases h1 : c.toNat = 46
      · rw [pt_dot h1] at h ⊢; exact h
      · by_cases h2 : c.toNat = 40
        · obtain ⟨b, o, d, r1, e, rfl, p1, hn, hd, p2, he⟩ := pt_node h2 h
          have a1 := (pt_short _ _ _ _ _ p1).1
          simp at a1
          exact pt_of h2 (ih _ _ _ _ _ p1 (by omega)) hn hd (ih _ _ _ _ _ p2 (by omega)) he
        · rw [pt_other h1 h2] at h; cases h
theorem pt_same {f g n : Nat} {l : Txt} (hf : l.length < f) (hg : l.length < g) : pt f n l = pt g n l := by
  cases h : pt f n l with
  | some y => rw [pt_fuel f n l y.1 y.2 g h hg]
  | none =>
    cases h2 : pt g n l with
    | none => rfl
    | some y => rw [pt_fuel g n l y.1 y.2 f h2 hf] at h; cases h

/-- What a way, whose numbers go up from n on, needs at worst. -/
def cost (ps : List Int) : Nat → Way → Int
  | _, .nil => 0
  | n, .node b o => if sz (.node b o) < 2 then 0 else nth ps (n + sz b) + max (cost ps n b) (cost ps (n + sz b + 1) o)
/-- What is paid until x is known. -/
def paid (ps : List Int) : Nat → Way → Nat → Int
  | _, .nil, _ => 0
  | n, .node b o, x =>
    if sz (.node b o) < 2 then 0
    else if x = n + sz b then nth ps (n + sz b)
    else if x < n + sz b then nth ps (n + sz b) + paid ps n b x
    else nth ps (n + sz b) + paid ps (n + sz b + 1) o x
theorem nth_bnd {ps : List Int} (h : allB ps 0 50 = true) (k : Nat) : 0 ≤ nth ps k ∧ nth ps k ≤ 50 := by
  by_cases hk : k < ps.length
  · exact allB_iff.1 h k hk
  · simp [nth, List.getElem?_eq_none (by omega : ps.length ≤ k)]
theorem cost_bnd {ps : List Int} (h : allB ps 0 50 = true) : ∀ (t : Way) (n : Nat), 0 ≤ cost ps n t ∧ cost ps n t ≤ 50 * sz t
  | .nil, n => by simp [cost, sz]
  | .node b o, n => by
    have h1 := cost_bnd h b n
    have h2 := cost_bnd h o (n + sz b + 1)
    have h3 := nth_bnd h (n + sz b)
    simp only [cost]
    split
    · omega
    · simp only [sz]
      omega
theorem paid_bnd {ps : List Int} (h : allB ps 0 50 = true) (x : Nat) : ∀ (t : Way) (n : Nat), 0 ≤ paid ps n t x ∧ paid ps n t x ≤ 50 * sz t
  | .nil, n => by simp [paid, sz]
  | .node b o, n => by
    have h1 := paid_bnd h x b n
    have h2 := paid_bnd h x o (n + sz b + 1)
    have h3 := nth_bnd h (n + sz b)
    have hsz : sz (.node b o) = sz b + sz o + 1 := rfl
    rw [paid]
    by_cases c1 : sz (.node b o) < 2
    · rw [if_pos c1]; omega
    · rw [if_neg c1]
      by_cases c2 : x = n + sz b
      · rw [if_pos c2]; omega
      · rw [if_neg c2]
        by_cases c3 : x < n + sz b
        · rw [if_pos c3]; omega
        · rw [if_neg c3]; omega
def pricesB (ps : List Int) : Bool := decide (ps.length ≤ 9) && allB ps 0 50
/-- The way that a whole text is, of so many numbers. -/
def wayT (many : Nat) (l : Txt) : Option Way :=
  match pt (l.length + 1) 0 l with
  | some (t, []) => if sz t = many then some t else none
  | _ => none
def needsF (ps : List Int) (l : Txt) : Int := if pricesB ps then ((wayT ps.length l).map (cost ps 0)).getD (-1) else -1
def paidF (ps : List Int) (l : Txt) (x : Int) : Int := if pricesB ps && inB x 0 ((ps.length : Int) - 1) then ((wayT ps.length l).map fun t => paid ps 0 t x.toNat).getD (-1) else -1
theorem prices_parts {ps : List Int} (h : pricesB ps = true) : ps.length ≤ 9 ∧ allB ps 0 50 = true := by
  unfold pricesB at h
  simp only [Bool.and_eq_true, decide_eq_true_eq] at h
  exact h
/-- The text of a way has so many letters. -/
theorem pt_len : ∀ (f n : Nat) (l : Txt) (t : Way) (q : Txt), pt f n l = some (t, q) → l.length = q.length + 4 * sz t + 1 := by
  intro f
  induction f with
  | zero => intro n l t q h; cases h
  | succ f ih =>
    intro n l t q h
    match l, h with
    | [], h => cases h
    | c :: r, h =>
      by_cases h1 : c.toNat = 46
      · rw [pt_dot h1] at h
        cases h
        simp [sz]
      · by_cases h2 : c.toNat = 40
        · obtain ⟨b, o, d, r1, e, rfl, p1, -, -, p2, -⟩ := pt_node h2 h
          have a1 := ih _ _ _ _ p1
          have a2 := ih _ _ _ _ p2
          simp [sz] at a1 a2 ⊢
          omega
        · rw [pt_other h1 h2] at h; cases h
theorem way_some {many : Nat} {l : Txt} {t : Way} (h : wayT many l = some t) : pt (l.length + 1) 0 l = some (t, []) ∧ sz t = many := by
  unfold wayT at h
  split at h
  · rename_i t' e
    split at h
    · rename_i hs; cases h; exact ⟨e, hs⟩
    · cases h
  · cases h
theorem way_of {many : Nat} {l : Txt} {t : Way} (h : pt (l.length + 1) 0 l = some (t, [])) (hs : sz t = many) : wayT many l = some t := by
  unfold wayT
  rw [h]
  simp [hs]

end Go.Proofs.Ytdeoigdnhcamjaa.M
