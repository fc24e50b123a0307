/- Plain lemmas on sayings: how a text is read, and what a saying says. No condition. -/
import Derived.Test.YtbhpponandmgnaaPMath
namespace Go.Proofs.Ytbhpponandmgnaa.M

/-- A saying. -/
inductive Say where
  | who (k : Nat)
  | cnt (n : Nat)
  | not (a : Say)
  | both (a b : Say)
  | one (a b : Say)
  | same (a b : Say)
/-- How many of the first people are knights. -/
def kn (K : Nat) : Nat → Nat
  | 0 => 0
  | p + 1 => kn K p + K / 2 ^ p % 2
/-- Is a saying so for a set of knights? -/
def ev (K : Nat) : Say → Bool
  | .who k => decide (K / 2 ^ k % 2 = 1)
  | .cnt n => decide (kn K 5 = n)
  | .not a => !ev K a
  | .both a b => ev K a && ev K b
  | .one a b => ev K a || ev K b
  | .same a b => ev K a == ev K b
theorem kn_le (K : Nat) : ∀ p, kn K p ≤ p
  | 0 => Nat.le_refl _
  | p + 1 => by have := kn_le K p; simp only [kn]; omega
theorem kn_more : ∀ p : Nat, p < 6 → ∀ K : Nat, K < 2 ^ p → kn K 5 = kn K p := by decide +kernel

abbrev Txt := List UInt8
def joint (m : UInt8) (a b : Say) : Option Say :=
  if m.toNat = 38 then some (.both a b) else if m.toNat = 124 then some (.one a b) else if m.toNat = 61 then some (.same a b) else none
/-- What stands behind a bracket's first saying: a sign, a saying, the closing bracket. -/
def rest2 (m : UInt8) (a : Say) (x : Option (Say × Txt)) : Option (Say × Txt) :=
  match x with
  | some (b, e :: r2) => if e.toNat = 41 then (joint m a b).map (fun s => (s, r2)) else none
  | _ => none
/-- Reads a saying from the front of a text; what is left of it. -/
def ps (p : Nat) : Nat → Txt → Option (Say × Txt)
  | 0, _ => none
  | _ + 1, [] => none
  | f + 1, c :: r =>
    if 48 ≤ c.toNat ∧ c.toNat - 48 < p then some (.who (c.toNat - 48), r)
    else if c.toNat = 33 then (ps p f r).map fun x => (.not x.1, x.2)
    else if c.toNat = 35 then
      match r with
      | [] => none
      | d :: r' => if 48 ≤ d.toNat ∧ d.toNat ≤ 53 then some (.cnt (d.toNat - 48), r') else none
    else if c.toNat = 40 then
      match ps p f r with
      | some (a, m :: r1) => rest2 m a (ps p f r1)
      | _ => none
    else none

theorem rest2_some {m : UInt8} {a : Say} {x : Option (Say × Txt)} {s : Say} {r : Txt} (h : rest2 m a x = some (s, r)) : ∃ b e, x = some (b, e :: r) ∧ e.toNat = 41 ∧ joint m a b = some s := by
  match x, h with
  | some (b, e :: r2), h =>
    simp only [rest2] at h
    split at h
    · rename_i he
      cases hj : joint m a b with
      | none => rw [hj] at h; cases h
      | some s' =>
        rw [hj] at h
        simp only [Option.map_some, Option.some.injEq, Prod.mk.injEq] at h
        obtain ⟨rfl, rfl⟩ := h
        exact ⟨b, e, rfl, he, hj⟩
    · cases h
  | some (b, []), h => cases h
  | none, h => cases h
/-- What is left is shorter. -/
theorem ps_short (p : Nat) : ∀ (f : Nat) (l : Txt) (s : Say) (r : Txt), ps p f l = some (s, r) → r.length < l.length := by
  intro f
  induction f with
  | zero => intro l s r h; cases h
  | succ f ih =>
    intro l s r h
    match l, h with
    | [], h => cases h
    | c :: q, h =>
      simp only [ps] at h
      split at h
      · cases h; simp
      · split at h
        · cases hx : ps p f q with
          | none => rw [hx] at h; cases h
          | some y =>
            rw [hx] at h
            simp only [Option.map_some, Option.some.injEq, Prod.mk.injEq] at h
            obtain ⟨rfl, rfl⟩ := h
            have := ih q y.1 y.2 hx
            simp; omega
        · split at h
          · match q, h with
            | [], h => cases h
            | d :: q', h =>
              simp only at h
              split at h
              · cases h; simp; omega
              · cases h
          · split at h
            · cases hx : ps p f q with
              | none => rw [hx] at h; cases h
              | some y =>
                rw [hx] at h
                match y, hx, h with
                | (a, []), hx, h => cases h
                | (a, m :: r1), hx, h =>
                  obtain ⟨b, e, hb, -, -⟩ := rest2_some h
                  have h1 := ih _ _ _ hx
                  have h2 := ih _ _ _ hb
                  simp at h1 h2 ⊢; omega
            · cases h
/-- With a text behind it a saying is read alike, whatever the fuel, if it is enough. -/
theorem ps_more (p : Nat) : ∀ (f : Nat) (l t : Txt) (s : Say) (r : Txt) (g : Nat), ps p f l = some (s, r) → l.length < g → ps p g (l ++ t) = some (s, r ++ t) := by
  intro f
  induction f with
  | zero => intro l t s r g h; cases h
  | succ f ih =>
    intro l t s r g h hg
    match l, h, hg with
    | [], h, _ => cases h
    | c :: q, h, hg =>
      obtain ⟨g, rfl⟩ : ∃ g', g = g' + 1 := ⟨g - 1, by simp at hg; omega⟩
      have hq : q.length < g := by simp at hg; omega
      simp only [List.cons_append, ps] at h ⊢
      split at h
      · rename_i hc; cases h; rw [if_pos hc]
      · rename_i hc
        rw [if_neg hc]
        split at h
        · rename_i hc2
          rw [if_pos hc2]
          cases hx : ps p f q with
          | none => rw [hx] at h; cases h
          | some y =>
            rw [hx] at h
            simp only [Option.map_some, Option.some.injEq, Prod.mk.injEq] at h
            obtain ⟨rfl, rfl⟩ := h
            rw [ih q t y.1 y.2 g hx hq]
            rfl
        · rename_i hc2
          rw [if_neg hc2]
          split at h
          · rename_i hc3
            rw [if_pos hc3]
            match q, h with
            | [], h => cases h
            | d :: q', h =>
              simp only [List.cons_append] at h ⊢
              split at h
              · rename_i hd; cases h; rw [if_pos hd]
              · cases h
          · rename_i hc3
            rw [if_neg hc3]
            split at h
            · rename_i hc4
              rw [if_pos hc4]
              cases hx : ps p f q with
              | none => rw [hx] at h; cases h
              | some y =>
                rw [hx] at h
                match y, hx, h with
                | (a, []), hx, h => cases h
                | (a, m :: r1), hx, h =>
                  obtain ⟨b, e, hb, he, hj⟩ := rest2_some h
                  have h1 := ps_short p f _ _ _ hx
                  rw [ih q t a (m :: r1) g hx hq]
                  simp only [List.cons_append]
                  rw [ih r1 t b (e :: r) g hb (by simp at h1; omega)]
                  simp [rest2, he, hj]
            · cases h
/-- More fuel than letters is enough. -/
theorem ps_fuel (p : Nat) (l : Txt) {f g : Nat} (hf : l.length < f) (hg : l.length < g) : ps p f l = ps p g l := by
  cases h : ps p f l with
  | some y =>
    have := ps_more p f l [] y.1 y.2 g h hg
    simp only [List.append_nil] at this
    rw [this]
  | none =>
    cases h2 : ps p g l with
    | none => rfl
    | some y =>
      have := ps_more p g l [] y.1 y.2 f h2 hf
      simp only [List.append_nil] at this
      rw [this] at h
      cases h
theorem ps_nil (p f : Nat) : ps p f [] = none := by cases f <;> rfl
/-- The saying that a whole text is. -/
def say (p : Nat) (l : Txt) : Option Say :=
  match ps p (l.length + 1) l with
  | some (a, []) => some a
  | _ => none
/-- Is a text a saying of so many people? -/
def textB (p : Int) (l : Txt) : Bool := inB p 1 5 && (decide (l.length ≤ 40) && (say p.toNat l).isSome)
/-- Is a saying so for a set? -/
def soB (p : Int) (l : Txt) (K : Int) : Bool := textB p l && (inB K 0 (2 ^ p.toNat - 1) && ((say p.toNat l).map (ev K.toNat)).getD false)
theorem say_some {p : Nat} {l : Txt} {a : Say} : say p l = some a ↔ ps p (l.length + 1) l = some (a, []) := by
  unfold say
  constructor
  · intro h
    split at h
    · rename_i b e; cases h; exact e
    · cases h
  · intro h; rw [h]
/-- An exclamation mark ahead. -/
theorem say_not (p : Nat) (l : Txt) : say p (33 :: l) = (say p l).map .not := by
  have e : ps p ((33 :: l : Txt).length + 1) (33 :: l) = (ps p (l.length + 1) l).map fun x => (Say.not x.1, x.2) := by
    simp only [List.length_cons, ps]
    rw [if_neg (by simp), if_pos (by decide)]
  unfold say
  rw [e]
  cases h : ps p (l.length + 1) l with
  | none => rfl
  | some y =>
    obtain ⟨a, r⟩ := y
    cases r <;> rfl
/-- A saying, an equals sign, and that it is not so. -/
theorem say_same (p : Nat) (l : Txt) (a : Say) (h : say p l = some a) : say p (40 :: (l ++ (61 :: 33 :: (l ++ [41])))) = some (.same a (.not a)) := by
  rw [say_some] at h ⊢
  generalize hf : (40 :: (l ++ (61 :: 33 :: (l ++ [41]))) : Txt).length = f
  simp at hf
  simp only [ps]
  rw [if_neg (by simp), if_neg (by decide), if_neg (by decide), if_pos (by decide)]
  rw [ps_more p _ l _ a [] f h (by omega)]
  simp only [List.nil_append]
  obtain ⟨g, rfl⟩ : ∃ g, f = g + 1 := ⟨f - 1, by omega⟩
  have e : ps p (g + 1) (33 :: (l ++ [41])) = some (.not a, [41]) := by
    simp only [ps]
    rw [if_neg (by simp), if_pos (by decide), ps_more p _ l [41] a [] g h (by omega)]
    rfl
  rw [e]
  rfl
theorem text_not (p : Int) (l : Txt) (hl : l.length < 40) : textB p (33 :: l) = textB p l := by
  unfold textB
  cases hp : inB p 1 5 with
  | false => rfl
  | true =>
    rw [say_not]
    have e1 : decide ((33 :: l : Txt).length ≤ 40) = true := decide_eq_true (by simp; omega)
    have e2 : decide (l.length ≤ 40) = true := decide_eq_true (by omega)
    rw [e1, e2]
    simp
theorem so_not (p : Int) (l : Txt) (K : Int) (hl : l.length < 40) (h : textB p l = true) (hK : inB K 0 (2 ^ p.toNat - 1) = true) : soB p (33 :: l) K = !soB p l K := by
  unfold soB
  rw [text_not p l hl, h, hK]
  unfold textB at h
  simp only [Bool.and_eq_true] at h
  rw [say_not]
  obtain ⟨a, ha⟩ := Option.isSome_iff_exists.1 h.2.2
  rw [ha]
  simp [ev]
theorem so_same (p : Int) (l : Txt) (K : Int) (h : textB p l = true) : soB p (40 :: (l ++ (61 :: 33 :: (l ++ [41])))) K = false := by
  unfold textB at h
  simp only [Bool.and_eq_true] at h
  obtain ⟨a, ha⟩ := Option.isSome_iff_exists.1 h.2.2
  unfold soB
  rw [say_same _ _ a ha]
  simp [ev]
theorem text_no {p : Int} {l : Txt} (h : textB p l = false) (K : Int) : soB p l K = false := by simp [soB, h]
theorem set_no {p : Int} {l : Txt} {K : Int} (h : inB K 0 (2 ^ p.toNat - 1) = false) : soB p l K = false := by simp [soB, h]

end Go.Proofs.Ytbhpponandmgnaa.M
