/- The place of a number of questions and a row in the table, and what the table says. No condition. -/
import Derived.Test.YtdpbjepjiloeaaaWin
import Derived.Test.YtdpbjepjiloeaaaQMath
namespace Go.Proofs.Ytdpbjepjiloeaaa.M

/-- The place behind the first k numbers. -/
def place (q : Nat) (row : List Int) : Nat → Nat
  | 0 => q
  | k + 1 => 11 * place q row k + (nth row k).toNat
theorem place_bnd {q : Nat} {row : List Int} (hk : knownB row = true) : ∀ k, k ≤ row.length → place q row k + 1 ≤ (q + 1) * 11 ^ k
  | 0, _ => by simp [place]
  | k + 1, h => by
    obtain ⟨-, -, hx, -⟩ := known_parts hk
    have h1 := place_bnd (q := q) hk k (by omega)
    have h2 := hx k (by omega)
    rw [Nat.pow_succ, ← Nat.mul_assoc]
    simp only [place]
    omega
theorem place_lt {q : Nat} {row : List Int} (hk : knownB row = true) (hq : q ≤ 9) : place q row row.length < 13310 := by
  obtain ⟨k1, k3, -, -⟩ := known_parts hk
  have h1 := place_bnd (q := q) hk row.length (Nat.le_refl _)
  have h2 : (11 : Nat) ^ row.length ≤ 11 ^ 3 := Nat.pow_le_pow_right (by omega) k3
  have h3 : (q + 1) * 11 ^ row.length ≤ 10 * 11 ^ 3 := Nat.mul_le_mul (by omega) h2
  omega
theorem place_inj {q q' : Nat} {row row' : List Int} (hk : knownB row = true) (hk' : knownB row' = true) (hl : row.length = row'.length) :
    ∀ k, k ≤ row.length → place q row k = place q' row' k → q = q' ∧ ∀ j, j < k → nth row j = nth row' j
  | 0, _, h => ⟨h, fun j hj => by omega⟩
  | k + 1, hle, h => by
    obtain ⟨-, -, hx, -⟩ := known_parts hk
    obtain ⟨-, -, hx', -⟩ := known_parts hk'
    have h1 := hx k (by omega)
    have h2 := hx' k (by omega)
    simp only [place] at h
    obtain ⟨e, hr⟩ := place_inj (q := q) (q' := q') hk hk' hl k (by omega) (by omega)
    refine ⟨e, fun j hj => ?_⟩
    by_cases ej : j < k
    · exact hr j ej
    · obtain rfl : j = k := by omega
      omega
theorem place_row {q q' : Nat} {row row' : List Int} (hk : knownB row = true) (hk' : knownB row' = true) (hl : row.length = row'.length) (h : place q row row.length = place q' row' row'.length) : q = q' ∧ row = row' := by
  rw [← hl] at h
  obtain ⟨e, hr⟩ := place_inj hk hk' hl row.length (Nat.le_refl _) h
  exact ⟨e, ext_nth hl fun j hj => hr j (by omega)⟩
/-- What the table says of at most q questions is right. -/
def Inv (L : Nat) (F : List Int) (q : Nat) : Prop := ∀ q' row, q' ≤ q → knownB row = true → row.length = L →
  nth F (place q' row L) = 0 ∨ (nth F (place q' row L) = 1 ∧ win q' row = true) ∨ (nth F (place q' row L) = 2 ∧ win q' row = false)
theorem inv_less {L : Nat} {F : List Int} {q q' : Nat} (h : Inv L F q) (hq : q' ≤ q) : Inv L F q' := fun p row hp => h p row (by omega)
theorem inv_zero (L n q : Nat) : Inv L (List.replicate n 0) q := fun q' row _ _ _ => by
  left
  by_cases h : place q' row L < n
  · simp [nth, h]
  · simp only [nth]; rw [List.getElem?_eq_none (by simp; omega)]; rfl
theorem nth_set2 (xs : List Int) (k j : Nat) (x : Int) (hk : k < xs.length) : nth (xs.set k x) j = if j = k then x else nth xs j := by
  unfold nth
  rw [List.getElem?_set]
  by_cases h : k = j
  · subst h; simp [hk]
  · rw [if_neg h, if_neg (fun e => h e.symm)]
/-- What is said of more questions stands. -/
def Keep (L : Nat) (F F' : List Int) (q : Nat) : Prop := ∀ q' row, q < q' → knownB row = true → row.length = L → nth F' (place q' row L) = nth F (place q' row L)
theorem Keep.refl (L : Nat) (F : List Int) (q : Nat) : Keep L F F q := fun _ _ _ _ _ => rfl
theorem Keep.trans {L q : Nat} {F F' F'' : List Int} (h : Keep L F F' q) (k : Keep L F' F'' q) : Keep L F F'' q := fun q' row h1 h2 h3 => (k q' row h1 h2 h3).trans (h q' row h1 h2 h3)
theorem place_ne {L q q' : Nat} {row row' : List Int} (hk : knownB row = true) (hL : row.length = L) (hk' : knownB row' = true) (hL' : row'.length = L) (h : q' ≠ q ∨ row' ≠ row) : place q' row' L ≠ place q row L := fun e => by
  subst hL
  have e' : place q' row' row'.length = place q row row.length := by rw [hL']; exact e
  obtain ⟨e1, e2⟩ := place_row hk' hk hL' e'
  rcases h with h | h
  · exact h e1
  · exact h e2
/-- The mark 'not sure yet'. -/
theorem inv_mark {L q : Nat} {F row : List Int} {x : Int} (hI : Inv L F (q + 1)) (hk : knownB row = true) (hL : row.length = L) (hT : place (q + 1) row L < F.length) : Inv L (F.set (place (q + 1) row L) x) q := fun q' row' h1 h2 h3 => by
  rw [nth_set2 _ _ _ _ hT, if_neg (place_ne hk hL h2 h3 (.inl (by omega)))]
  exact hI q' row' (by omega) h2 h3
theorem inv_end {L q : Nat} {F F1 row : List Int} {x : Int} (hI : Inv L F (q + 1)) (hI1 : Inv L F1 q) (hk : knownB row = true) (hL : row.length = L) (hT : place (q + 1) row L < F.length)
    (hK : Keep L (F.set (place (q + 1) row L) x) F1 q) (hx : (x = 1 ∧ win (q + 1) row = true) ∨ (x = 2 ∧ win (q + 1) row = false)) : Inv L F1 (q + 1) ∧ Keep L F F1 (q + 1) := by
  constructor
  · intro q' row' h1 h2 h3
    by_cases hq : q' ≤ q
    · exact hI1 q' row' hq h2 h3
    · obtain rfl : q' = q + 1 := by omega
      rw [hK (q + 1) row' (by omega) h2 h3, nth_set2 _ _ _ _ hT]
      by_cases e : row' = row
      · subst e; rw [if_pos rfl]; exact .inr hx
      · rw [if_neg (place_ne hk hL h2 h3 (.inr e))]
        exact hI (q + 1) row' (Nat.le_refl _) h2 h3
  · intro q' row' h1 h2 h3
    rw [hK q' row' (by omega) h2 h3, nth_set2 _ _ _ _ hT, if_neg (place_ne hk hL h2 h3 (.inl (by omega)))]
/-- The mark 'sure' over the other one. -/
theorem keep_over {L q : Nat} {F F1 row : List Int} {x y : Int} (hk : knownB row = true) (hL : row.length = L) (hT : place (q + 1) row L < F.length) (hl : F1.length = F.length) (hI1 : Inv L F1 q)
    (hK : Keep L (F.set (place (q + 1) row L) x) F1 q) : Inv L (F1.set (place (q + 1) row L) y) q ∧ Keep L (F.set (place (q + 1) row L) y) (F1.set (place (q + 1) row L) y) q := by
  constructor
  · intro q' row' h1 h2 h3
    rw [nth_set2 _ _ _ _ (by omega), if_neg (place_ne hk hL h2 h3 (.inl (by omega)))]
    exact hI1 q' row' h1 h2 h3
  · intro q' row' h1 h2 h3
    have := hK q' row' h1 h2 h3
    rw [nth_set2 _ _ _ _ hT] at this
    rw [nth_set2 _ _ _ _ (by omega), nth_set2 _ _ _ _ hT]
    split
    · rfl
    · rename_i h
      rw [this, if_neg h]
end Go.Proofs.Ytdpbjepjiloeaaa.M
