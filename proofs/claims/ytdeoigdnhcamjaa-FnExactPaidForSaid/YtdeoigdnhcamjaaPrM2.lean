/- Plain lemmas on the reference's search: what it reads for a run. No condition. -/
import Derived.Test.YtdeoigdnhcamjaaPrM
namespace Go.Proofs.Ytdeoigdnhcamjaa.M

theorem pt_suf : ∀ (f n : Nat) (l : Txt) (t : Way) (q : Txt), pt f n l = some (t, q) → q <:+ l := by
  intro f
  induction f with
  | zero => intro n l t q h; cases h
  | succ f ih =>
    intro n l t q h
    match l, h with
    | [], h => cases h
    | c :: r, h =>
      by_cases h1 : c.toNat = 46
      · rw [pt_dot h1] at h
        cases h
        exact List.suffix_cons _ _
      · by_cases h2 : c.toNat = 40
        · obtain ⟨b, o, d, r1, e, rfl, p1, -, -, p2, -⟩ := pt_node h2 h
          have a1 := ih _ _ _ _ p1
          have a2 := ih _ _ _ _ p2
          exact (((List.suffix_cons _ _).trans a2).trans ((List.suffix_cons _ _).trans a1)).trans (List.suffix_cons _ _)
        · rw [pt_other h1 h2] at h; cases h

/-- What is read for a run of d numbers from n on: what it needs, and what is left. -/
def rd (ps : List Int) (n d : Nat) (r : Txt) : Option (Int × Txt) :=
  match pt (r.length + 1) n r with
  | some (t, q) => if sz t = d then some (cost ps n t, q) else none
  | none => none
theorem rd_some {ps : List Int} {n d : Nat} {r q : Txt} {x : Int} (h : rd ps n d r = some (x, q)) : ∃ t, pt (r.length + 1) n r = some (t, q) ∧ sz t = d ∧ x = cost ps n t := by
  unfold rd at h
  split at h
  · rename_i t q' e
    split at h
    · rename_i hs; cases h; exact ⟨t, e, hs, rfl⟩
    · cases h
  · cases h
theorem rd_of {ps : List Int} {n d : Nat} {r q : Txt} {t : Way} (h : pt (r.length + 1) n r = some (t, q)) (hs : sz t = d) : rd ps n d r = some (cost ps n t, q) := by
  unfold rd
  rw [h]
  simp [hs]
theorem rd_suf {ps : List Int} {n d : Nat} {r q : Txt} {x : Int} (h : rd ps n d r = some (x, q)) : q <:+ r := by
  obtain ⟨t, e, -, -⟩ := rd_some h
  exact pt_suf _ _ _ _ _ e
theorem rd_nil {ps : List Int} {n d : Nat} : rd ps n d [] = none := rfl
theorem rd_dot {ps : List Int} {n : Nat} {c : UInt8} {r : Txt} (h : c.toNat = 46) : rd ps n 0 (c :: r) = some (0, r) := by
  have h0 : pt ((c :: r).length + 1) n (c :: r) = some (.nil, r) := pt_dot h
  have := rd_of (ps := ps) (d := 0) h0 rfl
  simpa [cost] using this
theorem sz_nil {t : Way} (h : sz t = 0) : t = .nil := by
  cases t with
  | nil => rfl
  | node b o => simp [sz] at h
theorem rd_nodot {ps : List Int} {n : Nat} {c : UInt8} {r : Txt} (h : ¬ c.toNat = 46) : rd ps n 0 (c :: r) = none := by
  cases e : rd ps n 0 (c :: r) with
  | none => rfl
  | some y =>
    obtain ⟨x, q⟩ := y
    obtain ⟨t, hp, hs, -⟩ := rd_some e
    obtain rfl := sz_nil hs
    by_cases h4 : c.toNat = 40
    · obtain ⟨b, o, d, r1, e', ht, -⟩ := pt_node h4 hp
      cases ht
    · rw [pt_other h h4] at hp; cases hp
theorem rd_noopen {ps : List Int} {n d : Nat} {c : UInt8} {r : Txt} (h : ¬ c.toNat = 40) : rd ps n (d + 1) (c :: r) = none := by
  cases e : rd ps n (d + 1) (c :: r) with
  | none => rfl
  | some y =>
    obtain ⟨x, q⟩ := y
    obtain ⟨t, hp, hs, -⟩ := rd_some e
    by_cases h4 : c.toNat = 46
    · rw [pt_dot h4] at hp
      cases hp
      simp [sz] at hs
    · rw [pt_other h4 h] at hp; cases hp
/-- The i-th number of the run is the first guess of what is read. -/
def Hit (ps : List Int) (n d : Nat) (r : Txt) (i : Nat) (a b : Int) (q2 : Txt) : Prop :=
  ∃ q1 e e2, rd ps n i r = some (a, e :: q1) ∧ e.toNat = 48 + (n + i) ∧ rd ps (n + i + 1) (d - i) q1 = some (b, e2 :: q2) ∧ e2.toNat = 41
theorem rd_yes {ps : List Int} {n d i : Nat} {c : UInt8} {r q2 : Txt} {a b : Int} (hc : c.toNat = 40) (hi : i ≤ d) (hn : n + d ≤ 8) (h : Hit ps n d r i a b q2) :
    rd ps n (d + 1) (c :: r) = some (if d = 0 then 0 else nth ps (n + i) + max a b, q2) := by
  obtain ⟨q1, e, e2, h1, he, h2, he2⟩ := h
  obtain ⟨tb, hb, hsb, rfl⟩ := rd_some h1
  obtain ⟨to, ho, hso, rfl⟩ := rd_some h2
  have hlt := (pt_short _ _ _ _ _ hb).1
  simp at hlt
  have ho' := ho
  rw [pt_same (g := r.length + 1) (by omega) (by omega), ← hsb] at ho'
  have hp : pt ((c :: r).length + 1) n (c :: r) = some (.node tb to, q2) := pt_of (f := r.length + 1) hc hb (by omega) (by omega) ho' he2
  rw [rd_of (ps := ps) (d := d + 1) hp (by simp [sz]; omega)]
  have hs : sz (.node tb to) = d + 1 := by simp [sz]; omega
  simp only [cost, hs, hsb]
  by_cases hd : d = 0
  · rw [if_pos hd, if_pos (by omega)]
  · rw [if_neg hd, if_neg (by omega)]
theorem rd_no {ps : List Int} {n d : Nat} {c : UInt8} {r : Txt} (hc : c.toNat = 40) (h : ∀ i, i ≤ d → ∀ a b q2, ¬ Hit ps n d r i a b q2) : rd ps n (d + 1) (c :: r) = none := by
  cases e : rd ps n (d + 1) (c :: r) with
  | none => rfl
  | some y =>
    obtain ⟨x, q⟩ := y
    obtain ⟨t, hp, hs, -⟩ := rd_some e
    obtain ⟨b, o, d', r1, e', rfl, hb, hn, hd, ho, he⟩ := pt_node hc hp
    have hlt := (pt_short _ _ _ _ _ hb).1
    simp at hlt hb ho
    simp only [sz] at hs
    exact absurd ⟨r1, d', e', rd_of hb rfl, hd, rd_of (ps := ps) (by rw [pt_same (g := r.length + 1) (by omega) (by omega)]; exact ho) (by omega), he⟩ (h (sz b) (by omega) _ _ _)

end Go.Proofs.Ytdeoigdnhcamjaa.M
