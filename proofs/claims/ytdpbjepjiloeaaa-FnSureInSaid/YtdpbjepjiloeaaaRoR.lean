/- Rows of rows that the call owns: how they are read, appended to, marked, compared. No condition. -/
import Derived.Test.YtdpbjepjiloeaaaMem
import Derived.Maps.AppendAt
import Derived.Deep.RegionWith
namespace Go.Proofs.Ytdpbjepjiloeaaa
open Go Go.RowKit
open M (nth)

namespace M
/-- The k-th row; the empty one behind the end. -/
def nthR (l : List (List Int)) (k : Nat) : List Int := l[k]?.getD []
theorem nthR_lt {l : List (List Int)} {k : Nat} (h : k < l.length) : l[k]? = some (nthR l k) := by simp [nthR, h]
/-- How many numbers stand ahead of the k-th row. -/
def off : List (List Int) → Nat → Nat
  | _, 0 => 0
  | [], _ + 1 => 0
  | x :: r, j + 1 => x.length + off r j
theorem off_succ : ∀ {l : List (List Int)} {j : Nat}, j < l.length → off l (j + 1) = off l j + (nthR l j).length
  | [], _, h => by simp at h
  | x :: r, 0, _ => by simp [off, nthR]
  | x :: r, j + 1, h => by
    have := off_succ (l := r) (j := j) (by simpa using h)
    simp only [off] at this ⊢
    rw [this]
    simp [nthR]; omega
/-- The first j rows are marked. -/
def mkR (s : Int) : Nat → List (List Int) → List (List Int)
  | 0, l => l
  | _ + 1, [] => []
  | j + 1, x :: r => marks s x.length :: mkR (s + x.length) j r
theorem length_mkR : ∀ (s : Int) (j : Nat) (l : List (List Int)), (mkR s j l).length = l.length
  | _, 0, _ => rfl
  | _, _ + 1, [] => rfl
  | s, j + 1, x :: r => by simp [mkR, length_mkR _ j r]
theorem mkR_set : ∀ {s : Int} {j : Nat} {l : List (List Int)}, j < l.length → (mkR s j l).set j (marks (s + off l j) (nthR l j).length) = mkR s (j + 1) l
  | _, _, [], h => by simp at h
  | s, 0, x :: r, _ => by simp [mkR, off, nthR]
  | s, j + 1, x :: r, h => by
    have := mkR_set (s := s + x.length) (j := j) (l := r) (by simpa using h)
    simp [mkR, off, nthR, Int.add_assoc] at this ⊢
    exact this
theorem nthR_mkR : ∀ {s : Int} {j : Nat} {l : List (List Int)}, j < l.length → nthR (mkR s j l) j = nthR l j
  | _, _, [], h => by simp at h
  | s, 0, x :: r, _ => by simp [mkR]
  | s, j + 1, x :: r, h => by
    have := nthR_mkR (s := s + x.length) (j := j) (l := r) (by simpa using h)
    simpa [mkR, nthR] using this
theorem nthR_mkR_lt : ∀ {s : Int} {j i : Nat} {l : List (List Int)}, i < j → i < l.length → nthR (mkR s j l) i = marks (s + off l i) (nthR l i).length
  | _, _, _, [], _, h => by simp at h
  | s, 0, i, x :: r, h, _ => by omega
  | s, j + 1, 0, x :: r, _, _ => by simp [mkR, nthR, off]
  | s, j + 1, i + 1, x :: r, h1, h2 => by
    have := nthR_mkR_lt (s := s + x.length) (j := j) (i := i) (l := r) (by omega) (by simpa using h2)
    simp [mkR, nthR, off, Int.add_assoc] at this ⊢
    exact this
theorem nthR_set {l : List (List Int)} {k j : Nat} {x : List Int} (h : k < l.length) : nthR (l.set k x) j = if j = k then x else nthR l j := by
  unfold nthR
  by_cases e : j = k
  · subst e; simp [h]
  · rw [if_neg e, List.getElem?_set_ne (fun h => e h.symm)]
theorem off_le {l : List (List Int)} {m : Nat} (h : ∀ k, k < l.length → (nthR l k).length ≤ m) : ∀ j, j ≤ l.length → off l j ≤ j * m
  | 0, _ => by cases l <;> simp [off]
  | j + 1, hj => by
    have := off_le h j (by omega)
    have := h j (by omega)
    rw [off_succ (by omega), Nat.succ_mul]
    omega
end M

theorem Try.infoRow : (Try.prog.info? 23).map (fun i => (i.zero, i.size, i.bytes)) = some (some (.slice none 0 0), 1, 24) := by kernel_rfl

/-- The value is a slice that owns the integers xs. -/
def RowV (w : World) (b : Nat) (v : Value) (xs : List Int) : Prop := ∃ A n c, v = .slice A n c ∧ OwnI w b A n c xs
/-- The slices vs own the lists xss, each a block of its own. -/
structure RowsAt (w : World) (b : Nat) (vs : List Value) (xss : List (List Int)) : Prop where
  len : vs.length = xss.length
  own : ∀ (k : Nat) (v : Value), vs[k]? = some v → RowV w b v (M.nthR xss k)
  apart : ∀ (i j : Nat) (u v : Value), i < j → vs[i]? = some u → vs[j]? = some v → v.ownBlock = none ∨ u.ownBlock ≠ v.ownBlock
/-- The slice value owns the rows xss. -/
def OwnR (w : World) (b : Nat) (A : Option Addr) (n c : Nat) (xss : List (List Int)) : Prop :=
  ∃ vs, xss.length = n ∧ w.ownsRow b 23 1 (.slice A n c) n vs ∧ RowsAt w b vs xss

theorem row_ne {w : World} {b b' : Nat} {A A' : Option Addr} {n c m c' : Nat} {vs : List Value} {xs : List Int} (h : w.ownsRow b 23 1 (.slice A n c) n vs) (h' : OwnI w b' A' m c' xs) :
    (Value.slice A n c).ownBlock = none ∨ (Value.slice A n c).ownBlock ≠ (Value.slice A' m c').ownBlock := by
  rcases h.2 with ⟨e, rfl⟩ | ⟨g, cap, cur, e, _, hg, _⟩
  · injection e with e1 _ _; subst e1; exact .inl rfl
  · injection e with e1 _ _; subst e1
    rcases h'.2.2 with ⟨e2, _⟩ | ⟨g', cap', cur', e2, _, hg', _⟩
    · injection e2 with e3 _ _; subst e3; exact .inr (by simp [Value.ownBlock])
    · injection e2 with e3 _ _; subst e3
      refine .inr fun e4 => ?_
      obtain rfl : g = g' := by simpa [Value.ownBlock] using e4
      rw [hg] at hg'
      simp at hg'
theorem OwnR.kept {w w' : World} {b : Nat} {A : Option Addr} {n c : Nat} {xss : List (List Int)} (h : OwnR w b A n c xss) (hb : Below w.heap.size w w') : OwnR w' b A n c xss := by
  obtain ⟨vs, h1, h2, h3⟩ := h
  refine ⟨vs, h1, h2.kept (grown_of_below hb) (by cases A <;> simp [Value.ownBlock]), h3.len, fun k v hv => ?_, h3.apart⟩
  obtain ⟨A', n', c', e, ho⟩ := h3.own k v hv
  exact ⟨A', n', c', e, ho.below hb⟩
theorem OwnR.quiet {w w' : World} {b : Nat} {A : Option Addr} {n c : Nat} {xss : List (List Int)} (h : OwnR w b A n c xss) (hq : Quiet w w') : OwnR w' b A n c xss := h.kept (hq.below _)
theorem OwnR.mono {w : World} {b b' : Nat} {A : Option Addr} {n c : Nat} {xss : List (List Int)} (h : OwnR w b A n c xss) (hb : b' ≤ b) : OwnR w b' A n c xss := by
  obtain ⟨vs, h1, h2, h3⟩ := h
  refine ⟨vs, h1, ⟨h2.1, ?_⟩, h3.len, fun k v hv => ?_, h3.apart⟩
  · rcases h2.2 with h0 | ⟨g, cap, cur, hv, hg, r⟩
    · exact .inl h0
    · exact .inr ⟨g, cap, cur, hv, Nat.le_trans hb hg, r⟩
  · obtain ⟨A', n', c', e, ho⟩ := h3.own k v hv
    exact ⟨A', n', c', e, ho.mono hb⟩
theorem OwnR.big {w : World} {b : Nat} {A : Option Addr} {n c : Nat} {xss : List (List Int)} (h : OwnR w b A n c xss) : n ≤ 9223372036854775807 := by
  obtain ⟨vs, h1, h2, h3⟩ := h
  rcases h2.2 with ⟨_, rfl⟩ | ⟨g, cap, cur, hv, _, _, h4, h5, _⟩
  · omega
  · unfold maxLen at h5; omega
theorem OwnR.len {w : World} {b : Nat} {A : Option Addr} {n c : Nat} {xss : List (List Int)} (h : OwnR w b A n c xss) : xss.length = n := by
  obtain ⟨vs, h1, h2, h3⟩ := h
  exact h1
/-- The k-th row. -/
theorem OwnR.at_ {w : World} {b : Nat} {A : Option Addr} {n c : Nat} {xss : List (List Int)} (h : OwnR w b A n c xss) {k : Nat} (hk : k < n) :
    ∃ g A' n' c', A = some ⟨g, 0, none⟩ ∧ w.cell? ⟨g, k, none⟩ = some (.slice A' n' c') ∧ OwnI w b A' n' c' (M.nthR xss k) := by
  obtain ⟨vs, h1, h2, h3⟩ := h
  have h2' := h2
  rcases h2.2 with ⟨_, rfl⟩ | ⟨g, cap, cur, hv, _, hg, _⟩
  · omega
  · injection hv with hA _ _
    subst hA
    have hlt : k < vs.length := by rw [h3.len, h1]; exact hk
    obtain ⟨A', n', c', e, ho⟩ := h3.own k vs[k] (by simp [hlt])
    refine ⟨g, A', n', c', rfl, ?_, ho⟩
    rw [h2'.cellAt k (by omega), List.getElem?_eq_getElem hlt, e]
theorem ownR_nil (w : World) (b : Nat) : OwnR w b none 0 0 [] := ⟨[], rfl, World.ownsRow_nil w b _ _, rfl, fun k v h => by simp at h, fun i j u v _ h => by simp at h⟩
theorem ownR_lit0 (w : World) (b : Nat) (hb : b ≤ w.heap.size) : OwnR (w.alloc (.cells #[] 23)) b (some ⟨w.heap.size, 0, none⟩) 0 0 [] :=
  ⟨[], rfl, by have := World.ownsRow_lit (e := 23) (size := 1) w #[] 0 hb (by unfold maxLen; omega) rfl; exact this, rfl, fun k v h => by simp at h, fun i j u v _ h => by simp at h⟩
/-- Where the row that an append makes lies. -/
theorem rows_block {w : World} {b : Nat} {A : Option Addr} {n c : Nat} {vs : List Value} (h : w.ownsRow b 23 1 (.slice A n c) n vs) : ∀ j, (Value.slice A n c).ownBlock = some j → b ≤ j := by
  intro j e
  rcases h.2 with ⟨hv, _⟩ | ⟨g, cap, cur, hv, hb, _, _⟩
  · injection hv with hA _ _
    subst hA
    cases e
  · injection hv with hA _ _
    subst hA
    cases e
    exact hb
/-- Behind an append of a row that is younger than all of them. -/
theorem OwnR.appended {w0 w w1 : World} {b : Nat} {A A' : Option Addr} {n c n' c' : Nat} {vs : List Value} {xss : List (List Int)} {xs : List Int} {v' : Value} {o : Obj}
    (hl : xss.length = n) (hr : w.ownsRow b 23 1 (.slice A n c) n vs) (hR : RowsAt w0 b vs xss) (hb : Below w0.heap.size w0 w) (ho : OwnI w w0.heap.size A' n' c' xs) (hbw : b ≤ w0.heap.size)
    (hown : w1.ownsRow b 23 1 v' (n + 1) (vs ++ [.slice A' n' c'])) (hg : (w.alloc o).grownBy w1 (Value.slice A n c).ownBlock) :
    ∃ g c1, v' = .slice (some ⟨g, 0, none⟩) (n + 1) c1 ∧ OwnR w1 b (some ⟨g, 0, none⟩) (n + 1) c1 (xss ++ [xs]) := by
  have hown0 := hown
  rcases hown.2 with ⟨_, h0⟩ | ⟨g, c1, cur, rfl, _, _, _⟩
  · omega
  have hvl := hR.len
  refine ⟨g, c1, rfl, vs ++ [.slice A' n' c'], by simp [hl], hown0, by simp [hvl], fun k v hv => ?_, fun i j u v hij hu hv => ?_⟩
  · by_cases hk : k < vs.length
    · rw [List.getElem?_append_left hk] at hv
      obtain ⟨A2, n2, c2, e, hoI⟩ := hR.own k v hv
      subst e
      have e2 : M.nthR (xss ++ [xs]) k = M.nthR xss k := by simp [M.nthR, List.getElem?_append_left (show k < xss.length by omega)]
      rw [e2]
      refine ⟨A2, n2, c2, rfl, ((hoI.below hb).alloc o).kept hg ?_⟩
      rcases row_ne hr (hoI.below hb) with h | h
      · rw [h]
        cases A2 with
        | none => exact .inl rfl
        | some ad => exact .inr (by simp [Value.ownBlock])
      · exact .inr h.symm
    · have hk2 : k = vs.length := by
        have := (List.getElem?_eq_some_iff.1 hv).1
        simp at this
        omega
      subst hk2
      rw [List.getElem?_append_right (Nat.le_refl _)] at hv
      simp at hv
      subst hv
      have e2 : M.nthR (xss ++ [xs]) vs.length = xs := by simp [M.nthR, hvl]
      rw [e2]
      refine ⟨A', n', c', rfl, ((ho.alloc o).kept hg ?_).mono hbw⟩
      rcases row_ne hr ho with h | h
      · rw [h]
        cases A' with
        | none => exact .inl rfl
        | some ad => exact .inr (by simp [Value.ownBlock])
      · exact .inr h.symm
  · have hi : i < vs.length := by
      have := (List.getElem?_eq_some_iff.1 hv).1
      simp at this
      omega
    rw [List.getElem?_append_left hi] at hu
    by_cases hj : j < vs.length
    · rw [List.getElem?_append_left hj] at hv
      exact hR.apart i j u v hij hu hv
    · have hj2 : j = vs.length := by
        have := (List.getElem?_eq_some_iff.1 hv).1
        simp at this
        omega
      subst hj2
      rw [List.getElem?_append_right (Nat.le_refl _)] at hv
      simp at hv
      subst hv
      obtain ⟨A2, n2, c2, e, hoI⟩ := hR.own i u hu
      subst e
      cases A' with
      | none => exact .inl rfl
      | some ad' =>
        refine .inr fun e => ?_
        cases A2 with
        | none => simp [Value.ownBlock] at e
        | some ad =>
          have h1 := hoI.lt.2
          have h2 := ho.lt.1
          simp [Value.ownBlock] at e
          omega
/-- Behind a turn of the k-th row alone. -/
theorem OwnR.turned {w w' : World} {b : Nat} {A : Option Addr} {n c : Nat} {xss : List (List Int)} {k g : Nat} {A' : Option Addr} {n' c' : Nat} {ys : List Int} (h : OwnR w b A n c xss) (hA : A = some ⟨g, 0, none⟩) (hk : k < n)
    (hc : w.cell? ⟨g, k, none⟩ = some (.slice A' n' c')) (ho : OwnI w' b A' n' c' ys) (hg : w.grownBy w' (Value.slice A' n' c').ownBlock) (hl : ys.length = (M.nthR xss k).length) : OwnR w' b A n c (xss.set k ys) := by
  obtain ⟨vs, h1, h2, h3⟩ := h
  subst hA
  have hlt : k < vs.length := by rw [h3.len, h1]; exact hk
  have hkv : vs[k]? = some (.slice A' n' c') := by rw [← h2.cellAt k (by omega)]; exact hc
  obtain ⟨A2, n2, c2, e, hoI⟩ := h3.own k _ hkv
  injection e with e1 e2 e3
  subst e1 e2 e3
  refine ⟨vs, by simpa using h1, h2.kept hg (row_ne h2 hoI), by simpa using h3.len, fun j v hv => ?_, h3.apart⟩
  rw [M.nthR_set (by omega)]
  by_cases hj : j = k
  · subst hj
    rw [if_pos rfl]
    rw [hkv] at hv
    cases hv
    exact ⟨_, _, _, rfl, ho⟩
  · rw [if_neg hj]
    obtain ⟨A3, n3, c3, e, hoJ⟩ := h3.own j v hv
    subst e
    refine ⟨_, _, _, rfl, hoJ.kept hg ?_⟩
    rcases Nat.lt_or_gt_of_ne hj with hlt2 | hlt2
    · rcases h3.apart j k _ _ hlt2 hv hkv with h | h
      · rw [h]
        cases A3 with
        | none => exact .inl rfl
        | some ad => exact .inr (by simp [Value.ownBlock])
      · exact .inr h
    · rcases h3.apart k j _ _ hlt2 hkv hv with h | h
      · exact .inl h
      · exact .inr h.symm

/-- Returns owned rows, all of them new; what was there is as it was. -/
def RetR (w : World) (xss : List (List Int)) (e : Ending) (w' : World) : Prop := ∃ (A : Option Addr) (n c : Nat), e = .returned (.slice A n c) ∧ OwnR w' w.heap.size A n c xss ∧ Below w.heap.size w w'


end Go.Proofs.Ytdpbjepjiloeaaa
