/- A range over a function whose iterator hands out a row of its own that it writes between the rounds: what the caller owes and gets. -/
import Derived.RangeFuncBox
import Derived.RangeFuncLeaves
import Derived.RangeFuncCalls
namespace Go.Proofs.Ytacnngbjcchamaa
open Go Go.RowKit

/-- The blocks from n on, m of them, are as they were; the heap has not shrunk. -/
structure Kept (Bo n m : Nat) (A B : World) : Prop where
  size : A.heap.size ≤ B.heap.size
  same : ∀ k, k < n + 2 + m → k ≠ Bo → k ≠ n + 1 → B.heap[k]? = A.heap[k]?
theorem Kept.refl (Bo n m : Nat) (A : World) : Kept Bo n m A A := ⟨Nat.le_refl _, fun _ _ _ _ => rfl⟩
theorem Kept.trans {Bo n m : Nat} {A B C : World} (h : Kept Bo n m A B) (k : Kept Bo n m B C) : Kept Bo n m A C :=
  ⟨Nat.le_trans h.size k.size, fun i h1 h2 h3 => (k.same i h1 h2 h3).trans (h.same i h1 h2 h3)⟩
theorem Kept.put (Bo n m : Nat) (A : World) (o : Obj) : Kept Bo n m A (A.putObj (n + 1) o) := ⟨by simp, fun k _ _ h => World.putObj_heap_other h⟩

/-- The iterator's promise: for every caller's invariant J that abides a turn of the iterator's own m blocks, it goes through all of xs, one round each, with Pr at each. -/
def Goes {α : Type} (P : Program) (gf : Nat) (lb : Array Value) (encs : α → Array Value) (Pr : α → World → Prop) (Bo m : Nat) (xs : List α) (w : World) : Prop :=
  ∀ (W : World) (J : List α → World → Prop), Below w.heap.size w W → W.heap.size = w.heap.size + 2 →
    (∀ s A B row, J s A → A.grownBy B row → (∀ r, row = some r → w.heap.size + 2 ≤ r ∧ r < w.heap.size + 2 + m) → J s B) →
    (∀ pre x A, J pre A → Pr x A → pre.length < xs.length → ∀ n, YieldAt Fence.wide n P (w.heap.size + 1) (encs x) A fun e B => e = .returned (.bool true) ∧ J (pre ++ [x]) B ∧ Kept Bo w.heap.size m A B) →
    J [] W → ∀ n, CallsIn Fence.wide n P gf (#[.func (.yield (w.heap.size + 1)) #[] #[]] ++ lb) W fun e B => (∃ v, e = .returned v) ∧ J xs B

/-- How a round may be left: off its end alone. -/
def roundOff {α : Type} (Bo n m : Nat) (I : List α → World → Prop) (xs : List α) (A : World) : Exit → Act → World → Prop
  | .normal, _, B => Kept Bo n m A B ∧ B.heap[n + 1]? = A.heap[n + 1]? ∧ I xs B
  | _, _, _ => False

theorem wpIn_goes {α : Type} {P : Program} {g : Operand} {ps : Array Tmp} {assign body : Code} {Q : Exit → Act → World → Prop} {a : Act} {w : World} {gf : Nat} {lb : Array Value}
    (hg : a.eval g = .func (.func gf) #[] lb) (eg : ∀ args w, (callFunc gf args).run P w = .ok (.enter gf args) w)
    {encs : α → Array Value} (hps : ∀ x, (encs x).size = ps.size) {Pr : α → World → Prop} {Bo m : Nat} {xs : List α} (hseq : Goes P gf lb encs Pr Bo m xs w) (hBo : Bo < w.heap.size)
    (I : List α → World → Prop) (hI : ∀ s A B row, I s A → A.grownBy B row → (∀ r, row = some r → w.heap.size ≤ r ∧ r < w.heap.size + 2 + m) → I s B)
    (hP : ∀ x A B, Pr x A → A.grownBy B (some (w.heap.size + 1)) → Pr x B) (h0 : I [] w) (a₁ : α → Act)
    (hassign : ∀ (n : Nat) (x : α) (A : World) (K : Act → World → Prop), K (a₁ x) A →
      assign.wpIn (Fence.wide.inRound (w.heap.size + 1)) n P (Exit.then K (fun _ _ _ => False)) { tmps := (ps.zip (encs x)).foldl (fun t (p, v) => t.setIfInBounds p v) a.tmps, defers := [] } A)
    (hbody : ∀ (n : Nat) (pre : List α) (x : α) (A : World), I pre A → Pr x A → pre.length < xs.length → body.wpIn (Fence.wide.inRound (w.heap.size + 1)) n P (roundOff Bo w.heap.size m I (pre ++ [x]) A) (a₁ x) A)
    (hdone : ∀ (A : World), I xs A → A.heap[w.heap.size]? = some (.deferred (some [])) → Q .normal { a with defers := { target := .collected w.heap.size, args := #[] } :: a.defers } A) (n : Nat) :
    (Code.rangeFunc g ps assign body).wpIn Fence.wide n P Q a w := by
  refine wpIn_rangeFunc fun fn hfn => ?_
  obtain ⟨rec, hrec⟩ : ∃ rec : LoopState → Loop, rec = fun st => { state := st, pending := none, fn, tmps := a.tmps, params := ps, assign, body, defers := w.heap.size } := ⟨_, rfl⟩
  obtain ⟨W1, hW1⟩ : ∃ W1, W1 = (w.alloc (.deferred (some []))).alloc (.loop (rec .ready)) := ⟨_, rfl⟩
  have sz1 : W1.heap.size = w.heap.size + 2 := by rw [hW1]; simp
  have hL : W1.heap[w.heap.size + 1]? = some (.loop (rec .ready)) := by
    have := World.alloc_heap_new (w.alloc (.deferred (some []))) (.loop (rec .ready))
    rw [hW1]
    rwa [World.size_alloc] at this
  have hD : W1.heap[w.heap.size]? = some (.deferred (some [])) := by
    rw [hW1]
    exact (Below.heap_alloc _ _ _ (by simp)).trans (World.alloc_heap_new w _)
  have hb : Below w.heap.size w W1 := by
    rw [hW1]
    exact ((Below.refl _ w).alloc (Nat.le_refl _) _).alloc (by simp) _
  have hI1 : I [] W1 := by
    rw [hW1]
    exact hI _ _ _ none (hI _ _ _ none h0 (World.grownBy_alloc _ _ none) (fun r e => by cases e)) (World.grownBy_alloc _ _ none) (fun r e => by cases e)
  refine ⟨w.heap.size + 1, [{ target := .collected w.heap.size, args := #[] }], W1, { target := .fn (.func gf) lb, args := #[.func (.yield (w.heap.size + 1)) #[] #[]] }, W1, gf,
    #[.func (.yield (w.heap.size + 1)) #[] #[]] ++ lb, W1, ?_, ?_, fun _ _ => trivial, ?_, (fun h => by cases h), ?_⟩
  · rw [hW1, hrec]
    exact run_enterLoop_outer _ _ _ _ _
  · simp only [resolve, hg]
    simp [go_sem]
  · simp [invoke, go_sem, eg]
  refine (hseq W1 (fun pre A => I pre A ∧ A.heap[w.heap.size + 1]? = some (.loop (rec .ready)) ∧ A.heap[w.heap.size]? = some (.deferred (some []))) hb sz1 ?_ ?_ ⟨hI1, hL, hD⟩ (n - 1)).mono ?_
  · rintro s A B row ⟨hi, hl, hd⟩ hgr hr
    have hsame : ∀ k, k < w.heap.size + 2 → k < A.heap.size → B.heap[k]? = A.heap[k]? := fun k h1 h2 => hgr.block k h2 fun e => by
      have := (hr k e.symm).1
      omega
    refine ⟨hI _ _ _ _ hi hgr fun r e => ?_, (hsame _ (by omega) (Array.getElem?_eq_some_iff.1 hl).1).trans hl, (hsame _ (by omega) (Array.getElem?_eq_some_iff.1 hd).1).trans hd⟩
    have := hr r e
    omega
  · rintro pre x A ⟨hi, hl, hd⟩ hp hlen n2
    have hlt := (Array.getElem?_eq_some_iff.1 hl).1
    have hy := run_yield (P := P) (args := encs x) hl (by rw [hrec]; exact hps x)
    rw [hrec] at hy
    refine ⟨fn, _, assign, body, hy, roundIn_of_wpIn hfn (hassign _ x A _ ⟨_, run_beginRound hl (by rw [hrec]), ?_⟩)⟩
    have hl2 : (A.putObj (w.heap.size + 1) (.loop { rec .ready with state := .busy })).heap[w.heap.size + 1]? = some (.loop { rec .ready with state := .busy }) := World.putObj_heap_same hlt
    have hd2 : (A.putObj (w.heap.size + 1) (.loop { rec .ready with state := .busy })).heap[w.heap.size]? = some (.deferred (some [])) := (World.putObj_heap_other (by omega)).trans hd
    have hput : ∀ (C : World) (o : Obj), C.grownBy (C.putObj (w.heap.size + 1) o) (some (w.heap.size + 1)) := fun C o => grownBy_putObj' C _ o
    have hrow : ∀ r, some (w.heap.size + 1) = some r → w.heap.size ≤ r ∧ r < w.heap.size + 2 + m := fun r e => by cases e; omega
    refine wpIn_mono (hbody _ pre x _ (hI _ _ _ _ hi (hput A _) hrow) (hP _ _ _ hp (hput A _)) hlen) ?_
    rintro e a3 C hC
    cases e with
    | normal =>
      obtain ⟨hk, hlk, hi3⟩ := hC
      have hl3 := hlk.trans hl2
      have hd3 := (hk.same w.heap.size (by omega) (by omega) (by omega)).trans hd2
      have he := run_endRound (P := P) none hl3
      rw [hrec] at he
      have hl4 : (C.putObj (w.heap.size + 1) (.loop (rec .ready))).heap[w.heap.size + 1]? = some (.loop (rec .ready)) := World.putObj_heap_same (Array.getElem?_eq_some_iff.1 hl3).1
      rw [hrec] at hl4
      refine ⟨_, _, he, rfl, ⟨hI _ _ _ _ hi3 (hput C _) hrow, ?_, (World.putObj_heap_other (by omega)).trans hd3⟩, ((Kept.put _ _ _ _ _).trans hk).trans (Kept.put _ _ _ _ _)⟩
      rw [hrec]
      exact hl4
    | ret => exact hC.elim
    | exit id => exact hC.elim
    | goto t => exact hC.elim
    | panic ch => exact hC.elim
    | outgrown => exact hC.elim
  · rintro e A ⟨⟨v, rfl⟩, hi, hl, hd⟩
    have he := run_endLoop (P := P) hl (by rw [hrec]; simp)
    rw [hrec] at he
    exact ⟨none, _, he, hdone _ (hI _ _ _ _ hi (grownBy_putObj' A _ _) (fun r e => by cases e; omega)) ((World.putObj_heap_other (by omega)).trans hd)⟩

end Go.Proofs.Ytacnngbjcchamaa
