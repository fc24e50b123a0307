/- Contracts of the program's AllHats. No condition. -/
import Derived.Test.YtacnngbjcchamaaHIter
import Derived.Laws.EntriesVeiled
import Derived.OrdersIn
namespace Go.Proofs.Ytacnngbjcchamaa
open Go Go.RowKit Go.Shelf
open M (nth)

attribute [local go_sem] Oper.semAt_some

theorem OwnR.keptLow {w w' : World} {b : Nat} {A : Option Addr} {n c : Nat} {xss : List (List Int)} {row : Option Nat} (h : OwnR w b A n c xss) (hg : w.grownBy w' row) (hr : ∀ r, row = some r → r < b) : OwnR w' b A n c xss := by
  obtain ⟨vs, h1, h2, h3⟩ := h
  have ne : ∀ v : Value, (∀ j, v.ownBlock = some j → b ≤ j) → v.ownBlock = none ∨ v.ownBlock ≠ row := fun v hv => by
    cases e : v.ownBlock with
    | none => exact .inl rfl
    | some j =>
      refine .inr fun e2 => ?_
      have := hv j e
      have := hr j e2.symm
      omega
  refine ⟨vs, h1, h2.kept hg (ne _ (rows_block h2)), h3.len, fun k v hv => ?_, h3.apart⟩
  obtain ⟨A', n', c', e, ho⟩ := h3.own k v hv
  refine ⟨A', n', c', e, ho.kept hg (ne _ fun j e2 => ?_)⟩
  cases A' with
  | none => cases e2
  | some ad => cases e2; exact ho.lt.1

/-- What holds where the iterator hands out the row x. -/
def RowOut (n Mm : Nat) (x : List Int) (A : World) : Prop := OwnI A (n + 3) (some ⟨n + 3, 0, none⟩) Mm Mm x ∧ n + 6 ≤ A.heap.size

theorem fill_start (W : World) (n l bm bl C Mm : Nat) (hsz : W.heap.size = n + 2) (hbm : bm < n) (hbl : bl < n) (hMm : Mm ≤ 5) (cm : W.cell? ⟨bm, 0, none⟩ = some (.int .i64 Mm)) (cl : W.cell? ⟨bl, 0, none⟩ = some (.int .i64 C)) (y f : Value) (ty tr tf : TypeId) (hy : y = .func (.yield l) #[] #[])
    (hf : f = .func (.func 68) #[] #[.pointer (some ⟨bm, 0, none⟩), .pointer (some ⟨n + 2, 0, none⟩), .pointer (some ⟨n + 4, 0, none⟩), .pointer (some ⟨bl, 0, none⟩), .pointer (some ⟨n + 5, 0, none⟩)]) :
    FillAt ((((W.alloc (.cells #[y] ty)).alloc (.cells (zer Mm) 3)).alloc (.cells #[.slice (some ⟨n + 3, 0, none⟩) Mm Mm] tr)).alloc (.cells #[f] tf)) n l bm bl C Mm [] := by
  subst hy hf
  have e3 : ((W.alloc (.cells #[.func (.yield l) #[] #[]] ty))).heap.size = n + 3 := by simp [hsz]
  have ho := ownI_zer (W.alloc (.cells #[.func (.yield l) #[] #[]] ty)) (n + 3) Mm (by omega) (by omega)
  rw [e3] at ho
  refine ⟨?_, ?_, ?_, ?_, ?_, ⟨_, (ho.alloc _).alloc _, rfl⟩, by simp; omega⟩
  · rw [World.cell?_alloc_lt _ _ _ (by simp; omega), World.cell?_alloc_lt _ _ _ (by simp; omega), World.cell?_alloc_lt _ _ _ (by simp; omega), World.cell?_alloc_lt _ _ _ (by simp; omega)]; exact cm
  · rw [World.cell?_alloc_lt _ _ _ (by simp; omega), World.cell?_alloc_lt _ _ _ (by simp; omega), World.cell?_alloc_lt _ _ _ (by simp; omega), World.cell?_alloc_lt _ _ _ (by simp; omega)]; exact cl
  · rw [World.cell?_alloc_lt _ _ _ (by simp; omega), World.cell?_alloc_lt _ _ _ (by simp; omega), World.cell?_alloc_lt _ _ _ (by simp; omega), World.cell?_alloc_at _ _ _ _ (by simp [hsz])]; rfl
  · rw [World.cell?_alloc_lt _ _ _ (by simp; omega), World.cell?_alloc_at _ _ _ _ (by simp [hsz])]; rfl
  · rw [World.cell?_alloc_at _ _ _ _ (by simp [hsz])]; rfl

set_option maxRecDepth 100000 in
set_option maxHeartbeats 2000000 in
theorem rows1_goes (w : World) (Bo bm bl C Mm : Nat) (hBo : Bo < w.heap.size) (hbm : bm < w.heap.size) (hbl : bl < w.heap.size) (hBm : bm ≠ Bo) (hBl : bl ≠ Bo) (hMm : Mm ≤ 5) (hC : C ≤ 5) (cm : w.cell? ⟨bm, 0, none⟩ = some (.int .i64 Mm)) (cl : w.cell? ⟨bl, 0, none⟩ = some (.int .i64 C)) :
    Goes Try.prog 67 #[.pointer (some ⟨bm, 0, none⟩), .pointer (some ⟨bl, 0, none⟩)] (fun _ : List Int => #[.slice (some ⟨w.heap.size + 3, 0, none⟩) Mm Mm]) (RowOut w.heap.size Mm) Bo 4 (M.rowsL C Mm) w := by
  intro W J hW hsz hJ hY h0 k
  have hdd : ∀ k : Nat, (Fence.wide.depth.isSome = true → 1 ≤ k) := fun k h => by cases h
  have cmW : W.cell? ⟨bm, 0, none⟩ = some (.int .i64 Mm) := (hW.cell (p := ⟨bm, 0, none⟩) hbm).trans cm
  have clW : W.cell? ⟨bl, 0, none⟩ = some (.int .i64 C) := (hW.cell (p := ⟨bl, 0, none⟩) hbl).trans cl
  have hf := fill_start W w.heap.size (w.heap.size + 1) bm bl C Mm hsz hbm hbl hMm cmW clW _ _ 58 22 51 rfl rfl
  have hJ1 := hJ _ _ _ none (hJ _ _ _ none (hJ _ _ _ none (hJ _ _ _ none h0 (World.grownBy_alloc W (.cells #[.func (.yield (w.heap.size + 1)) #[] #[]] 58) none) (fun r e => by cases e)) (World.grownBy_alloc _ (.cells (zer Mm) 3) none) (fun r e => by cases e))
    (World.grownBy_alloc _ (.cells #[.slice (some ⟨w.heap.size + 3, 0, none⟩) Mm Mm] 22) none) (fun r e => by cases e)) (World.grownBy_alloc _ (.cells #[.func (.func 68) #[] #[.pointer (some ⟨bm, 0, none⟩), .pointer (some ⟨w.heap.size + 2, 0, none⟩), .pointer (some ⟨w.heap.size + 4, 0, none⟩), .pointer (some ⟨bl, 0, none⟩), .pointer (some ⟨w.heap.size + 5, 0, none⟩)]] 51) none) (fun r e => by cases e)
  have hcall := fill_in w.heap.size Bo (w.heap.size + 1) bm bl C Mm (M.rowsL C Mm).length hbm hbl hBm hBl hBo hMm hC J hJ (fun pre x A hj hp hl n => hY pre x A hj hp hl n) Mm 0 [] [] _ (by omega) rfl hf hJ1 (by rw [M.len_rowsL]; simp)
  rw [List.nil_append, M.rowsF_nil, show w.heap.size + 5 = W.heap.size + 3 by omega, show w.heap.size + 4 = W.heap.size + 2 by omega, show w.heap.size + 3 = W.heap.size + 1 by omega, show w.heap.size + 2 = W.heap.size by omega] at hcall
  rw [show ((0 : Nat) : Int) = 0 from rfl] at hcall
  have Hc := Lib.hid hcall
  have hbmW : bm < W.heap.size := by omega
  have hblW : bl < W.heap.size := by omega
  have hmk := mk_run Mm (by omega)
  have Hsz := Lib.hid hsz
  clear hcall hf hJ1 hY hJ h0 hsz cm cl
  refine callsIn_of_wp Try.func67 rfl trivial ?_ rfl
  simp only [Try.ntmps67, List.size_toArray, List.length_cons, List.length_nil, Nat.reduceAdd, Nat.reduceSub, Array.replicate_succ, Array.replicate_zero, List.push_toArray, List.append_toArray, List.nil_append, List.cons_append]
  gi_wp2
  refine ⟨trivial, hdd _, (Hc.out _).mono ?_⟩
  rintro e B ⟨rfl, hJ3, hF3⟩
  gi_wp2
  go_end0
  exact ⟨⟨_, rfl⟩, hJ3⟩

end Go.Proofs.Ytacnngbjcchamaa
