/- Contracts of the program's rows, an iterator that calls itself. No condition. -/
import Derived.Test.YtacnngbjcchamaaHAll
import Derived.Test.YtacnngbjcchamaaHSeq
import Derived.Shelf.Abstract
import Derived.OwnWalkIn
import Derived.TacticsInMore
import Derived.LoopNIn
import Derived.LoopIn
namespace Go.Proofs.Ytacnngbjcchamaa
open Go Go.RowKit Go.Shelf
open M (nth)

attribute [local go_sem] Oper.semAt_some

/-- What the closure finds in memory: its captured variables, and the row so far. -/
structure FillAt (W : World) (n l bm bl C Mm : Nat) (pre : List Int) : Prop where
  cm : W.cell? ⟨bm, 0, none⟩ = some (.int .i64 Mm)
  cl : W.cell? ⟨bl, 0, none⟩ = some (.int .i64 C)
  cy : W.cell? ⟨n + 2, 0, none⟩ = some (.func (.yield l) #[] #[])
  cr : W.cell? ⟨n + 4, 0, none⟩ = some (.slice (some ⟨n + 3, 0, none⟩) Mm Mm)
  cf : W.cell? ⟨n + 5, 0, none⟩ = some (.func (.func 68) #[] #[.pointer (some ⟨bm, 0, none⟩), .pointer (some ⟨n + 2, 0, none⟩), .pointer (some ⟨n + 4, 0, none⟩), .pointer (some ⟨bl, 0, none⟩), .pointer (some ⟨n + 5, 0, none⟩)])
  row : ∃ xs, OwnI W (n + 3) (some ⟨n + 3, 0, none⟩) Mm Mm xs ∧ xs.take pre.length = pre
  size : n + 6 ≤ W.heap.size

theorem cell_same {A B : World} {p : Addr} (h : B.heap[p.block]? = A.heap[p.block]?) {v : Value} (hc : A.cell? p = some v) : B.cell? p = some v := (World.cell?_of_block h).trans hc
theorem OwnI.same {A B : World} {b g n c : Nat} {xs : List Int} (h : OwnI A b (some ⟨g, 0, none⟩) n c xs) (hs : B.heap[g]? = A.heap[g]?) : OwnI B b (some ⟨g, 0, none⟩) n c xs := by
  refine ⟨h.1, h.2.1, ?_⟩
  rcases h.2.2 with ⟨e, _⟩ | ⟨g', cap, cur, e, hb, hg, r⟩
  · cases e
  · injection e with e1 _ e3
    cases e1
    subst e3
    exact .inr ⟨g, c, cur, rfl, hb, hs.trans hg, r⟩
theorem FillAt.kept {A B : World} {n l bm bl C Mm Bo : Nat} {pre : List Int} (h : FillAt A n l bm bl C Mm pre) (hK : Kept Bo n 4 A B) (hbm : bm < n) (hbl : bl < n) (hBm : bm ≠ Bo) (hBl : bl ≠ Bo) (hBo : Bo < n) : FillAt B n l bm bl C Mm pre := by
  obtain ⟨xs, hx, ht⟩ := h.row
  exact ⟨cell_same (hK.same bm (by omega) hBm (by omega)) h.cm, cell_same (hK.same bl (by omega) hBl (by omega)) h.cl, cell_same (hK.same (n + 2) (by omega) (by omega) (by omega)) h.cy,
    cell_same (hK.same (n + 4) (by omega) (by omega) (by omega)) h.cr, cell_same (hK.same (n + 5) (by omega) (by omega) (by omega)) h.cf, ⟨xs, hx.same (hK.same (n + 3) (by omega) (by omega) (by omega)), ht⟩, Nat.le_trans h.size hK.size⟩
theorem FillAt.stored {A : World} {n l bm bl C Mm : Nat} {pre : List Int} (h : FillAt A n l bm bl C Mm pre) (hbm : bm < n) (hbl : bl < n) (hp : pre.length < Mm) (x : Int) :
    FillAt (A.setCell ⟨n + 3, pre.length, none⟩ (.int .i64 x)) n l bm bl C Mm (pre ++ [x]) := by
  obtain ⟨xs, hx, ht⟩ := h.row
  have ho : ∀ k, k ≠ n + 3 → (A.setCell ⟨n + 3, pre.length, none⟩ (.int .i64 x)).heap[k]? = A.heap[k]? := fun k hk => Below.heap_setCell _ _ _ _ hk
  refine ⟨cell_same (ho bm (by omega)) h.cm, cell_same (ho bl (by omega)) h.cl, cell_same (ho (n + 2) (by omega)) h.cy, cell_same (ho (n + 4) (by omega)) h.cr, cell_same (ho (n + 5) (by omega)) h.cf, ⟨_, (hx.stored pre.length x).1, ?_⟩, by simpa [World.setCell] using h.size⟩
  have hl : xs.length = Mm := hx.1
  rw [List.length_append, List.length_singleton, List.take_succ_eq_append_getElem (by simpa [hl] using hp)]
  rw [List.take_set_of_le (Nat.le_refl _), ht]
  simp
theorem FillAt.less {A : World} {n l bm bl C Mm : Nat} {pre : List Int} {x : Int} (h : FillAt A n l bm bl C Mm (pre ++ [x])) : FillAt A n l bm bl C Mm pre := by
  obtain ⟨xs, hx, ht⟩ := h.row
  refine ⟨h.cm, h.cl, h.cy, h.cr, h.cf, ⟨xs, hx, ?_⟩, h.size⟩
  have := congrArg (List.take pre.length) ht
  rw [List.take_take] at this
  simpa using this

set_option maxRecDepth 100000 in
set_option maxHeartbeats 2000000 in
theorem fill_in (n Bo l bm bl C Mm N : Nat) (hbm : bm < n) (hbl : bl < n) (hBm : bm ≠ Bo) (hBl : bl ≠ Bo) (hBo : Bo < n) (hMm : Mm ≤ 5) (hC : C ≤ 5) (J : List (List Int) → World → Prop)
    (hJ : ∀ s A B row, J s A → A.grownBy B row → (∀ r, row = some r → n + 2 ≤ r ∧ r < n + 2 + 4) → J s B)
    (hY : ∀ pre x A, J pre A → OwnI A (n + 3) (some ⟨n + 3, 0, none⟩) Mm Mm x ∧ n + 6 ≤ A.heap.size → pre.length < N → ∀ k, YieldAt Fence.wide k Try.prog l #[.slice (some ⟨n + 3, 0, none⟩) Mm Mm] A fun e B => e = .returned (.bool true) ∧ J (pre ++ [x]) B ∧ Kept Bo n 4 A B) :
    ∀ (d i : Nat) (pre : List Int) (done : List (List Int)) (W : World), i + d = Mm → pre.length = i → FillAt W n l bm bl C Mm pre → J done W → done.length + C ^ d ≤ N → ∀ k,
    CallsIn Fence.wide k Try.prog 68 #[.int .i64 i, .pointer (some ⟨bm, 0, none⟩), .pointer (some ⟨n + 2, 0, none⟩), .pointer (some ⟨n + 4, 0, none⟩), .pointer (some ⟨bl, 0, none⟩), .pointer (some ⟨n + 5, 0, none⟩)] W
      fun e B => e = .returned (.bool true) ∧ J (done ++ M.rowsF C d pre) B ∧ FillAt B n l bm bl C Mm pre := by
  have hdd : ∀ k : Nat, (Fence.wide.depth.isSome = true → 1 ≤ k) := fun k h => by cases h
  intro d
  induction d with
  | zero =>
    intro i pre done W hi hp hF hJd hN k
    obtain rfl : i = Mm := by omega
    obtain ⟨xs, hx, ht⟩ := hF.row
    obtain rfl : xs = pre := by rw [hp, ← hx.1, List.take_length] at ht; exact ht
    obtain ⟨fn, tmps, assign, body, hy, hR⟩ := hY done xs W hJd ⟨hx, hF.size⟩ (by rw [Nat.pow_zero] at hN; omega) (k - 1)
    have Hr := Lib.hid (M.rowsF_zero C xs)
    have HF := Lib.hid hF
    obtain ⟨cm, cl, cy, cr, cf, -, -⟩ := hF
    clear ht hp hY hJ hi hN
    have e1 : ((i : Int) == (i : Int)) = true := by simp
    refine callsIn_of_wp Try.func68 rfl trivial ?_ rfl
    simp only [Try.ntmps68, List.size_toArray, List.length_cons, List.length_nil, Nat.reduceAdd, Nat.reduceSub, Array.replicate_succ, Array.replicate_zero, List.push_toArray, List.append_toArray, List.nil_append, List.cons_append]
    gi_wp2_with ((try refine ⟨hdd _, ?_⟩); refine hR.mono ?_; clear hR; rintro e B ⟨rfl, hJ2, hK⟩)
    go_ret
    exact ⟨rfl, by rw [Hr.out]; exact hJ2, HF.out.kept hK hbm hbl hBm hBl hBo⟩
  | succ d ih =>
    intro i pre done W hi hp hF hJd hN k
    have Ih := Lib.hid ih
    have HF := Lib.hid hF
    have Hr := Lib.hid (M.rowsF_succ C d pre)
    have HN := Lib.hid hN
    clear hN
    have Hp := Lib.hid hp
    obtain ⟨cm, cl, cy, cr, cf, -, -⟩ := hF
    have e1 : ((i : Int) == (Mm : Int)) = false := by simp; omega
    clear hY hp ih
    have HJ := Lib.hid hJ
    clear hJ
    refine callsIn_of_wp Try.func68 rfl trivial ?_ rfl
    simp only [Try.ntmps68, List.size_toArray, List.length_cons, List.length_nil, Nat.reduceAdd, Nat.reduceSub, Array.replicate_succ, Array.replicate_zero, List.push_toArray, List.append_toArray, List.nil_append, List.cons_append]
    gi_wp2
    clear cm cl cy cr cf
    gi_loopw [16] (fun v wr => ∃ j : Nat, j ≤ C ∧ v = .int .i64 j ∧ J (done ++ M.rowsK C d pre j) wr ∧ FillAt wr n l bm bl C Mm pre) (fun v _ => C - (intOf v).toNat)
    case atStart => exact ⟨0, Nat.zero_le _, rfl, by rw [M.rowsK_zero, List.append_nil]; exact hJd, HF.out⟩
    case round =>
      obtain ⟨j, hj, rfl, hJr, hFr⟩ := hrel
      by_cases hlt : j < C
      · obtain ⟨xs, hx, ht⟩ := hFr.row
        have hco := hx.cell (k := i) (by omega)
        have hfo := hx.free i
        have hF2 := hFr.stored hbm hbl (by rw [Hp.out]; omega) (j : Int)
        rw [Hp.out] at hF2
        have hJ2 : J (done ++ M.rowsK C d pre j) (wr.setCell ⟨n + 3, i, none⟩ (.int .i64 (j : Int))) := HJ.out _ _ _ _ hJr (hx.stored i (j : Int)).2 (fun r e => by cases e; omega)
        have cr := hFr.cr
        have cf2 := hF2.cf
        have hih : ∀ k, CallsIn Fence.wide k Try.prog 68 #[.int .i64 ((i : Int) + 1), .pointer (some ⟨bm, 0, none⟩), .pointer (some ⟨n + 2, 0, none⟩), .pointer (some ⟨n + 4, 0, none⟩), .pointer (some ⟨bl, 0, none⟩), .pointer (some ⟨n + 5, 0, none⟩)] (wr.setCell ⟨n + 3, i, none⟩ (.int .i64 (j : Int)))
            fun e B => e = .returned (.bool true) ∧ J (done ++ M.rowsK C d pre (j + 1)) B ∧ FillAt B n l bm bl C Mm pre := fun k => by
          have := Ih.out (i + 1) (pre ++ [(j : Int)]) _ _ (by omega) (by simp [Hp.out]) hF2 hJ2 (by
            have h1 := HN.out
            have h2 : (j + 1) * C ^ d ≤ C * C ^ d := Nat.mul_le_mul_right _ hlt
            rw [Nat.pow_succ, Nat.mul_comm] at h1
            rw [List.length_append, M.len_rowsK]
            rw [Nat.succ_mul] at h2
            omega) k
          rw [List.append_assoc, ← M.rowsK_succ] at this
          refine this.mono ?_
          rintro e B ⟨rfl, h1, h2⟩
          exact ⟨rfl, h1, h2.less⟩
        have Hih := Lib.hid hih
        clear hih hF2 hJ2 ht hJr
        have Hx := Lib.hid hx
        clear hx
        have HFr := Lib.hid hFr
        clear hFr
        gi_wp2
        refine ⟨trivial, hdd _, (Hih.out _).mono ?_⟩
        rintro e B ⟨rfl, hJ3, hF3⟩
        clear Hih
        gi_wp2
        go_roundw
        case rel => exact ⟨j + 1, by omega, by go_num, hJ3, hF3⟩
        case measure => simp [intOf]; omega
      · obtain rfl : j = C := by omega
        gi_wp2
        go_ret
        exact ⟨rfl, by rw [Hr.out]; exact hJr, hFr⟩

end Go.Proofs.Ytacnngbjcchamaa
