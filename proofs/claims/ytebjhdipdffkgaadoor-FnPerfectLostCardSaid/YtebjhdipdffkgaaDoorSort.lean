/- Contracts of slices.Values, slices.AppendSeq, slices.Collect and slices.Sorted at ints. Condition: at most 2 to the 20 numbers. -/
import Derived.Test.YtebjhdipdffkgaaDoorMem
import Derived.Test.YtebjhdipdffkgaaDoorShelf
import Derived.Sort.OwnSortedInts
import Derived.RangeFuncBox
import Derived.RangeFuncLeaves
import Derived.Shelf.Abstract
import Derived.OwnWalkIn
import Derived.TacticsInMore
import Derived.LoopNIn
import Derived.LoopIn
import Derived.Maps.AppendAt
namespace Go.Proofs.YtebjhdipdffkgaaDoor
open Go Go.RowKit Go.Shelf
open M (nth)

attribute [local go_sem] Oper.semAt_some

theorem take_pre (xs : List Int) (k : Nat) : xs.take k <+: xs := List.take_prefix _ _

set_option maxRecDepth 100000 in
set_option maxHeartbeats 2000000 in
theorem Values1_in (n : Nat) (hn : 1 ≤ n) (W0 : World) (A : Option Addr) (m c : Nat) (xs : List Int) (hR : RdI W0 A m xs) (l Bs : Nat) (J Jx : List Int → World → Prop)
    (hY : ∀ pre x W, J pre W → pre.length < xs.length → YieldAt Fence.wide (n - 1) Tryd.prog l #[.int .i64 x] W fun e W' =>
      (e = .returned (.bool true) ∧ J (pre ++ [x]) W' ∧ Below W0.heap.size W W') ∨ (e = .returned (.bool false) ∧ Jx (pre ++ [x]) W'))
    (W : World) (hBs : W.cell? ⟨Bs, 0, none⟩ = some (.slice A m c)) (hb0 : Below W0.heap.size W0 W) (h0 : J [] W) :
    CallsIn Fence.wide n Tryd.prog 51 #[.func (.yield l) #[] #[], .pointer (some ⟨Bs, 0, none⟩)] W fun e W' => (∃ v, e = .returned v) ∧
      ((∃ ys, ys = xs ∧ J ys W') ∨ (∃ pre, pre <+: xs ∧ Jx pre W')) := by
  have hbig := hR.big
  have hlen := hR.len
  refine callsIn_of_wp Tryd.func51 rfl trivial ?_ rfl
  simp only [Tryd.ntmps51, List.size_toArray, List.length_cons, List.length_nil, Nat.reduceAdd, Nat.reduceSub, Array.replicate_succ, Array.replicate_zero, List.push_toArray, List.append_toArray, List.nil_append, List.cons_append]
  gi_wp2
  gi_loopw [7] (fun i wr => ∃ k : Nat, k ≤ m ∧ i = .int .i64 k ∧ J (xs.take k) wr ∧ Below W0.heap.size W0 wr) (fun i _ => m - (intOf i).toNat)
  case atStart => exact ⟨0, Nat.zero_le _, rfl, by simpa using h0, hb0⟩
  case round =>
    obtain ⟨k, hk, rfl, hJs, hbx⟩ := hrel
    by_cases hlt : k < m
    · obtain ⟨ad, rfl, _, hcell⟩ := (hR.below hbx).at_ hlt
      obtain ⟨fn, tmps, assign, body, hy, hR2⟩ := hY _ (nth xs k) wr hJs (by simp; omega)
      gi_wp2
      refine hR2.mono ?_
      rintro e W3 (⟨rfl, hJ3, hk3⟩ | ⟨rfl, hJx3⟩)
      · gi_wp2
        go_roundw
        case rel => exact ⟨k + 1, by omega, by simp, by rw [M.take_succ xs k (by omega)]; exact hJ3, hbx.trans hk3⟩
        case measure => simp [intOf]; omega
      · gi_wp2
        refine bodyPost_ret (results_none rfl _ _ _) rfl ?_
        exact ⟨⟨_, rfl⟩, .inr ⟨_, by rw [← M.take_succ xs k (by omega)]; exact take_pre _ _, hJx3⟩⟩
    · obtain rfl : k = m := by omega
      gi_wp2
      go_end0
      exact ⟨⟨_, rfl⟩, .inl ⟨_, by rw [List.take_of_length_le (by omega)], hJs⟩⟩

theorem Values_stops (n : Nat) (hn : 1 ≤ n) (W0 : World) (A : Option Addr) (m c : Nat) (xs : List Int) (hR : RdI W0 A m xs) (Bs : Nat) (w : World) (hBs : Bs < w.heap.size) (hb0 : Below W0.heap.size W0 w)
    (hc : w.cell? ⟨Bs, 0, none⟩ = some (.slice A m c)) :
    SeqStopsK Fence.wide n Tryd.prog 51 #[.pointer (some ⟨Bs, 0, none⟩)] (fun x : Int => #[Value.int .i64 x]) (Below W0.heap.size) (fun ys => ys = xs) (fun pre => pre <+: xs) xs.length w := fun l J Jx W hW _ _ hY h0 =>
  Values1_in n hn W0 A m c xs hR l Bs J Jx hY W ((hW.cell (p := ⟨Bs, 0, none⟩) hBs).trans hc) (hb0.trans (hW.mono hb0.size)) h0

set_option maxHeartbeats 1000000 in
theorem Values_c (A : Option Addr) (m c : Nat) (w : World) :
    Calls Tryd.prog 38 #[.slice A m c] w fun e w' => e = .returned (.func (.func 51) #[] #[.pointer (some ⟨w.heap.size, 0, none⟩)]) ∧ w' = w.alloc (.cells #[.slice A m c] 22) := by
  go_enter Tryd.func38, Tryd.ntmps38
  go_wp2
  go_ret
  exact ⟨rfl, rfl⟩

set_option maxRecDepth 100000 in
set_option maxHeartbeats 2000000 in
theorem AppendSeq_in (n : Nat) (hn : 3 ≤ n) (W0 : World) (A : Option Addr) (m c : Nat) (xs : List Int) (hR : RdI W0 A m xs) (hm : m ≤ 1048576) (Bs : Nat) (w : World) (hBs : Bs < w.heap.size) (hb0 : Below W0.heap.size W0 w)
    (hc : w.cell? ⟨Bs, 0, none⟩ = some (.slice A m c)) :
    CallsIn Fence.wide n Tryd.prog 58 #[.slice none 0 0, .func (.func 51) #[] #[.pointer (some ⟨Bs, 0, none⟩)]] w fun e W' =>
      ∃ v, e = .returned v ∧ W'.ownsRow w.heap.size 3 1 v xs.length (xs.map (Value.int .i64)) ∧ Below w.heap.size w W' := by
  have h1 : 1 ≤ n := by omega
  have hlen := hR.len
  obtain ⟨i0, hi, hz0, hz1, hz2⟩ := info_parts Tryd.infoInt
  refine callsIn_of_wp_marks Tryd.func58 rfl trivial ?_ rfl
  simp only [Tryd.ntmps58, List.size_toArray, List.length_cons, List.length_nil, Nat.reduceAdd, Nat.reduceSub, Array.replicate_succ, Array.replicate_zero, List.push_toArray, List.append_toArray, List.nil_append, List.cons_append]
  gi_wp2
  have bO := Boxed.new w 22 (.slice none 0 0)
  have hB0 : Below w.heap.size w (w.alloc (.cells #[.slice none 0 0] 22)) := (Below.refl _ w).alloc (Nat.le_refl _) _
  have hW0 : W0.heap.size ≤ w.heap.size := hb0.size
  refine wpIn_rangeFunc_ownG rfl h1 (gf := 51) (lb := #[.pointer (some ⟨Bs, 0, none⟩)]) rfl trivial (enters_of Tryd.func51 (by kernel_rfl) rfl)
    (Values_stops (n - 1) (by omega) W0 A m c xs hR Bs (w.alloc (.cells #[.slice none 0 0] 22)) (by simp; omega) (hb0.trans (hB0.mono hW0)) ((hB0.cell (p := ⟨Bs, 0, none⟩) hBs).trans hc)) belowK_t (belowK_b (by simp; omega)) (Below.refl _ _) (fun _ => rfl)
    (fun pre W => (∃ v, Boxed W w.heap.size 22 v ∧ W.ownsRow w.heap.size 3 1 v pre.length (pre.map (Value.int .i64)) ∧ (v = .slice none 0 0 ↔ pre = [])) ∧ Below w.heap.size w W)
    (fun _ _ _ => False)
    (OwnFrom.and (Own.from (holdsRow_own w.heap.size w.heap.size 22 3 1 (fun pre : List Int => pre.length) (fun pre => pre.map (Value.int .i64)) (fun pre v => v = .slice none 0 0 ↔ pre = [])) _) (ownFrom_below (Nat.le_refl _) (by simp)))
    (fun _ _ _ _ _ hs _ _ => hs)
    ⟨⟨_, bO, World.ownsRow_nil _ _ _ _, by simp⟩, hB0⟩
    (fun x => { tmps := #[.slice none 0 0, .func (.func 51) #[] #[.pointer (some ⟨Bs, 0, none⟩)], .pointer (some ⟨w.heap.size, 0, none⟩), undef, .slice none 0 0, .int .i64 x, .func (.func 51) #[] #[.pointer (some ⟨Bs, 0, none⟩)], .int .i64 x, undef, undef, undef, undef, undef], defers := [] }) ?assign ?body ?done ?stop
  case assign =>
    intro l x W K hK
    gi_wp2
    exact hK
  case body =>
    rintro l pre x W ⟨⟨v, hv, hrow, hnil⟩, hB⟩ hlt
    have hc := hv.cell
    gi_wp2_with (gi_at_builtin; refine wpListIn_append_own _ rfl _ _ 22 rfl w.heap.size 3 i0 (.int .i64 0) 1 8 Tryd.underlying22 hi hz0 hz1 hz2 rfl (by decide) _ _ _ rfl (hrow.alloc _) ⟨W.heap.size, 0, none⟩ 1 1 [.int .i64 x] rfl rfl (cell_one_new _ _ _) (by simp [Value.oneCell']) (by unfold maxLen; omega) (by omega) (by have := hB.size; simp; omega) ?_; intro v' w1 hown' hgrow _; obtain ⟨g', cap', rfl⟩ := ownsRow_succ hown'; obtain ⟨hv1, hv2, hr2, hk2, hb2⟩ := hv.appended (by decide) hrow hB.size (Nat.le_refl _) hown' hgrow; have hc1 := hv1.cell; have hf1 := hv1.frozen)
    exact ⟨hk2.from _, hb2.mono hW0, ⟨_, hv2, by simpa using hr2, by simp⟩, hB.trans hb2⟩
  case done =>
    rintro D ys W hD rfl ⟨⟨v, hv, hrow, hnil⟩, hB⟩ hK
    have hc := hv.cell
    gi_wp2
    refine ⟨by simp, .inl ⟨_, _, rfl, run_takeDeferred hK, ?_⟩⟩
    exact ⟨_, results_tmp rfl _ _ _, v, rfl, ownsRow_putObj hrow _ hK rfl, hB.trans (belowK_b (w := w) (Nat.le_refl _) W D _ _ (by simp at hD; omega) hK rfl rfl)⟩
  case stop =>
    rintro D c pre W _ _ h _
    exact h.elim

set_option maxHeartbeats 1000000 in
theorem Collect_c (W0 : World) (A : Option Addr) (m c : Nat) (xs : List Int) (hR : RdI W0 A m xs) (hm : m ≤ 1048576) (Bs : Nat) (w : World) (hBs : Bs < w.heap.size) (hb0 : Below W0.heap.size W0 w)
    (hc : w.cell? ⟨Bs, 0, none⟩ = some (.slice A m c)) :
    Calls Tryd.prog 49 #[.func (.func 51) #[] #[.pointer (some ⟨Bs, 0, none⟩)]] w fun e W' =>
      ∃ v, e = .returned v ∧ W'.ownsRow w.heap.size 3 1 v xs.length (xs.map (Value.int .i64)) ∧ Below w.heap.size w W' := by
  have hA := (callsIn_wide (n := 3)).1 (AppendSeq_in 3 (by omega) W0 A m c xs hR hm Bs w hBs hb0 hc)
  go_enter Tryd.func49, Tryd.ntmps49
  go_wp2_with fail
  refine hA.mono ?_
  rintro e w1 ⟨v, rfl, hown, hb⟩
  go_wp2
  go_ret
  exact ⟨v, rfl, hown, hb⟩

theorem OwnI_of {w : World} {b : Nat} {v : Value} {xs : List Int} (h : w.ownsRow b 3 1 v xs.length (xs.map (Value.int .i64))) : ∃ A c, v = .slice A xs.length c ∧ OwnI w b A xs.length c xs := OwnI.appendedL rfl h

set_option maxHeartbeats 1000000 in
theorem Sorted_c (W0 : World) (A : Option Addr) (m c : Nat) (xs : List Int) (hR : RdI W0 A m xs) (hm : m ≤ 1048576) (Bs : Nat) (w : World) (hBs : Bs < w.heap.size) (hb0 : Below W0.heap.size W0 w)
    (hc : w.cell? ⟨Bs, 0, none⟩ = some (.slice A m c)) :
    Calls Tryd.prog 37 #[.func (.func 51) #[] #[.pointer (some ⟨Bs, 0, none⟩)]] w fun e W' =>
      ∃ A' c', e = .returned (.slice A' m c') ∧ OwnI W' w.heap.size A' m c' (xs.mergeSort fun x y => decide (x ≤ y)) ∧ Below w.heap.size w W' := by
  have hl := hR.len
  subst hl
  go_enter Tryd.func37, Tryd.ntmps37
  go_wp2_with fail
  refine (Collect_c W0 A _ c xs hR hm Bs w hBs hb0 hc).mono ?_
  rintro e w1 ⟨v, rfl, hown, hb⟩
  rcases hown.2 with ⟨rfl, hz⟩ | ⟨gb, cap, cur, rfl, hbase, hgb, r1, r2, r3, r4⟩
  · have hxs : xs = [] := List.eq_nil_of_length_eq_zero hz
    subst hxs
    go_wp2_with fail
    refine (Tryd.slices_Sort_int_none none 0 w1).mono ?_
    rintro e w2 ⟨rfl, rfl⟩
    go_wp2
    go_ret
    exact ⟨_, _, rfl, ⟨by simp, by simpa using hown⟩, hb⟩
  · have hH : Sort.Holds (Value.int .i64) w1 gb 0 xs.toArray := holds_of_blockI hgb (by simpa using r4)
    have hgl : gb < w1.heap.size := (Array.getElem?_eq_some_iff.1 hgb).1
    go_wp2_with fail
    refine (Tryd.slices_Sort_int gb 0 cap xs w1 hH hgl (by omega)).mono ?_
    rintro e w2 ⟨rfl, nn, os, rfl⟩
    go_wp2
    go_ret
    exact ⟨_, _, rfl, ⟨by simp, by have := ownsRow_sortedI (ts := xs.mergeSort fun x y => decide (x ≤ y)) (os := os) (n := nn) (by simp) hbase hgb r1 r2 r3; simpa using this⟩, hb.grown (grownBy_sortedI _) hb.size (fun j hj => by cases hj; exact hbase)⟩

end Go.Proofs.YtebjhdipdffkgaaDoor
