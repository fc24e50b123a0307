/- Contracts of the program's allRows and AllHats. No condition. -/
import Derived.Test.YtacnngbjcchamaaHIter2
import Derived.Test.YtacnngbjcchamaaShelf
namespace Go.Proofs.Ytacnngbjcchamaa
open Go Go.RowKit Go.Shelf
open M (nth)

attribute [local go_sem] Oper.semAt_some

theorem CloneH_c (b : Nat) (A : Option Addr) (n c : Nat) (xs : List Int) (w : World) (h : OwnI w b A n c xs) (hn : n ≤ 1048576) :
    Calls Try.prog 65 #[.slice A n c] w fun e w' => ∃ (A' : Option Addr) (c' : Nat), e = .returned (.slice A' n c') ∧ OwnI w' w.heap.size A' n c' xs ∧ Below w.heap.size w w' := by
  rcases h.2.2 with ⟨e, rfl⟩ | ⟨g, cap, cur, e, hb, hg, _⟩
  · injection e with h1 _ h3
    subst h1 h3
    obtain rfl : xs = [] := List.eq_nil_of_length_eq_zero h.1
    refine (Try.slices_Clone_int_nil 0 0 w).mono ?_
    rintro e w' ⟨rfl, rfl⟩
    exact ⟨_, _, rfl, ⟨rfl, World.ownsRow_nil _ _ _ _⟩, Below.refl _ _⟩
  · injection e with h1 _ _
    subst h1
    refine (Try.slices_Clone_int g 0 n c xs w (by rw [h.1]; exact Nat.le_refl _) (by omega) (fun j hj => ?_)).mono ?_
    · rw [Nat.zero_add, h.cell (k := j) (by rw [h.1] at hj; exact hj), M.nth_lt hj]
      simp [List.getD, hj]
    · rintro e w' ⟨v', rfl, ho, hne, hb⟩
      rw [List.take_of_length_le (by rw [h.1]; exact Nat.le_refl _)] at ho
      rcases ho.2 with ⟨rfl, _⟩ | ⟨g', cap, cur, rfl, _⟩
      · exact absurd rfl hne
      · exact ⟨_, _, rfl, ⟨h.1, ho⟩, hb⟩

theorem stepIn_append_own {F : Fence} {n : Nat} {P : Program} {w : World} {ops : Array Oper} {o : Oper} {a : Act} {K : Act → World → Prop} {Q : Exit → Act → World → Prop} {E : Prop}
    (hg : o.guard = none) (s x : Operand) (t : TypeId) (hop : o.op = Op.call { callee := Callee.builtin Builtin.append, args := #[s, x], argTypes := #[t, t] })
    (base : Nat) (e : TypeId) (i : TypeInfo) (z : Value) (size bytes : Nat) (h1 : P.underlying t = some (.slice e)) (h2 : P.info? e = some i) (h3 : i.zero = some z) (h4 : i.size = size) (h5 : i.bytes = bytes) (h6 : z.cells.size = size) (h7 : 0 < size)
    (v : Value) (k : Nat) (xs : List Value) (hs : a.eval s = v) (hown : w.ownsRow base e size v k xs) (ad : Addr) (m c : Nat) (news : List Value) (hx : a.eval x = .slice (some ad) m c) (hn : news.length = m * size)
    (hc : ∀ j u, news[j]? = some u → w.cell? (ad.add j) = some u) (h1c : ∀ u ∈ news, u.oneCell' = true) (b1 : k + m ≤ maxLen) (b2 : (k + m) * bytes ≤ 140737488355328) (b3 : base ≤ w.heap.size)
    (hK : ∀ v' w', w'.ownsRow base e size v' (k + m) (xs ++ news) → w.grownBy w' v.ownBlock → K (a.put o.dst v') w') :
    if Region.wanted o (yielded ops a.tmps) = true then Oper.wpIn F n P o a w K Q else E := by
  rw [if_pos (by simp [Region.wanted, hg])]
  obtain ⟨v', w', hrun, r1, r2, -⟩ := run_append_own (P := P) w base t o.type e i z size bytes h1 h2 h3 h4 h5 h6 h7 v k xs hown ad m c news hn hc h1c b1 b2 b3
  refine ⟨by simp [Oper.about, hop, resolve, Target.leads, Sem.run_pure], ?_⟩
  rw [Oper.semAt_plain F _ _ (by rw [hop]; intro c hc'; cases hc')]
  simp [execOp, hop, resolve, invoke, builtin, hs, hx, hrun, Result.andThen, Oper.uponIn]
  exact hK _ _ r1 r2

theorem rows_c (Mm C : Int) (w : World) : Calls Try.prog 64 #[.int .i64 Mm, .int .i64 C] w fun e w' => e = .returned (.func (.func 67) #[] #[.pointer (some ⟨w.heap.size, 0, none⟩), .pointer (some ⟨w.heap.size + 1, 0, none⟩)]) ∧
    w' = (w.alloc (.cells #[.int .i64 Mm] 3)).alloc (.cells #[.int .i64 C] 3) := by
  go_enter Try.func64, Try.ntmps64
  go_wp2
  go_ret
  exact ⟨rfl, rfl⟩

/-- What the caller's loop keeps. -/
def Coll (w0 : World) (Bo N : Nat) (pre : List (List Int)) (W : World) : Prop :=
  (∃ A n c, Boxed W Bo 35 (.slice A n c) ∧ OwnR W (N + 6) A n c pre) ∧ Below w0.heap.size w0 W

theorem coll_end {w w2 W W3 w5 : World} {v : Value} {o : Obj} {g n c : Nat} {xss : List (List Int)} (hb : Below W.heap.size W W3) (hg : (W3.alloc o).grownBy w5 v.ownBlock) (hlow : ∀ r, some r = v.ownBlock → w2.heap.size + 6 ≤ r) (h2 : w.heap.size < w2.heap.size) (h3 : w.heap.size ≤ W.heap.size) (hs : w2.heap.size + 6 ≤ W.heap.size)
    (hbx : Boxed w5 w.heap.size 35 v) (hO : OwnR w5 (w2.heap.size + 6) (some ⟨g, 0, none⟩) n c xss) (hB : Below w.heap.size w W) :
    Kept w.heap.size w2.heap.size 4 W (w5.setCell ⟨w.heap.size, 0, none⟩ (.slice (some ⟨g, 0, none⟩) n c)) ∧ (w5.setCell ⟨w.heap.size, 0, none⟩ (.slice (some ⟨g, 0, none⟩) n c)).heap[w2.heap.size + 1]? = W.heap[w2.heap.size + 1]? ∧ Coll w w.heap.size w2.heap.size xss (w5.setCell ⟨w.heap.size, 0, none⟩ (.slice (some ⟨g, 0, none⟩) n c)) := by
  have hz : W.heap.size ≤ W3.heap.size := hb.size
  have hz5 : (W3.alloc o).heap.size ≤ w5.heap.size := hg.size
  have hz5' : W3.heap.size + 1 ≤ w5.heap.size := by simpa using hz5
  have hsame : ∀ k, k < w2.heap.size + 6 → k ≠ w.heap.size → (w5.setCell ⟨w.heap.size, 0, none⟩ (.slice (some ⟨g, 0, none⟩) n c)).heap[k]? = W.heap[k]? := fun k h1 h2 => by
    rw [Below.heap_setCell _ _ _ _ h2, hg.block k (by simp; omega) (fun e => by have := hlow k e; omega), Below.heap_alloc _ _ _ (by omega)]
    exact hb.block k (show k < W.heap.size by omega)
  refine ⟨⟨by simp [World.setCell]; omega, fun k h1 h2 _ => hsame k (by omega) h2⟩, hsame _ (by omega) (by omega), ⟨_, _, _, hbx.set _, hO.keptLow (grownBy_setCell' _ _ _) (fun r e => by cases e; omega)⟩, ?_⟩
  refine hB.trans ((((hb.mono h3).alloc (by omega) o).grown hg (by simp; omega) (fun r e => by have := hlow r e.symm; omega)).setCell (p := ⟨w.heap.size, 0, none⟩) (Nat.le_refl _) _)

set_option maxRecDepth 100000 in
set_option maxHeartbeats 2000000 in
theorem allRows_in (Mm C : Nat) (hMm : Mm ≤ 5) (hC : C ≤ 5) (w : World) (k : Nat) : CallsIn Fence.wide k Try.prog 59 #[.int .i64 Mm, .int .i64 C] w (RetR w (M.rowsL C Mm)) := by
  have hdd : ∀ k : Nat, (Fence.wide.depth.isSome = true → 1 ≤ k) := fun k h => by cases h
  refine callsIn_of_wp_marks Try.func59 rfl trivial ?_ rfl
  simp only [Try.ntmps59, List.size_toArray, List.length_cons, List.length_nil, Nat.reduceAdd, Nat.reduceSub, Array.replicate_succ, Array.replicate_zero, List.push_toArray, List.append_toArray, List.nil_append, List.cons_append]
  gi_wp2
  refine ⟨trivial, hdd _, (callsIn_wide.2 (rows_c _ _ _)).mono ?_⟩
  rintro e w2 ⟨rfl, hw2⟩
  gi_wp2
  obtain ⟨w2, hw⟩ : ∃ w2, w2 = ((w.alloc (.cells #[.slice none 0 0] 35)).alloc (.cells #[.int .i64 Mm] 3)).alloc (.cells #[.int .i64 C] 3) := ⟨_, rfl⟩
  have hb2 : Below w.heap.size w w2 := by rw [hw]; exact (((Below.refl _ w).alloc (Nat.le_refl _) _).alloc (by simp) _).alloc (by simp; omega) _
  have sz2 : w2.heap.size = w.heap.size + 3 := by rw [hw]; simp
  have cm : w2.cell? ⟨w.heap.size + 1, 0, none⟩ = some (.int .i64 Mm) := by
    rw [hw, World.cell?_alloc_lt _ _ _ (by simp), World.cell?_alloc_at _ _ _ _ (by simp)]; rfl
  have cl : w2.cell? ⟨w.heap.size + 1 + 1, 0, none⟩ = some (.int .i64 C) := by
    rw [hw, World.cell?_alloc_at _ _ _ _ (by simp)]; rfl
  have bx : Boxed w2 w.heap.size 35 (.slice none 0 0) := by rw [hw]; exact ((Boxed.new w _ _).alloc _).alloc _
  rw [← hw]
  have Sz := Lib.hid sz2
  clear hw sz2
  have hgoes := rows1_goes w2 w.heap.size (w.heap.size + 1) (w.heap.size + 1 + 1) C Mm (by have := Sz.out; omega) (by have := Sz.out; omega) (by have := Sz.out; omega) (by omega) (by omega) hMm hC cm cl
  obtain ⟨i1, hj, hy0, hy1, hy2⟩ := info_parts Try.infoRow
  refine wpIn_goes (gf := 67) (lb := #[.pointer (some ⟨w.heap.size + 1, 0, none⟩), .pointer (some ⟨w.heap.size + 1 + 1, 0, none⟩)]) rfl (enters_of Try.func67 (by kernel_rfl) rfl) (fun _ => rfl) hgoes (by have := Sz.out; omega)
    (Coll w w.heap.size w2.heap.size) ?hI ?hP ⟨⟨none, 0, 0, bx, ownR_nil _ _⟩, hb2⟩
    (fun _ => { tmps := #[.int .i64 Mm, .int .i64 C, undef, undef, .slice none 0 0, .pointer (some ⟨w.heap.size, 0, none⟩), .slice (some ⟨w2.heap.size + 3, 0, none⟩) Mm Mm, .int .i64 Mm, .int .i64 C, .func (.func 67) #[] #[.pointer (some ⟨w.heap.size + 1, 0, none⟩), .pointer (some ⟨w.heap.size + 1 + 1, 0, none⟩)], .slice (some ⟨w2.heap.size + 3, 0, none⟩) Mm Mm, undef, undef, undef, undef, undef, undef], defers := [] }) ?assign ?body ?done k
  case hI =>
    rintro s A B row ⟨⟨A1, n1, c1, hbx, hO⟩, hB⟩ hg hr
    exact ⟨⟨A1, n1, c1, hbx.kept hg (fun e => by have := hr _ e.symm; have := Sz.out; omega), hO.keptLow hg (fun r e => by have := hr r e; omega)⟩, hB.grown hg hB.size (fun r e => by have := hr r e; have := Sz.out; omega)⟩
  case hP =>
    rintro x A B ⟨hO, hs⟩ hg
    exact ⟨hO.kept hg (.inr (by simp [Value.ownBlock])), Nat.le_trans hs hg.size⟩
  case assign =>
    intro n x A K hK
    gi_wp2
    exact hK
  case body =>
    rintro n pre x W ⟨⟨A1, n1, c1, hbx, hO⟩, hB⟩ ⟨hx, hs⟩ hlen
    gi_wp2
    refine wpIn_region_any (by kernel_rfl) ?_
    change wpAnyIn _ _ _ _ _ _ _ _ _ W.drew
    have hcx := hbx.cell
    have hn1 : n1 ≤ 46656 := by
      have h1 := hO.len
      rw [M.len_rowsL, ← M.powN_eq] at hlen
      have h2 := M.powN_le (c := C) (by omega) Mm (by omega)
      omega
    refine wpAnyIn_ready (rs := [0, 1]) (by kernel_rfl) (by decide) (AllReadyIn.cons rfl (fun K hK => ?_) (AllReadyIn.cons rfl (fun K hK => ?_) AllReadyIn.nil))
    · go_simp
      refine hK _ _ ?_
      clear hK K
      refine wpAnyIn_ready (rs := [1]) (by kernel_rfl) (by decide) (AllReadyIn.cons rfl (fun K hK => ?_) AllReadyIn.nil)
      · go_simp
        refine hK _ _ ?_
        clear hK K
        refine wpAnyIn_ready (rs := [2]) (by kernel_rfl) (by decide) (AllReadyIn.cons rfl (fun K hK => ?_) AllReadyIn.nil)
        · go_simp
          refine ⟨trivial, hdd _, (CallsIn.inRound _ (callsIn_wide.2 (CloneH_c _ _ Mm Mm x _ (hx.drew) (by omega)))).mono ?_⟩
          rintro e W3 ⟨A', c', rfl, ho3, hb0⟩
          have hb3 : Below W.heap.size W W3 := ⟨hb0.os, hb0.tape, hb0.output, hb0.size, hb0.block⟩
          have hcx := (hb3.cell (p := ⟨w.heap.size, 0, none⟩) hbx.lt).trans hbx.cell
          have hlt3 : w.heap.size < W3.heap.size := Nat.lt_of_lt_of_le hbx.lt hb3.size
          clear hb0
          refine hK _ _ ?_
          clear hK K
          refine wpAnyIn_ready (rs := [3]) (by kernel_rfl) (by decide) (AllReadyIn.cons rfl (fun K hK => ?_) AllReadyIn.nil)
          · go_simp
            refine hK _ _ ?_
            clear hK K
            refine wpAnyIn_ready (rs := [4]) (by kernel_rfl) (by decide) (AllReadyIn.cons rfl (fun K hK => ?_) AllReadyIn.nil)
            obtain ⟨vs, hl1, hr1, hR1⟩ := hO
            have hr2 := hr1.kept (grown_of_below hb3) (own_free _)
            have hz3 : W.heap.size ≤ W3.heap.size := hb3.size
            refine stepIn_append_own rfl _ _ 35 rfl (w2.heap.size + 6) 22 i1 (.slice none 0 0) 1 24 Try.underlying35 hj hy0 hy1 hy2 rfl (by decide) _ _ _ rfl (hr2.alloc _) ⟨_, 0, none⟩ 1 1 [.slice A' Mm c'] rfl rfl (cell_one_new _ _ _) (by simp [Value.oneCell']) (by unfold maxLen; omega) (by omega) (by simp; omega) ?_
            intro v' w5 hown5 hgrow5
            obtain ⟨g', c2, rfl, hO5⟩ := OwnR.appended (w0 := W) hl1 hr2 hR1 hb3 ho3 (by omega) hown5 hgrow5
            have hlow := rows_block hr1
            refine hK _ _ ?_
            clear hK K
            have hbx3 : Boxed W3 w.heap.size 35 (.slice A1 n1 c1) := (hb3.block _ hbx.lt).trans hbx
            have hbx5 := (hbx3.alloc (.cells #[.slice A' Mm c'] 22)).kept hgrow5 (fun e => by have := hlow _ e.symm; have := Sz.out; omega)
            have hc5 := hbx5.cell
            have hf5 := hbx5.frozen
            refine wpAnyIn_ready (rs := [5]) (by kernel_rfl) (by decide) (AllReadyIn.cons rfl (fun K hK => ?_) AllReadyIn.nil)
            go_simp
            refine hK _ _ ?_
            clear hK K
            refine wpAnyIn_done (by kernel_rfl) ?_ _
            exact coll_end (v := .slice A1 n1 c1) hb3 hgrow5 (fun r e => hlow r e.symm) (by have := Sz.out; omega) (by have := Sz.out; omega) hs hbx5 hO5 hB
    · go_simp
      refine hK _ _ ?_
      clear hK K
      refine wpAnyIn_ready (rs := [0, 2]) (by kernel_rfl) (by decide) (AllReadyIn.cons rfl (fun K hK => ?_) (AllReadyIn.cons rfl (fun K hK => ?_) AllReadyIn.nil))
      · go_simp
        refine hK _ _ ?_
        clear hK K
        refine wpAnyIn_ready (rs := [2]) (by kernel_rfl) (by decide) (AllReadyIn.cons rfl (fun K hK => ?_) AllReadyIn.nil)
        · go_simp
          refine ⟨trivial, hdd _, (CallsIn.inRound _ (callsIn_wide.2 (CloneH_c _ _ Mm Mm x _ (hx.drew) (by omega)))).mono ?_⟩
          rintro e W3 ⟨A', c', rfl, ho3, hb0⟩
          have hb3 : Below W.heap.size W W3 := ⟨hb0.os, hb0.tape, hb0.output, hb0.size, hb0.block⟩
          have hcx := (hb3.cell (p := ⟨w.heap.size, 0, none⟩) hbx.lt).trans hbx.cell
          have hlt3 : w.heap.size < W3.heap.size := Nat.lt_of_lt_of_le hbx.lt hb3.size
          clear hb0
          refine hK _ _ ?_
          clear hK K
          refine wpAnyIn_ready (rs := [3]) (by kernel_rfl) (by decide) (AllReadyIn.cons rfl (fun K hK => ?_) AllReadyIn.nil)
          · go_simp
            refine hK _ _ ?_
            clear hK K
            refine wpAnyIn_ready (rs := [4]) (by kernel_rfl) (by decide) (AllReadyIn.cons rfl (fun K hK => ?_) AllReadyIn.nil)
            obtain ⟨vs, hl1, hr1, hR1⟩ := hO
            have hr2 := hr1.kept (grown_of_below hb3) (own_free _)
            have hz3 : W.heap.size ≤ W3.heap.size := hb3.size
            refine stepIn_append_own rfl _ _ 35 rfl (w2.heap.size + 6) 22 i1 (.slice none 0 0) 1 24 Try.underlying35 hj hy0 hy1 hy2 rfl (by decide) _ _ _ rfl (hr2.alloc _) ⟨_, 0, none⟩ 1 1 [.slice A' Mm c'] rfl rfl (cell_one_new _ _ _) (by simp [Value.oneCell']) (by unfold maxLen; omega) (by omega) (by simp; omega) ?_
            intro v' w5 hown5 hgrow5
            obtain ⟨g', c2, rfl, hO5⟩ := OwnR.appended (w0 := W) hl1 hr2 hR1 hb3 ho3 (by omega) hown5 hgrow5
            have hlow := rows_block hr1
            refine hK _ _ ?_
            clear hK K
            have hbx3 : Boxed W3 w.heap.size 35 (.slice A1 n1 c1) := (hb3.block _ hbx.lt).trans hbx
            have hbx5 := (hbx3.alloc (.cells #[.slice A' Mm c'] 22)).kept hgrow5 (fun e => by have := hlow _ e.symm; have := Sz.out; omega)
            have hc5 := hbx5.cell
            have hf5 := hbx5.frozen
            refine wpAnyIn_ready (rs := [5]) (by kernel_rfl) (by decide) (AllReadyIn.cons rfl (fun K hK => ?_) AllReadyIn.nil)
            go_simp
            refine hK _ _ ?_
            clear hK K
            refine wpAnyIn_done (by kernel_rfl) ?_ _
            exact coll_end (v := .slice A1 n1 c1) hb3 hgrow5 (fun r e => hlow r e.symm) (by have := Sz.out; omega) (by have := Sz.out; omega) hs hbx5 hO5 hB
      · go_simp
        refine ⟨trivial, hdd _, (CallsIn.inRound _ (callsIn_wide.2 (CloneH_c _ _ Mm Mm x _ (hx.drew) (by omega)))).mono ?_⟩
        rintro e W3 ⟨A', c', rfl, ho3, hb0⟩
        have hb3 : Below W.heap.size W W3 := ⟨hb0.os, hb0.tape, hb0.output, hb0.size, hb0.block⟩
        have hcx := (hb3.cell (p := ⟨w.heap.size, 0, none⟩) hbx.lt).trans hbx.cell
        have hlt3 : w.heap.size < W3.heap.size := Nat.lt_of_lt_of_le hbx.lt hb3.size
        clear hb0
        refine hK _ _ ?_
        clear hK K
        refine wpAnyIn_ready (rs := [0, 3]) (by kernel_rfl) (by decide) (AllReadyIn.cons rfl (fun K hK => ?_) (AllReadyIn.cons rfl (fun K hK => ?_) AllReadyIn.nil))
        · go_simp
          refine hK _ _ ?_
          clear hK K
          refine wpAnyIn_ready (rs := [3]) (by kernel_rfl) (by decide) (AllReadyIn.cons rfl (fun K hK => ?_) AllReadyIn.nil)
          · go_simp
            refine hK _ _ ?_
            clear hK K
            refine wpAnyIn_ready (rs := [4]) (by kernel_rfl) (by decide) (AllReadyIn.cons rfl (fun K hK => ?_) AllReadyIn.nil)
            obtain ⟨vs, hl1, hr1, hR1⟩ := hO
            have hr2 := hr1.kept (grown_of_below hb3) (own_free _)
            have hz3 : W.heap.size ≤ W3.heap.size := hb3.size
            refine stepIn_append_own rfl _ _ 35 rfl (w2.heap.size + 6) 22 i1 (.slice none 0 0) 1 24 Try.underlying35 hj hy0 hy1 hy2 rfl (by decide) _ _ _ rfl (hr2.alloc _) ⟨_, 0, none⟩ 1 1 [.slice A' Mm c'] rfl rfl (cell_one_new _ _ _) (by simp [Value.oneCell']) (by unfold maxLen; omega) (by omega) (by simp; omega) ?_
            intro v' w5 hown5 hgrow5
            obtain ⟨g', c2, rfl, hO5⟩ := OwnR.appended (w0 := W) hl1 hr2 hR1 hb3 ho3 (by omega) hown5 hgrow5
            have hlow := rows_block hr1
            refine hK _ _ ?_
            clear hK K
            have hbx3 : Boxed W3 w.heap.size 35 (.slice A1 n1 c1) := (hb3.block _ hbx.lt).trans hbx
            have hbx5 := (hbx3.alloc (.cells #[.slice A' Mm c'] 22)).kept hgrow5 (fun e => by have := hlow _ e.symm; have := Sz.out; omega)
            have hc5 := hbx5.cell
            have hf5 := hbx5.frozen
            refine wpAnyIn_ready (rs := [5]) (by kernel_rfl) (by decide) (AllReadyIn.cons rfl (fun K hK => ?_) AllReadyIn.nil)
            go_simp
            refine hK _ _ ?_
            clear hK K
            refine wpAnyIn_done (by kernel_rfl) ?_ _
            exact coll_end (v := .slice A1 n1 c1) hb3 hgrow5 (fun r e => hlow r e.symm) (by have := Sz.out; omega) (by have := Sz.out; omega) hs hbx5 hO5 hB
        · go_simp
          refine hK _ _ ?_
          clear hK K
          refine wpAnyIn_ready (rs := [0]) (by kernel_rfl) (by decide) (AllReadyIn.cons rfl (fun K hK => ?_) AllReadyIn.nil)
          · go_simp
            refine hK _ _ ?_
            clear hK K
            refine wpAnyIn_ready (rs := [4]) (by kernel_rfl) (by decide) (AllReadyIn.cons rfl (fun K hK => ?_) AllReadyIn.nil)
            obtain ⟨vs, hl1, hr1, hR1⟩ := hO
            have hr2 := hr1.kept (grown_of_below hb3) (own_free _)
            have hz3 : W.heap.size ≤ W3.heap.size := hb3.size
            refine stepIn_append_own rfl _ _ 35 rfl (w2.heap.size + 6) 22 i1 (.slice none 0 0) 1 24 Try.underlying35 hj hy0 hy1 hy2 rfl (by decide) _ _ _ rfl (hr2.alloc _) ⟨_, 0, none⟩ 1 1 [.slice A' Mm c'] rfl rfl (cell_one_new _ _ _) (by simp [Value.oneCell']) (by unfold maxLen; omega) (by omega) (by simp; omega) ?_
            intro v' w5 hown5 hgrow5
            obtain ⟨g', c2, rfl, hO5⟩ := OwnR.appended (w0 := W) hl1 hr2 hR1 hb3 ho3 (by omega) hown5 hgrow5
            have hlow := rows_block hr1
            refine hK _ _ ?_
            clear hK K
            have hbx3 : Boxed W3 w.heap.size 35 (.slice A1 n1 c1) := (hb3.block _ hbx.lt).trans hbx
            have hbx5 := (hbx3.alloc (.cells #[.slice A' Mm c'] 22)).kept hgrow5 (fun e => by have := hlow _ e.symm; have := Sz.out; omega)
            have hc5 := hbx5.cell
            have hf5 := hbx5.frozen
            refine wpAnyIn_ready (rs := [5]) (by kernel_rfl) (by decide) (AllReadyIn.cons rfl (fun K hK => ?_) AllReadyIn.nil)
            go_simp
            refine hK _ _ ?_
            clear hK K
            refine wpAnyIn_done (by kernel_rfl) ?_ _
            exact coll_end (v := .slice A1 n1 c1) hb3 hgrow5 (fun r e => hlow r e.symm) (by have := Sz.out; omega) (by have := Sz.out; omega) hs hbx5 hO5 hB
  case done =>
    rintro A ⟨⟨A1, n1, c1, hbx, hO⟩, hB⟩ hD
    have hc := hbx.cell
    gi_wp2
    refine ⟨by simp, .inl ⟨_, _, rfl, run_takeDeferred hD, ?_⟩⟩
    refine ⟨_, results_tmp rfl _ _ _, A1, n1, c1, rfl, (hO.keptLow (grownBy_putObj' A _ _) (fun r e => by cases e; omega)).mono (by have := Sz.out; omega), ?_⟩
    exact hB.grown (grownBy_putObj' A _ _) hB.size (fun r e => by cases e; have := Sz.out; omega)

theorem allRows_c (Mm C : Nat) (hMm : Mm ≤ 5) (hC : C ≤ 5) (w : World) : Calls Try.prog 59 #[.int .i64 Mm, .int .i64 C] w (RetR w (M.rowsL C Mm)) :=
  (callsIn_wide (n := 3)).1 (allRows_in Mm C hMm hC w 3)

set_option maxHeartbeats 1000000 in
theorem iAllHats_c (p c : Int) (w : World) : Calls Try.prog 40 #[.int .i64 p, .int .i64 c] w (RetR w (M.waysL p c)) := by
  cases hp : M.inB p 1 5 with
  | false =>
    have Hg := Lib.hid (M.ways_no (p := p) (c := c) (by simp [M.waysOk, hp]))
    go_enter Try.func40, Try.ntmps40
    go_wp2_with fail
    refine (in_c _ _ _ _).mono ?_
    rintro e w' ⟨rfl, rfl⟩
    go_wp2
    go_ret
    exact ⟨none, 0, 0, rfl, by rw [Hg.out]; exact ownR_nil _ _, Below.refl _ _⟩
  | true =>
    cases hc : M.inB c 1 5 with
    | false =>
      have Hg := Lib.hid (M.ways_no (p := p) (c := c) (by simp [M.waysOk, hc]))
      go_enter Try.func40, Try.ntmps40
      go_wp2_with fail
      refine (in_c _ _ _ _).mono ?_
      rintro e w' ⟨rfl, rfl⟩
      go_wp2_with fail
      refine (in_c _ _ _ _).mono ?_
      rintro e w' ⟨rfl, rfl⟩
      go_wp2
      go_ret
      exact ⟨none, 0, 0, rfl, by rw [Hg.out]; exact ownR_nil _ _, Below.refl _ _⟩
    | true =>
      have hp' := M.inB_true.1 hp
      have hc' := M.inB_true.1 hc
      obtain ⟨P, rfl⟩ := Int.eq_ofNat_of_zero_le (show 0 ≤ p by omega)
      obtain ⟨C, rfl⟩ := Int.eq_ofNat_of_zero_le (show 0 ≤ c by omega)
      have hle := fun k (hk : k ≤ 6) => M.powN_le (c := C) (by omega) k hk
      have Hle := Lib.hid hle
      clear hle
      go_enter Try.func40, Try.ntmps40
      go_wp2_with fail
      refine (in_c _ _ _ _).mono ?_
      rintro e w' ⟨rfl, rfl⟩
      go_wp2_with fail
      refine (in_c _ _ _ _).mono ?_
      rintro e w' ⟨rfl, rfl⟩
      go_wp2_with fail
      go_loop [5, 15] (fun s i => ∃ k : Nat, k ≤ P ∧ i = .int .i64 k ∧ s = .int .i64 (M.powN C k : Nat)) (fun _ i => P - (intOf i).toNat)
      case atStart => exact ⟨0, Nat.zero_le _, rfl, rfl⟩
      case round =>
        obtain ⟨k, hk, rfl, rfl⟩ := hrel
        have h1 := Hle.out k (by omega)
        by_cases hlt : k < P
        · have h2 := Hle.out (k + 1) (by omega)
          have Hs := Lib.hid (show ((M.powN C (k + 1) : Nat) : Int) = ((M.powN C k : Nat) : Int) * (C : Int) by simp [M.powN])
          have Hw := Lib.hid (show wrap64 (((M.powN C k : Nat) : Int) * (C : Int)) = ((M.powN C k : Nat) : Int) * (C : Int) by rw [← Hs.out, wrap64]; omega)
          go_wp2
          go_round
          case rel => exact ⟨k + 1, by omega, by go_num, by rw [Hs.out, Hw.out]⟩
          case measure => simp [intOf]; omega
        · obtain rfl : k = P := by omega
          obtain ⟨T, hT⟩ : ∃ T, T = M.powN C k := ⟨_, rfl⟩
          rw [← hT] at h1 ⊢
          by_cases hbig : 1000 < T
          · have Hg := Lib.hid (M.ways_no (p := (k : Int)) (c := (C : Int)) (by
              have : ¬ M.powN C k ≤ 1000 := by omega
              simp [M.waysOk, this]))
            clear hT
            go_wp2
            go_ret
            exact ⟨none, 0, 0, rfl, by rw [Hg.out]; exact ownR_nil _ _, Below.refl _ _⟩
          · have hok : M.waysOk (k : Int) (C : Int) = true := by
              have : M.powN C k ≤ 1000 := by omega
              simp [M.waysOk, this, hp, hc]
            have Hg := Lib.hid (M.ways_ok hok)
            clear hok hT
            go_wp2_with fail
            refine (allRows_c k C (by omega) (by omega) _).mono ?_
            rintro e w1 ⟨A, n, c', rfl, hO, hb⟩
            go_wp2
            go_ret
            refine ⟨A, n, c', rfl, ?_, hb⟩
            rw [Hg.out]
            simp only [Int.toNat_natCast]
            exact hO

end Go.Proofs.Ytacnngbjcchamaa
