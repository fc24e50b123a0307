/- Contracts on lists of sayings: copies, comparisons, SayingsOk of the program and of the reference. No condition. -/
import Derived.Test.YtbhpponandmgnaaKText2
import Derived.Deep.RegionHeld3
import Derived.Deep.SlicePairs
import Derived.Laws.EntriesVeiled
namespace Go.Proofs.Ytbhpponandmgnaa
open Go Go.RowKit
open M (nth)

/-- The k-th saying. -/
def nthS (l : List (Int × ByteArray)) (k : Nat) : Int × ByteArray := l[k]?.getD (0, ⟨#[]⟩)
/-- The slice of address A and length n reads as the sayings ss. -/
structure RdS (w : World) (A : Option Addr) (n : Nat) (ss : List (Int × ByteArray)) : Prop where
  len : ss.length = n
  big : n ≤ 9223372036854775807
  small : ∀ k, k < n → (nthS ss k).2.size ≤ 9223372036854775807
  cells : 0 < n → ∃ ad, A = some ad ∧ ad.block < w.heap.size ∧ ∀ k, k < n → w.cell? (ad.add (k * 2)) = some (.int .i64 (nthS ss k).1) ∧ w.cell? (ad.add (k * 2 + 1)) = some (.string (nthS ss k).2)
theorem RdS.below {w w' : World} {A : Option Addr} {n : Nat} {ss : List (Int × ByteArray)} (h : RdS w A n ss) (hb : Below w.heap.size w w') : RdS w' A n ss :=
  ⟨h.len, h.big, h.small, fun hn => by
    obtain ⟨ad, e, hlt, hc⟩ := h.cells hn
    exact ⟨ad, e, Nat.lt_of_lt_of_le hlt hb.size, fun k hk => ⟨(hb.cell (by rw [block_of_add]; exact hlt)).trans (hc k hk).1, (hb.cell (by rw [block_of_add]; exact hlt)).trans (hc k hk).2⟩⟩⟩
theorem RdS.at_ {w : World} {A : Option Addr} {n k : Nat} {ss : List (Int × ByteArray)} (h : RdS w A n ss) (hk : k < n) :
    ∃ ad, A = some ad ∧ ad.block < w.heap.size ∧ w.cell? (ad.add (k * 2)) = some (.int .i64 (nthS ss k).1) ∧ w.cell? ⟨(ad.add (k * 2)).block, (ad.add (k * 2)).off + 1, none⟩ = some (.string (nthS ss k).2) := by
  obtain ⟨ad, e, hlt, hc⟩ := h.cells (by omega)
  exact ⟨ad, e, hlt, (hc k hk).1, by have := (hc k hk).2; rw [← Go.Deep.add_add, Addr.add_succ' _ 0] at this; exact this⟩

set_option maxHeartbeats 400000 in
theorem szSaying_c (b : Int) (t : ByteArray) (l : Int) (w : World) (h0 : 0 ≤ l) (h1 : l ≤ 1048576) (ht : t.size ≤ 9223372036854775807) :
    Calls Try.prog 28 #[.agg #[.int .i64 b, .string t], .int .i64 l] w fun e w' => (∃ r : Int, e = .returned (.int .i64 r) ∧ r ≤ l ∧ -1 ≤ r) ∧ Below w.heap.size w w' := by
  have hb : Below w.heap.size w (w.alloc (.cells #[.int .i64 b, .string t] 51)) := (Below.refl _ _).alloc (Nat.le_refl _) _
  have t1 : IntKind.i64.wrap (l - (t.size : Int)) = l - (t.size : Int) := by rw [IntKind.wrap_i64]; omega
  by_cases hn : l - (t.size : Int) < 0
  · go_enter Try.func28, Try.ntmps28
    go_wp2
    go_ret
    exact ⟨⟨-1, rfl, by omega, by omega⟩, hb⟩
  · go_enter Try.func28, Try.ntmps28
    go_wp2
    go_ret
    exact ⟨⟨_, rfl, by omega, by omega⟩, hb⟩

set_option maxHeartbeats 400000 in
theorem toSaying_c (b : Int) (t : ByteArray) (w : World) :
    Calls Try.prog 29 #[.agg #[.int .i64 b, .string t]] w fun e w' => e = .returned (.agg #[.int .i64 b, .string t]) ∧ Below w.heap.size w w' := by
  have hb : Below w.heap.size w (((w.alloc (.cells #[.int .i64 b, .string t] 51)).alloc (.cells #[.int .i64 b, .string t] 52)).alloc (.cells #[.int .i64 b, .string t] 52)) := (((Below.refl _ _).alloc (Nat.le_refl _) _).alloc (by simp) _).alloc (by simp; omega) _
  have e0 : (((w.alloc (.cells #[.int .i64 b, .string t] 51)).alloc (.cells #[.int .i64 b, .string t] 52)).alloc (.cells #[.int .i64 b, .string t] 52)).cell? ⟨w.heap.size + 1, 0, none⟩ = some (.int .i64 b) := by
    rw [World.cell?_alloc_past _ _ _ (by simp), World.cell?_alloc_at _ _ _ _ (by simp)]; rfl
  have e1 : (((w.alloc (.cells #[.int .i64 b, .string t] 51)).alloc (.cells #[.int .i64 b, .string t] 52)).alloc (.cells #[.int .i64 b, .string t] 52)).cell? ⟨w.heap.size + 1, 1, none⟩ = some (.string t) := by
    rw [World.cell?_alloc_past _ _ _ (by simp), World.cell?_alloc_at _ _ _ _ (by simp)]; rfl
  go_enter Try.func29, Try.ntmps29
  go_wp2
  generalize (((w.alloc (.cells #[.int .i64 b, .string t] 51)).alloc (.cells #[.int .i64 b, .string t] 52)).alloc (.cells #[.int .i64 b, .string t] 52)) = w1 at *
  refine bodyPost_ret (v := .agg #[.int .i64 b, .string t]) (by simp [results, Try.results29, go_sem, e0, e1, Result.andThen]) rfl ?_
  exact ⟨rfl, hb⟩

set_option maxHeartbeats 400000 in
theorem eqSaying_c (b : Int) (t : ByteArray) (w : World) :
    Calls Try.prog 33 #[.agg #[.int .i64 b, .string t], .agg #[.int .i64 b, .string t]] w fun e w' => e = .returned (.bool true) ∧ Below w.heap.size w w' := by
  have hb : Below w.heap.size w ((w.alloc (.cells #[.int .i64 b, .string t] 52)).alloc (.cells #[.int .i64 b, .string t] 52)) := ((Below.refl _ _).alloc (Nat.le_refl _) _).alloc (by simp) _
  go_enter Try.func33, Try.ntmps33
  go_wp2
  go_ret
  exact ⟨rfl, hb⟩

theorem Try.infoSay : (Try.prog.info? 52).map (fun i => (i.zero, i.size, i.bytes)) = some (some (.agg #[.int .i64 0, .string ⟨#[]⟩]), 2, 24) := by kernel_rfl
/-- The cells of n empty sayings. -/
def zer2 (n : Nat) : Array Value := madeCells #[.int .i64 0, .string ⟨#[]⟩] (n * 2)
theorem mk2_run (n : Nat) (hn : n ≤ 1048576) (W : World) : (Instr.makeSlice 34 (.int .i64 (n : Int)) (.int .i64 (n : Int))).run Try.prog W = .ok (.slice (some ⟨W.heap.size, 0, none⟩) n n) (W.alloc (.cells (zer2 n) 52)) := by
  obtain ⟨i0, hi, hz0, hz1, hz2⟩ := info_parts Try.infoSay
  have hr := run_make (P := Try.prog) W 34 52 i0 _ Try.underlying34 hi hz0 .i64 .i64 n n (by omega) (Int.le_refl _) (by rw [hz2]; omega) (by omega)
  simp only [Int.toNat_natCast, hz1] at hr
  exact hr
/-- The first k sayings are copied into block g. -/
structure Filled (W : World) (g n : Nat) (ss : List (Int × ByteArray)) (k : Nat) : Prop where
  lt : g < W.heap.size
  done : ∀ j, j < k → W.cell? ⟨g, j * 2, none⟩ = some (.int .i64 (nthS ss j).1) ∧ W.cell? ⟨g, j * 2 + 1, none⟩ = some (.string (nthS ss j).2)
  there : ∀ j, j < n → ∃ u v, W.cell? ⟨g, j * 2, none⟩ = some u ∧ W.cell? ⟨g, j * 2 + 1, none⟩ = some v
  free : ∀ j, W.frozen? ⟨g, j, none⟩ = false
theorem Filled.below {W W' : World} {g n k : Nat} {ss : List (Int × ByteArray)} (h : Filled W g n ss k) (hb : Below W.heap.size W W') : Filled W' g n ss k :=
  ⟨Nat.lt_of_lt_of_le h.lt hb.size, fun j hj => ⟨(hb.cell (p := ⟨g, _, none⟩) h.lt).trans (h.done j hj).1, (hb.cell (p := ⟨g, _, none⟩) h.lt).trans (h.done j hj).2⟩,
    fun j hj => by obtain ⟨u, v, e1, e2⟩ := h.there j hj; exact ⟨u, v, (hb.cell (p := ⟨g, _, none⟩) h.lt).trans e1, (hb.cell (p := ⟨g, _, none⟩) h.lt).trans e2⟩, fun j => (hb.frozen (p := ⟨g, j, none⟩) h.lt).trans (h.free j)⟩
theorem filled_made (w : World) (n : Nat) (ss : List (Int × ByteArray)) : Filled (w.alloc (.cells (zer2 n) 52)) w.heap.size n ss 0 := by
  have hc : ∀ j, j < n * 2 → ∃ u, (w.alloc (.cells (zer2 n) 52)).cell? ⟨w.heap.size, j, none⟩ = some u := fun j hj => by
    rw [World.cell?_alloc_at _ _ _ _ rfl]
    have : j < (zer2 n).size := by unfold zer2; rw [size_madeCells]; exact hj
    exact ⟨(zer2 n)[j], by simp [this]⟩
  exact ⟨by simp, fun j hj => absurd hj (Nat.not_lt_zero _), fun j hj => by
    obtain ⟨u, hu⟩ := hc (j * 2) (by omega)
    obtain ⟨v, hv⟩ := hc (j * 2 + 1) (by omega)
    exact ⟨u, v, hu, hv⟩, fun j => World.frozen?_alloc_at _ _ _ _ rfl⟩
theorem Filled.step {W : World} {g n k : Nat} {ss : List (Int × ByteArray)} (h : Filled W g n ss k) (hk : k < n) :
    Filled ((W.setCell ⟨g, k * 2, none⟩ (.int .i64 (nthS ss k).1)).setCell ⟨g, k * 2 + 1, none⟩ (.string (nthS ss k).2)) g n ss (k + 1) := by
  obtain ⟨u, v, e1, e2⟩ := h.there k hk
  have o1 : ∀ j, j ≠ k → ((W.setCell ⟨g, k * 2, none⟩ (.int .i64 (nthS ss k).1)).setCell ⟨g, k * 2 + 1, none⟩ (.string (nthS ss k).2)).cell? ⟨g, j * 2, none⟩ = W.cell? ⟨g, j * 2, none⟩ ∧
      ((W.setCell ⟨g, k * 2, none⟩ (.int .i64 (nthS ss k).1)).setCell ⟨g, k * 2 + 1, none⟩ (.string (nthS ss k).2)).cell? ⟨g, j * 2 + 1, none⟩ = W.cell? ⟨g, j * 2 + 1, none⟩ := fun j hj => by
    constructor
    · rw [World.cell?_setCell_other _ _ _ _ (by simp <;> omega), World.cell?_setCell_other _ _ _ _ (by simp <;> omega)]
    · rw [World.cell?_setCell_other _ _ _ _ (by simp <;> omega), World.cell?_setCell_other _ _ _ _ (by simp <;> omega)]
  have k1 : ((W.setCell ⟨g, k * 2, none⟩ (.int .i64 (nthS ss k).1)).setCell ⟨g, k * 2 + 1, none⟩ (.string (nthS ss k).2)).cell? ⟨g, k * 2, none⟩ = some (.int .i64 (nthS ss k).1) := by
    rw [World.cell?_setCell_other _ _ _ _ (by simp), World.cell?_setCell_same _ _ _ e1]
  have k2 : ((W.setCell ⟨g, k * 2, none⟩ (.int .i64 (nthS ss k).1)).setCell ⟨g, k * 2 + 1, none⟩ (.string (nthS ss k).2)).cell? ⟨g, k * 2 + 1, none⟩ = some (.string (nthS ss k).2) := by
    rw [World.cell?_setCell_same _ _ _ ((World.cell?_setCell_other _ _ _ _ (by simp)).trans e2)]
  refine ⟨by have := h.lt; simpa using this, fun j hj => ?_, fun j hj => ?_, fun j => ?_⟩
  · by_cases e : j = k
    · subst e; exact ⟨k1, k2⟩
    · rw [(o1 j e).1, (o1 j e).2]; exact h.done j (by omega)
  · by_cases e : j = k
    · subst e; exact ⟨_, _, k1, k2⟩
    · rw [(o1 j e).1, (o1 j e).2]; exact h.there j hj
  · rw [World.frozen?_setCell, World.frozen?_setCell]; exact h.free j

set_option maxHeartbeats 1000000 in
theorem toSayingS_c (A : Option Addr) (n c : Nat) (ss : List (Int × ByteArray)) (w : World) (h : RdS w A n ss) (hn : n ≤ 1048576) :
    Calls Try.prog 17 #[.slice A n c] w fun e w' => e = .returned (.slice (some ⟨w.heap.size, 0, none⟩) n n) ∧ RdS w' (some ⟨w.heap.size, 0, none⟩) n ss ∧ Below w.heap.size w w' := by
  have hmk := mk2_run n hn
  have hb1 : Below w.heap.size w (w.alloc (.cells (zer2 n) 52)) := (Below.refl _ _).alloc (Nat.le_refl _) _
  have hF := filled_made w n ss
  go_enter Try.func17, Try.ntmps17
  go_wp2_with fail
  go_loopg [4] n (fun gk i wr => ∃ k : Nat, k + gk = n ∧ i = .int .i64 k ∧ Below w.heap.size w wr ∧ Filled wr w.heap.size n ss k)
  case atStart => exact ⟨0, by omega, rfl, hb1, hF⟩
  case round =>
    obtain ⟨k, hkg, rfl, hbr, hFr⟩ := hrel
    clear hb1 hF
    by_cases hlt : k < n
    · obtain ⟨g, rfl⟩ : ∃ g, gk = g + 1 := ⟨gk - 1, by omega⟩
      obtain ⟨ad, rfl, hadb, hc0, hc1⟩ := (h.below hbr).at_ hlt
      go_wp2_with fail
      refine (toSaying_c _ _ _).mono ?_
      rintro e w2 ⟨rfl, hb2⟩
      have hb3 := bt hbr hb2
      have hF2 := hFr.below hb2
      obtain ⟨u, v, hu, hv⟩ := hF2.there k hlt
      have hf0 := hF2.free (k * 2)
      have hf1 := hF2.free (k * 2 + 1)
      have hF3 := hF2.step hlt
      have hb4 := (hb3.setCell (p := ⟨w.heap.size, k * 2, none⟩) (Nat.le_refl _) (.int .i64 (nthS ss k).1)).setCell (p := ⟨w.heap.size, k * 2 + 1, none⟩) (Nat.le_refl _) (.string (nthS ss k).2)
      go_wp2
      go_roundg g
      case measure => omega
      case rel => exact ⟨k + 1, by omega, by go_num, hb4, hF3⟩
    · obtain rfl : k = n := by omega
      obtain rfl : gk = 0 := by omega
      go_wp2
      go_ret
      refine ⟨rfl, ⟨h.len, h.big, h.small, fun _ => ⟨_, rfl, hFr.lt, fun j hj => ?_⟩⟩, hbr⟩
      rw [add_zero_of, add_zero_of]
      exact hFr.done j hj

end Go.Proofs.Ytbhpponandmgnaa
