/- Contracts of slices.Clone, slices.Compact (its length) and slices.IsSorted at ints, of an owned row. -/
import Derived.Test.YtebjhdipdffkgaaDoorMem
import Derived.Test.YtebjhdipdffkgaaDoorShelf
import Derived.Sort.OwnSortedInts
namespace Go.Proofs.YtebjhdipdffkgaaDoor
open Go Go.RowKit
open M (nth)

/-- A copy; nil of nil. -/
theorem Clone_c (b : Nat) (A : Option Addr) (n c : Nat) (xs : List Int) (w : World) (h : OwnI w b A n c xs) (hn : n ≤ 1048576) :
    Calls Tryd.prog 61 #[.slice A n c] w fun e w' => ∃ (A' : Option Addr) (c' : Nat), e = .returned (.slice A' n c') ∧ OwnI w' w.heap.size A' n c' xs ∧ Below w.heap.size w w' := by
  rcases h.form with ⟨rfl, rfl, rfl, rfl⟩ | ⟨g, rfl, hg, hg'⟩
  · refine (Tryd.slices_Clone_int_nil 0 0 w).mono ?_
    rintro e w' ⟨rfl, rfl⟩
    exact ⟨_, _, rfl, ⟨rfl, World.ownsRow_nil _ _ _ _⟩, Below.refl _ _⟩
  · refine (Tryd.slices_Clone_int g 0 n c xs w (by rw [h.1]; exact Nat.le_refl _) (by omega) (fun j hj => ?_)).mono ?_
    · rw [Nat.zero_add, h.cell (k := j) (by rw [h.1] at hj; exact hj), M.nth_lt hj]
      simp [List.getD, hj]
    · rintro e w' ⟨v', rfl, ho, hne, hb⟩
      rw [List.take_of_length_le (by rw [h.1]; exact Nat.le_refl _)] at ho
      rcases ho.2 with ⟨rfl, _⟩ | ⟨g', cap, cur, rfl, _⟩
      · exact absurd rfl hne
      · exact ⟨_, _, rfl, ⟨h.1, ho⟩, hb⟩
theorem Holds_of {w : World} {b g n c : Nat} {xs : List Int} (h : OwnI w b (some ⟨g, 0, none⟩) n c xs) : Sort.Holds (Value.int .i64) w g 0 xs.toArray := by
  intro j hj
  rw [Nat.zero_add]
  have hj' : j < xs.length := by simpa using hj
  refine ⟨?_, h.free j⟩
  rw [h.cell (k := j) (by rw [h.1] at hj'; exact hj'), M.nth_lt hj']
  simp [hj']
theorem below_putRow {w : World} {B g q : Nat} {d : Array Int} (hg : B ≤ g) : Below B w (Sort.putRow (Value.int .i64) (Sort.ahead w q) g 0 d) :=
  ⟨rfl, rfl, rfl, by simp, fun k hk => by
    have : (Sort.putRow (Value.int .i64) (Sort.ahead w q) g 0 d).heap[k]? = (Sort.ahead w q).heap[k]? := by
      unfold Sort.putRow Sort.mapBlock
      rw [Array.getElem?_modify, if_neg (by omega)]
    rw [this]; rfl⟩
/-- The slice cut to as many as are kept; what is older than the row stays. -/
theorem Compact_c (b : Nat) (A : Option Addr) (n c : Nat) (xs : List Int) (w : World) (h : OwnI w b A n c xs) :
    Calls Tryd.prog 48 #[.slice A n c] w fun e w' => e = .returned (.slice A (M.klen xs) c) ∧ Below b w w' := by
  rcases h.form with ⟨rfl, rfl, rfl, rfl⟩ | ⟨g, rfl, hg, hg'⟩
  · refine (Tryd.slices_Compact_int_empty none 0 w).mono ?_
    rintro e w' ⟨rfl, rfl⟩
    exact ⟨rfl, Below.refl _ _⟩
  · have hl := h.1
    subst hl
    refine (Tryd.slices_Compact_int g 0 c xs w (Holds_of h) h.rd.big h.cap.1).mono ?_
    rintro e w' ⟨rfl, q, rfl⟩
    exact ⟨rfl, below_putRow hg⟩

end Go.Proofs.YtebjhdipdffkgaaDoor
