/- Contracts of slices.Clone, slices.Compact (its length) and slices.IsSorted at ints, of an owned row. -/
import Derived.Test.YtdpbjepjiloeaaaMem
import Derived.Test.YtdpbjepjiloeaaaShelf
import Derived.Sort.OwnSortedInts
namespace Go.Proofs.Ytdpbjepjiloeaaa
open Go Go.RowKit
open M (nth)

/-- A copy; nil of nil. -/
theorem Clone_c (b : Nat) (A : Option Addr) (n c : Nat) (xs : List Int) (w : World) (h : OwnI w b A n c xs) (hn : n ≤ 1048576) :
    Calls Try.prog 57 #[.slice A n c] w fun e w' => ∃ (A' : Option Addr) (c' : Nat), e = .returned (.slice A' n c') ∧ OwnI w' w.heap.size A' n c' xs ∧ Below w.heap.size w w' := by
  rcases h.form with ⟨rfl, rfl, rfl, rfl⟩ | ⟨g, rfl, hg, hg'⟩
  · refine (Try.slices_Clone_int_nil 0 0 w).mono ?_
    rintro e w' ⟨rfl, rfl⟩
    exact ⟨_, _, rfl, ⟨rfl, World.ownsRow_nil _ _ _ _⟩, Below.refl _ _⟩
  · refine (Try.slices_Clone_int g 0 n c xs w (by rw [h.1]; exact Nat.le_refl _) (by omega) (fun j hj => ?_)).mono ?_
    · rw [Nat.zero_add, h.cell (k := j) (by rw [h.1] at hj; exact hj), M.nth_lt hj]
      simp [List.getD, hj]
    · rintro e w' ⟨v', rfl, ho, hne, hb⟩
      rw [List.take_of_length_le (by rw [h.1]; exact Nat.le_refl _)] at ho
      rcases ho.2 with ⟨rfl, _⟩ | ⟨g', cap, cur, rfl, _⟩
      · exact absurd rfl hne
      · exact ⟨_, _, rfl, ⟨h.1, ho⟩, hb⟩

end Go.Proofs.Ytdpbjepjiloeaaa
