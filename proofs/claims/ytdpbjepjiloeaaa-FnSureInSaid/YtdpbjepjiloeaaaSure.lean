/- The walk of the program's search with a map. No condition. -/
import Derived.Test.YtdpbjepjiloeaaaOrc
import Derived.Test.YtdpbjepjiloeaaaAns
import Derived.Test.YtdpbjepjiloeaaaWinW
import Derived.Laws.IdiomCopy
import Derived.Laws.EntriesVeiled
namespace Go.Proofs.Ytdpbjepjiloeaaa
open Go Go.RowKit
open M (nth)

/-- What is asked of the search with q questions. -/
def SureAt (L q : Nat) : Prop := ∀ (w : World) (B : Nat) (A : Option Addr) (n c bR : Nat) (row : List Int), Orc w B L → OwnI w bR A n c row → M.knownB row = true → row.length = L →
    Calls Try.prog 51 #[.map (some B), .slice A n c, .int .i64 q] w fun e w' => e = .returned (.bool (M.win q row)) ∧ Orc w' B L ∧ w.grownBy w' (some B)

theorem sure_zero (L : Nat) : SureAt L 0 := by
  intro w B A n c bR row hO hr hk hL
  obtain ⟨hfit, hs0, hs10⟩ := M.known_sum2 hk
  have hb3 : Below w.heap.size w (((w.alloc (.cells #[.map (some B)] 52)).alloc (.cells #[.slice A n c] 23)).alloc (.cells #[.int .i64 (0 : Nat)] 3)) := (((Below.refl _ _).alloc (Nat.le_refl _) _).alloc (by simp) _).alloc (by simp; omega) _
  by_cases hs : M.sumL row ≤ 1
  · have hv := Lib.hid (M.win_few hs 0)
    go_enter Try.func51, Try.ntmps51
    go_wp2_with fail
    refine (total_c A n c row _ (hr.rd.below hb3) hfit).mono ?_
    rintro e w1 ⟨rfl, rfl⟩
    go_wp2
    go_ret
    exact ⟨by rw [hv.out]; rfl, hO.below hb3, grown_below hb3⟩
  · have hv := Lib.hid (M.win_zero hs)
    go_enter Try.func51, Try.ntmps51
    go_wp2_with fail
    refine (total_c A n c row _ (hr.rd.below hb3) hfit).mono ?_
    rintro e w1 ⟨rfl, rfl⟩
    go_wp2
    go_ret
    exact ⟨by rw [hv.out]; rfl, hO.below hb3, grown_below hb3⟩

end Go.Proofs.Ytdpbjepjiloeaaa
