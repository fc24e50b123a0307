/- The walk of the exact law on NeedsOf. -/
import Derived.Test.YtdeoigdnhcamjaaPNeed
import Derived.Test.YtdeoigdnhcamjaaPRef
namespace Go.Proofs.Ytdeoigdnhcamjaa
open Go Go.RowKit
open M (nth)

set_option maxHeartbeats 1000000 in
theorem FnExactNeedsOf_w (w : World) (A : Option Addr) (n c : Nat) (xs : List Int) (h : RdI w A n xs) (s : ByteArray) (hs : s.size ≤ maxLen) :
    Calls Try.prog 3 #[.slice A n c, .string s] w fun e w' => e = .returned (.bool true) ∧ Below w.heap.size w w' := by
  have hbig := h.big
  have hs2 : s.size ≤ 9223372036854775807 := by unfold maxLen at hs; omega
  clear hs
  by_cases hn : 1048576 < n
  · go_enter Try.func3, Try.ntmps3
    go_wp2
    go_ret
    exact ⟨rfl, Below.refl _ _⟩
  · by_cases hz : 1048576 < s.size
    · go_enter Try.func3, Try.ntmps3
      go_wp2
      go_ret
      exact ⟨rfl, Below.refl _ _⟩
    · go_enter Try.func3, Try.ntmps3
      go_wp2_with fail
      refine (toIntS_c A n c xs _ h (by omega)).mono ?_
      rintro e w1 ⟨A1, n1, c1, rfl, ho1, hb1⟩
      go_wp2_with fail
      refine (sNeedsOf_c A1 n1 c1 xs s _ ho1.rd hs2).mono ?_
      rintro e w' ⟨rfl, rfl⟩
      go_wp2_with fail
      refine (toIntS_c A n c xs _ (h.below hb1) (by omega)).mono ?_
      rintro e w3 ⟨A2, n2, c2, rfl, ho2, hb3⟩
      go_wp2_with fail
      refine (iNeedsOf_c A2 n2 c2 xs s _ ho2.rd).mono ?_
      rintro e w4 ⟨rfl, hb4⟩
      have b4 := bt hb1 (bt hb3 hb4)
      go_wp2_with fail
      refine (toIntS_c A n c xs _ (h.below b4) (by omega)).mono ?_
      rintro e w5 ⟨A4, n4, c4, rfl, ho4, hb5⟩
      go_wp2_with fail
      refine (eqIntS_c A2 A4 n2 c2 n4 c4 xs xs _ ((ho2.below hb4).below hb5).rd ho4.rd).mono ?_
      rintro e w6 ⟨rfl, hq6⟩
      have e5 := M.eqL_refl xs
      go_wp2_with fail
      go_ret
      exact ⟨rfl, bt b4 (bt hb5 (hq6.below _))⟩

end Go.Proofs.Ytdeoigdnhcamjaa
