/- The walk of the exact law on MostWords. -/
import Derived.Test.YtebjhdipdffkgaaWMost
import Derived.Test.YtebjhdipdffkgaaWordL1
namespace Go.Proofs.Ytebjhdipdffkgaa
open Go Go.RowKit
open M (nth)

theorem FnExactMostWords_w (w : World) (a : Int) (_ha : (Lit.int .i64 a).wf = true) (b : Int) (_hb : (Lit.int .i64 b).wf = true) :
    Calls Try.prog 3 #[.int .i64 a, .int .i64 b] w fun e w' => e = .returned (.bool true) ∧ Grown w w' := by
  go_enter Try.func3, Try.ntmps3
  go_wp2_with fail
  refine (sMostWords_c a b _).mono ?_
  rintro e w1 ⟨rfl, hq⟩
  go_wp2_with fail
  refine (iMostWords_c a b _).mono ?_
  rintro e w2 ⟨rfl, hq2⟩
  go_wp2_with fail
  go_ret
  exact ⟨rfl, grown_quiet (hq.trans hq2)⟩

end Go.Proofs.Ytebjhdipdffkgaa
