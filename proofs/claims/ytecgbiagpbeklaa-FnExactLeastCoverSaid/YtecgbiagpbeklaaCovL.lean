/- The walk of the law on the least cover. -/
import Derived.Test.YtecgbiagpbeklaaCov3
namespace Go.Proofs.Ytecgbiagpbeklaa
open Go Go.RowKit
open M (nth)

set_option maxHeartbeats 400000 in
theorem FnExactLeastCover_w (w : World) (b : Int) (_hb : (Lit.int .i64 b).wf = true) :
    Calls Try.prog 13 #[.int .i64 b] w fun e w' => e = .returned (.bool true) ∧ Below w.heap.size w w' := by
  go_enter Try.func13, Try.ntmps13
  go_wp2_with fail
  refine (sLeastCover_c b _).mono ?_
  rintro e w2 ⟨rfl, hb2⟩
  go_wp2_with fail
  refine (iLeastCover_c b _).mono ?_
  rintro e w4 ⟨rfl, hb4⟩
  go_wp2
  go_ret
  exact ⟨rfl, bt hb2 hb4⟩

end Go.Proofs.Ytecgbiagpbeklaa
