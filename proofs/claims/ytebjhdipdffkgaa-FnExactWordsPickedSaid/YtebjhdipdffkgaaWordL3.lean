/- The walks of the laws on picked words. -/
import Derived.Test.YtebjhdipdffkgaaSPick
namespace Go.Proofs.Ytebjhdipdffkgaa
open Go Go.RowKit
open M (nth)

theorem M.picked_len (b f : Int) : (M.picked b f).length ≤ 16 := by
  unfold M.picked
  split
  · exact M.pk_len _ _
  · simp

set_option maxHeartbeats 400000 in
theorem FnExactWordsPicked_w (w : World) (b : Int) (_hb : (Lit.int .i64 b).wf = true) (f : Int) (_hf : (Lit.int .i64 f).wf = true) :
    Calls Try.prog 7 #[.int .i64 b, .int .i64 f] w fun e w' => e = .returned (.bool true) ∧ Below w.heap.size w w' := by
  go_enter Try.func7, Try.ntmps7
  go_wp2_with fail
  refine (sWordsPicked_c b f _).mono ?_
  rintro e w2 ⟨AW, nW, cW, rfl, hW, hb2⟩
  go_wp2_with fail
  refine (iWordsPicked_c b f _).mono ?_
  rintro e w4 ⟨AG, nG, cG, rfl, hG, hb4⟩
  have hW4 := hW.below hb4
  have b4 := bt hb2 hb4
  have e0 := M.eqL_refl (M.picked b f)
  have hlen : nG ≤ 1048576 := by have := hG.1; have := M.picked_len b f; omega
  have z2 := hb2.size
  have z4 := hb4.size
  go_wp2_with fail
  refine (eqIntS_c AG AW nG cG nW cW _ _ _ hG.rd hW4.rd).mono ?_
  rintro e w9 ⟨rfl, hq9⟩
  go_wp2_with fail
  refine (markIntS_c _ AG nG cG _ 1 _ (hG.quiet hq9) (by omega) (by omega)).mono ?_
  rintro e w10 ⟨rfl, hG10, hg10⟩
  have hW10 := (hW4.quiet hq9).kept hg10 (own_ne1 hW hG (by omega))
  have b10 : Below w.heap.size w w10 := (b4.trans (hq9.below _)).trans (below_own hG hg10 (by omega) (by have := (hq9.below 0).size; have := b4.size; omega))
  clear hG hW4 b4 hg10
  go_wp2_with fail
  refine (heldIntS_c AG nG cG 1 _ hG10.rd (by omega) (by omega)).mono ?_
  rintro e w11 ⟨rfl, hq11⟩
  have b11 := b10.trans (hq11.below _)
  have hk8 : ¬ (1 : Int) + nG < 0 := by omega
  have hk8' : decide ((1 : Int) + nG < 0) = false := by simp; omega
  go_wp2_with fail
  refine (iWordsPicked_c b f _).mono ?_
  rintro e w13 ⟨AH, nH, cH, rfl, hH, hb13⟩
  have hW13 := (hW10.quiet hq11).below hb13
  have hG13 := (hG10.quiet hq11).below hb13
  go_wp2_with fail
  refine (eqIntS_c AH AW nH cH nW cW _ _ _ hH.rd hW13.rd).mono ?_
  rintro e w14 ⟨rfl, hq14⟩
  go_wp2_with fail
  refine (heldIntS_c AG nG cG 1 _ (hG13.quiet hq14).rd (by omega) (by omega)).mono ?_
  rintro e w15 ⟨rfl, hq15⟩
  go_wp2
  go_ret
  exact ⟨rfl, bt (bt b11 hb13) ((hq14.trans hq15).below _)⟩

end Go.Proofs.Ytebjhdipdffkgaa
