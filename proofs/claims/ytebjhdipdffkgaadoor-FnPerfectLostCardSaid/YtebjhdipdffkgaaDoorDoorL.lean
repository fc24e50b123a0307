/- The walks of the laws at the door: the sixteen words, the perfect lost words, the least cover. -/
import Derived.Test.YtebjhdipdffkgaaDoorSix
import Derived.Test.YtebjhdipdffkgaaDoorSGuess
import Derived.Test.YtebjhdipdffkgaaDoorSort
import Derived.Test.YtebjhdipdffkgaaDoorWNear
import Derived.Test.YtebjhdipdffkgaaDoorWLeast
import Derived.Test.YtebjhdipdffkgaaDoorLDraw
import Derived.Test.YtebjhdipdffkgaaDoorCov3
namespace Go.Proofs.YtebjhdipdffkgaaDoor
open Go Go.RowKit
open M (nth)

namespace M
theorem sixteen_len : sixteen.length ≤ 16 := by decide
theorem sort_perf : sixteen.mergeSort (fun x y => decide (x ≤ y)) = pgo 128 := by
  refine List.Perm.eq_of_pairwise (le := fun x y => x ≤ y) (fun a b _ _ h1 h2 => Int.le_antisymm h1 h2) ?_ ?_ ?_
  · have := List.pairwise_mergeSort (le := fun x y : Int => decide (x ≤ y)) (fun a b c h1 h2 => by simp at h1 h2 ⊢; omega) (fun a b => by simp; omega) sixteen
    exact this.imp fun h => by simpa using h
  · have : (pgo 128).Pairwise fun x y => decide (x ≤ y) = true := by decide +kernel
    exact this.imp fun h => by simpa using h
  · exact (List.mergeSort_perm _ _).trans (List.isPerm_iff.1 (by decide +kernel))
end M

/-- The program's table of checks lies where it lay. -/
structure Tab (w : World) : Prop where
  size : 0 < w.heap.size
  c0 : w.cell? ⟨0, 0, none⟩ = some (.int .i64 11)
  c1 : w.cell? ⟨0, 1, none⟩ = some (.int .i64 13)
  c2 : w.cell? ⟨0, 2, none⟩ = some (.int .i64 14)
theorem Tab.below {w w' : World} (h : Tab w) (hb : Below w.heap.size w w') : Tab w' :=
  ⟨Nat.lt_of_lt_of_le h.size hb.size, (hb.cell (p := ⟨0, 0, none⟩) h.size).trans h.c0, (hb.cell (p := ⟨0, 1, none⟩) h.size).trans h.c1, (hb.cell (p := ⟨0, 2, none⟩) h.size).trans h.c2⟩
theorem iSix_t (w : World) (h : Tab w) : Calls Tryd.prog 9 #[] w (RetI w M.sixteen) := iSixteen_c w h.size h.c0 h.c1 h.c2

set_option maxHeartbeats 1000000 in
theorem iPerfect_t (p : Int) (w : World) (h : Tab w) : Calls Tryd.prog 20 #[.int .i64 p] w (RetI w (M.perf p)) := by
  have HT := Lib.hid h
  clear h
  by_cases h1 : p = 1
  · subst h1
    go_enter Tryd.func20, Tryd.ntmps20
    go_wp2
    go_ret
    exact ⟨_, _, _, rfl, ownI_lit w _ #[.int .i64 0] 1 [0] (Nat.le_refl _) (by omega) rfl rfl, (Below.refl _ _).alloc (Nat.le_refl _) _⟩
  · by_cases h3 : p = 3
    · subst h3
      go_enter Tryd.func20, Tryd.ntmps20
      go_wp2
      go_ret
      exact ⟨_, _, _, rfl, ownI_lit w _ #[.int .i64 0, .int .i64 7] 2 [0, 7] (Nat.le_refl _) (by omega) rfl rfl, (Below.refl _ _).alloc (Nat.le_refl _) _⟩
    · by_cases h7 : p = 7
      · subst h7
        have Hp := Lib.hid M.perf_seven
        have Hs := Lib.hid M.sort_perf
        go_enter Tryd.func20, Tryd.ntmps20
        go_wp2_with fail
        refine (iSix_t _ HT.out).mono ?_
        rintro e w1 ⟨A, n, c, rfl, ho, hb⟩
        go_wp2_with fail
        refine (Values_c A n c _).mono ?_
        rintro e w2 ⟨rfl, rfl⟩
        have hb2 : Below w1.heap.size w1 (w1.alloc (.cells #[.slice A n c] 22)) := (Below.refl _ _).alloc (Nat.le_refl _) _
        have hc2 : (w1.alloc (.cells #[.slice A n c] 22)).cell? ⟨w1.heap.size, 0, none⟩ = some (.slice A n c) := by rw [World.cell?_alloc_at _ _ _ _ rfl]; rfl
        have Hc2 := Lib.hid hc2
        clear hc2
        have hn : n ≤ 16 := by have := ho.1; have := M.sixteen_len; omega
        go_wp2_with fail
        refine (Sorted_c w1 A n c M.sixteen ho.rd (by omega) w1.heap.size _ (by simp) hb2 Hc2.out).mono ?_
        rintro e w3 ⟨A', c', rfl, ho3, hb3⟩
        rw [Hs.out, ← Hp.out] at ho3
        go_wp2
        go_ret
        exact ⟨_, _, _, rfl, ho3.mono (by have := hb.size; simp; omega), bt hb (bt hb2 hb3)⟩
      · have hp := M.perf_not h1 h3 h7
        have e1 : (p == 1) = false := by simpa using h1
        have e3 : (p == 3) = false := by simpa using h3
        have e7 : (p == 7) = false := by simpa using h7
        rw [hp]
        clear hp h1 h3 h7
        go_enter Tryd.func20, Tryd.ntmps20
        go_wp2
        go_ret
        exact ⟨none, 0, 0, rfl, ownI_nil _ _, Below.refl _ _⟩

set_option maxHeartbeats 400000 in
theorem FnExactSixteenWords_w (w : World) (hsz : 0 < w.heap.size) (hc0 : w.cell? ⟨0, 0, none⟩ = some (.int .i64 11)) (hc1 : w.cell? ⟨0, 1, none⟩ = some (.int .i64 13)) (hc2 : w.cell? ⟨0, 2, none⟩ = some (.int .i64 14))  :
    Calls Tryd.prog 3 #[] w fun e w' => e = .returned (.bool true) ∧ Below w.heap.size w w' := by
  have hT : Tab w := ⟨hsz, hc0, hc1, hc2⟩
  have HT := Lib.hid hT
  clear hT hc0 hc1 hc2
  go_enter Tryd.func3, Tryd.ntmps3
  go_wp2_with fail
  refine (sSixteen_c _).mono ?_
  rintro e w2 ⟨AW, nW, cW, rfl, hW, hb2⟩
  go_wp2_with fail
  refine (iSix_t _ (HT.out.below hb2)).mono ?_
  rintro e w4 ⟨AG, nG, cG, rfl, hG, hb4⟩
  have hW4 := hW.below hb4
  have b4 := bt hb2 hb4
  have e0 := M.eqL_refl (M.sixteen)
  have hlen : nG ≤ 1048576 := by have := hG.1; have := M.sixteen_len; omega
  have z2 := hb2.size
  have z4 := hb4.size
  go_wp2_with fail
  refine (eqIntS_c AG AW nG cG nW cW _ _ _ hG.rd hW4.rd).mono ?_
  rintro e w9 ⟨rfl, hq9⟩
  go_wp2_with fail
  refine (markIntS_c _ AG nG cG _ 1 _ (hG.quiet hq9) (by omega) (by omega)).mono ?_
  rintro e w10 ⟨rfl, hG10, hg10⟩
  have hW10 := (hW4.quiet hq9).kept hg10 (own_ne1 hW hG (by omega))
  have b10 : Below w.heap.size w w10 := (b4.trans (hq9.below _)).trans (below_own hG hg10 (by omega) (by have := (hq9.below 0).size; have := b4.size; omega))
  clear hG hW4 b4 hg10
  go_wp2_with fail
  refine (heldIntS_c AG nG cG 1 _ hG10.rd (by omega) (by omega)).mono ?_
  rintro e w11 ⟨rfl, hq11⟩
  have b11 := b10.trans (hq11.below _)
  have hk8 : ¬ (1 : Int) + nG < 0 := by omega
  have hk8' : decide ((1 : Int) + nG < 0) = false := by simp; omega
  go_wp2_with fail
  refine (iSix_t _ (HT.out.below b11)).mono ?_
  rintro e w13 ⟨AH, nH, cH, rfl, hH, hb13⟩
  have hW13 := (hW10.quiet hq11).below hb13
  have hG13 := (hG10.quiet hq11).below hb13
  go_wp2_with fail
  refine (eqIntS_c AH AW nH cH nW cW _ _ _ hH.rd hW13.rd).mono ?_
  rintro e w14 ⟨rfl, hq14⟩
  go_wp2_with fail
  refine (heldIntS_c AG nG cG 1 _ (hG13.quiet hq14).rd (by omega) (by omega)).mono ?_
  rintro e w15 ⟨rfl, hq15⟩
  go_wp2
  go_ret
  exact ⟨rfl, bt (bt b11 hb13) ((hq14.trans hq15).below _)⟩


set_option maxHeartbeats 400000 in
theorem FnExactPerfectLost_w (w : World) (hsz : 0 < w.heap.size) (hc0 : w.cell? ⟨0, 0, none⟩ = some (.int .i64 11)) (hc1 : w.cell? ⟨0, 1, none⟩ = some (.int .i64 13)) (hc2 : w.cell? ⟨0, 2, none⟩ = some (.int .i64 14)) (p : Int) (_hp : (Lit.int .i64 p).wf = true) :
    Calls Tryd.prog 5 #[.int .i64 p] w fun e w' => e = .returned (.bool true) ∧ Below w.heap.size w w' := by
  have hT : Tab w := ⟨hsz, hc0, hc1, hc2⟩
  have HT := Lib.hid hT
  clear hT hc0 hc1 hc2
  go_enter Tryd.func5, Tryd.ntmps5
  go_wp2_with fail
  refine (sPerfect_c p _).mono ?_
  rintro e w2 ⟨AW, nW, cW, rfl, hW, hb2⟩
  go_wp2_with fail
  refine (iPerfect_t p _ (HT.out.below hb2)).mono ?_
  rintro e w4 ⟨AG, nG, cG, rfl, hG, hb4⟩
  have hW4 := hW.below hb4
  have b4 := bt hb2 hb4
  have e0 := M.eqL_refl (M.perf p)
  have hlen : nG ≤ 1048576 := by have := hG.1; have := M.length_perf p; omega
  have z2 := hb2.size
  have z4 := hb4.size
  go_wp2_with fail
  refine (eqIntS_c AG AW nG cG nW cW _ _ _ hG.rd hW4.rd).mono ?_
  rintro e w9 ⟨rfl, hq9⟩
  go_wp2_with fail
  refine (markIntS_c _ AG nG cG _ 1 _ (hG.quiet hq9) (by omega) (by omega)).mono ?_
  rintro e w10 ⟨rfl, hG10, hg10⟩
  have hW10 := (hW4.quiet hq9).kept hg10 (own_ne1 hW hG (by omega))
  have b10 : Below w.heap.size w w10 := (b4.trans (hq9.below _)).trans (below_own hG hg10 (by omega) (by have := (hq9.below 0).size; have := b4.size; omega))
  clear hG hW4 b4 hg10
  go_wp2_with fail
  refine (heldIntS_c AG nG cG 1 _ hG10.rd (by omega) (by omega)).mono ?_
  rintro e w11 ⟨rfl, hq11⟩
  have b11 := b10.trans (hq11.below _)
  have hk8 : ¬ (1 : Int) + nG < 0 := by omega
  have hk8' : decide ((1 : Int) + nG < 0) = false := by simp; omega
  go_wp2_with fail
  refine (iPerfect_t p _ (HT.out.below b11)).mono ?_
  rintro e w13 ⟨AH, nH, cH, rfl, hH, hb13⟩
  have hW13 := (hW10.quiet hq11).below hb13
  have hG13 := (hG10.quiet hq11).below hb13
  go_wp2_with fail
  refine (eqIntS_c AH AW nH cH nW cW _ _ _ hH.rd hW13.rd).mono ?_
  rintro e w14 ⟨rfl, hq14⟩
  go_wp2_with fail
  refine (heldIntS_c AG nG cG 1 _ (hG13.quiet hq14).rd (by omega) (by omega)).mono ?_
  rintro e w15 ⟨rfl, hq15⟩
  go_wp2
  go_ret
  exact ⟨rfl, bt (bt b11 hb13) ((hq14.trans hq15).below _)⟩


end Go.Proofs.YtebjhdipdffkgaaDoor
