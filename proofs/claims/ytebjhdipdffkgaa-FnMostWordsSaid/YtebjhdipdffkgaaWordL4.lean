/- The walk of the law on MostWords. -/
import Derived.Test.YtebjhdipdffkgaaWM2
import Derived.Test.YtebjhdipdffkgaaWordL1
namespace Go.Proofs.Ytebjhdipdffkgaa
open Go Go.RowKit
open M (nth)

theorem DrawMostWords_c (A : Option Addr) (n c : Nat) (w : World) (h : RdY w A n c) : Calls Try.prog 19 #[.slice A n c] w fun e w' => (∃ a b : Int, e = .returned (.tuple #[.int .i64 a, .int .i64 b])) ∧ Below w.heap.size w w' := by
  go_enter Try.func19, Try.ntmps19
  go_wp2_with fail
  refine (l20Open_c A n c _ h).mono ?_
  rintro e w1 ⟨rfl, hr, hb⟩
  go_wp2_with fail
  refine (pick_c w.heap.size 0 _ _ hr (by omega) (by omega)).mono ?_
  rintro e w2 ⟨⟨x1, rfl, h1, h1'⟩, hr1, hg1⟩
  go_wp2_with fail
  refine (pick_c w.heap.size _ _ _ hr1 (by omega) (by omega)).mono ?_
  rintro e w3 ⟨⟨x2, rfl, h2, h2'⟩, hr2, hg2⟩
  go_wp2
  go_ret2
  exact ⟨⟨_, _, rfl⟩, (hb.grown hg1 hb.size (fun k e => by cases e; exact Nat.le_refl _)).grown hg2 (by have := hb.size; have := hg1.size; omega) (fun k e => by cases e; exact Nat.le_refl _)⟩

set_option maxHeartbeats 1000000 in
theorem FnMostWords_w (w : World) (A : Option Addr) (n c : Nat) (h : RdY w A n c) :
    Calls Try.prog 4 #[.slice A n c] w fun e w' => e = .returned (.bool true) ∧ Below w.heap.size w w' := by
  have hbig := h.big
  by_cases hn : 1048576 < n
  · go_enter Try.func4, Try.ntmps4
    go_wp2
    go_ret
    exact ⟨rfl, Below.refl _ _⟩
  · go_enter Try.func4, Try.ntmps4
    go_wp2_with fail
    refine (DrawMostWords_c A n c _ h).mono ?_
    rintro e w1 ⟨⟨a, b, rfl⟩, hb1⟩
    go_wp2_with fail
    refine (iMostWords_c a b _).mono ?_
    rintro e w2 ⟨rfl, hq2⟩
    go_wp2_with fail
    refine (sMostWords_c a b _).mono ?_
    rintro e w3 ⟨rfl, hq3⟩
    have b3 := Below.quiet hb1 (hq2.trans hq3)
    rcases M.most_cases (b := a) (f := b) with he | ⟨m1, m2, m3⟩
    · rw [he]
      go_wp2_with fail
      refine (alive_c _).mono ?_
      rintro e w' ⟨rfl, rfl⟩
      go_wp2
      go_ret
      exact ⟨rfl, b3⟩
    · have h73 := M.most_73
      generalize M.mostW a b = g at *
      go_wp2_with fail
      refine (iWordsPicked_c a b _).mono ?_
      rintro e w4 ⟨AG, nG, cG, rfl, hG, hb4⟩
      have hlen := hG.1
      have hle : (nG : Int) ≤ g := by omega
      go_wp2_with fail
      refine (iMostWords_c 7 3 _).mono ?_
      rintro e w5 ⟨rfl, hq5⟩
      rw [h73]
      go_wp2
      go_ret
      exact ⟨rfl, Below.quiet (bt b3 hb4) hq5⟩

end Go.Proofs.Ytebjhdipdffkgaa
