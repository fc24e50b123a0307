/- The walks of the laws on LostOk. -/
import Derived.Test.YtecgbiagpbeklaaLDraw
namespace Go.Proofs.Ytecgbiagpbeklaa
open Go Go.RowKit
open M (nth)

set_option maxHeartbeats 400000 in
theorem FnExactLostOk_w (w : World) (col : Int) (_hc : (Lit.int .i64 col).wf = true) (A : Option Addr) (n c : Nat) (xs : List Int) (h : RdI w A n xs) :
    Calls Try.prog 3 #[.int .i64 col, .slice A n c] w fun e w' => e = .returned (.bool true) ∧ Below w.heap.size w w' := by
  have hbig := h.big
  by_cases hn : 1048576 < n
  · go_enter Try.func3, Try.ntmps3
    go_wp2
    go_ret
    exact ⟨rfl, Below.refl _ _⟩
  · go_enter Try.func3, Try.ntmps3
    go_wp2_with fail
    refine (toIntS_c A n c xs _ h (by omega)).mono ?_
    rintro e w1 ⟨A1, n1, c1, rfl, ho1, hb1⟩
    go_wp2_with fail
    refine (sLostOk_c A1 n1 c1 xs col _ ho1.rd).mono ?_
    rintro e wq ⟨rfl, hq⟩
    have hb1 := Below.quiet hb1 hq
    go_wp2_with fail
    refine (toIntS_c A n c xs _ (h.below hb1) (by omega)).mono ?_
    rintro e w2 ⟨A2, n2, c2, rfl, ho2, hb2⟩
    go_wp2_with fail
    refine (iLostOk_c _ A2 n2 c2 xs col _ ho2 (by have := ho2.1; have := h.len; omega)).mono ?_
    rintro e w3 ⟨rfl, hb3⟩
    go_wp2_with fail
    refine (toIntS_c A n c xs _ (((h.below hb1).below hb2).below hb3) (by omega)).mono ?_
    rintro e w4 ⟨A4, n4, c4, rfl, ho4, hb4⟩
    go_wp2_with fail
    refine (eqIntS_c A2 A4 n2 c2 n4 c4 xs xs _ ((ho2.below hb3).below hb4).rd ho4.rd).mono ?_
    rintro e w5 ⟨rfl, hq5⟩
    have e5 := M.eqL_refl xs
    go_wp2_with fail
    go_ret
    exact ⟨rfl, bt hb1 (bt hb2 (bt hb3 (bt hb4 (hq5.below _))))⟩


/-- What the draws of people and lost words return. -/
def DrawnLost (w : World) (e : Ending) (w' : World) : Prop :=
  (∃ (pp : Int) (A : Option Addr) (n c : Nat) (xs : List Int), e = .returned (.tuple #[.int .i64 pp, .slice A n c]) ∧ 1 ≤ pp ∧ pp ≤ 8 ∧ n ≤ 200 ∧ OwnI w' w.heap.size A n c xs) ∧ Below w.heap.size w w'

set_option maxHeartbeats 400000 in
theorem DrawLostOk_c (A : Option Addr) (n c : Nat) (w : World) (h : RdY w A n c) : Calls Try.prog 18 #[.slice A n c] w (DrawnLost w) := by
  go_enter Try.func18, Try.ntmps18
  go_wp2_with fail
  refine (l20Open_c A n c _ h).mono ?_
  rintro e w1 ⟨rfl, hr, hb⟩
  go_wp2_with fail
  refine (l20Lost_c w.heap.size 0 _ _ hr (by omega) (by omega) (by omega)).mono ?_
  rintro e w2 ⟨⟨pp, A2, n2, c2, xs, p', rfl, h0, h1, h2, ho, _, _⟩, hg⟩
  go_wp2
  go_ret2
  exact ⟨⟨_, _, _, _, xs, rfl, h0, h1, h2, ho.mono hb.size⟩, hb.grown hg hb.size (fun k e => by cases e; exact Nat.le_refl _)⟩

set_option maxHeartbeats 400000 in
theorem DrawWinsOf_c (A : Option Addr) (n c : Nat) (w : World) (h : RdY w A n c) : Calls Try.prog 32 #[.slice A n c] w (DrawnLost w) := by
  go_enter Try.func32, Try.ntmps32
  go_wp2_with fail
  refine (l20Open_c A n c _ h).mono ?_
  rintro e w1 ⟨rfl, hr, hb⟩
  go_wp2_with fail
  refine (l20Lost_c w.heap.size 0 _ _ hr (by omega) (by omega) (by omega)).mono ?_
  rintro e w2 ⟨⟨pp, A2, n2, c2, xs, p', rfl, h0, h1, h2, ho, _, _⟩, hg⟩
  go_wp2
  go_ret2
  exact ⟨⟨_, _, _, _, xs, rfl, h0, h1, h2, ho.mono hb.size⟩, hb.grown hg hb.size (fun k e => by cases e; exact Nat.le_refl _)⟩

set_option maxHeartbeats 400000 in
theorem DrawCoverOk_c (A : Option Addr) (n c : Nat) (w : World) (h : RdY w A n c) : Calls Try.prog 25 #[.slice A n c] w (DrawnLost w) := by
  go_enter Try.func25, Try.ntmps25
  go_wp2_with fail
  refine (l20Open_c A n c _ h).mono ?_
  rintro e w1 ⟨rfl, hr, hb⟩
  go_wp2_with fail
  refine (l20Lost_c w.heap.size 0 _ _ hr (by omega) (by omega) (by omega)).mono ?_
  rintro e w2 ⟨⟨pp, A2, n2, c2, xs, p', rfl, h0, h1, h2, ho, _, _⟩, hg⟩
  go_wp2
  go_ret2
  exact ⟨⟨_, _, _, _, xs, rfl, h0, h1, h2, ho.mono hb.size⟩, hb.grown hg hb.size (fun k e => by cases e; exact Nat.le_refl _)⟩

set_option maxHeartbeats 1000000 in
theorem FnLostOk_w (w : World) (A : Option Addr) (n c : Nat) (h : RdY w A n c) :
    Calls Try.prog 4 #[.slice A n c] w fun e w' => e = .returned (.bool true) ∧ Below w.heap.size w w' := by
  have hbig := h.big
  by_cases hn : 1048576 < n
  · go_enter Try.func4, Try.ntmps4
    go_wp2
    go_ret
    exact ⟨rfl, Below.refl _ _⟩
  · go_enter Try.func4, Try.ntmps4
    go_wp2_with fail
    refine (DrawLostOk_c A n c _ h).mono ?_
    rintro e w1 ⟨⟨pp, A1, n1, c1, xs, rfl, h0, h1, h2, ho1⟩, hb1⟩
    go_wp2_with fail
    refine (iLostOk_c _ A1 n1 c1 xs pp _ ho1 (by omega)).mono ?_
    rintro e w2 ⟨rfl, hb2⟩
    go_wp2_with fail
    refine (sLostOk_c A1 n1 c1 xs pp _ (ho1.below hb2).rd).mono ?_
    rintro e w3 ⟨rfl, hq3⟩
    have b3 := Below.quiet (bt hb1 hb2) hq3
    have k1 : M.lostB 1 [0, 1] = true := by decide
    have k0 : M.lostB 0 [] = false := by decide
    cases hok : M.lostB pp xs with
    | false =>
      go_wp2_with fail
      refine (iLostOk_c _ _ 2 2 [0, 1] 1 _ (ownI_lit w3 w3.heap.size #[.int .i64 0, .int .i64 1] 2 [0, 1] (Nat.le_refl _) (by omega) rfl rfl) (by omega)).mono ?_
      rintro e w5 ⟨rfl, hb5⟩
      have b5 : Below w3.heap.size w3 w5 := ((Below.refl _ w3).alloc (Nat.le_refl _) _).trans (hb5.mono (by simp))
      go_wp2_with fail
      refine (iLostOk_c 0 none 0 0 [] 0 _ (ownI_nil _ _) (by omega)).mono ?_
      rintro e w6 ⟨rfl, hb6⟩
      go_wp2_with fail
      refine (alive_c _).mono ?_
      rintro e w' ⟨rfl, rfl⟩
      go_wp2
      go_ret
      exact ⟨rfl, bt b3 (bt b5 hb6)⟩
    | true =>
      have kp := M.lost_nil hok
      go_wp2_with fail
      refine (iLostOk_c 0 none 0 0 [] pp _ (ownI_nil _ _) (by omega)).mono ?_
      rintro e w4 ⟨rfl, hb4⟩
      go_wp2_with fail
      refine (iLostOk_c _ _ 2 2 [0, 1] 1 _ (ownI_lit w4 w4.heap.size #[.int .i64 0, .int .i64 1] 2 [0, 1] (Nat.le_refl _) (by omega) rfl rfl) (by omega)).mono ?_
      rintro e w5 ⟨rfl, hb5⟩
      have b5 : Below w4.heap.size w4 w5 := ((Below.refl _ w4).alloc (Nat.le_refl _) _).trans (hb5.mono (by simp))
      go_wp2_with fail
      refine (iLostOk_c 0 none 0 0 [] 0 _ (ownI_nil _ _) (by omega)).mono ?_
      rintro e w6 ⟨rfl, hb6⟩
      go_wp2_with fail
      refine (alive_c _).mono ?_
      rintro e w' ⟨rfl, rfl⟩
      go_wp2
      go_ret
      exact ⟨rfl, bt b3 (bt hb4 (bt b5 hb6))⟩

end Go.Proofs.Ytecgbiagpbeklaa
