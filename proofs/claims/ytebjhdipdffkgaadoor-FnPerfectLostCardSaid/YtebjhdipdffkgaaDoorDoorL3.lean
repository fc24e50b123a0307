/- The walk of the law at the door on the perfect lost words. -/
import Derived.Test.YtebjhdipdffkgaaDoorDoorL2
namespace Go.Proofs.YtebjhdipdffkgaaDoor
open Go Go.RowKit
open M (nth)

set_option maxHeartbeats 1000000 in
theorem FnPerfectLost_w (w : World) (hsz : 0 < w.heap.size) (hc0 : w.cell? ⟨0, 0, none⟩ = some (.int .i64 11)) (hc1 : w.cell? ⟨0, 1, none⟩ = some (.int .i64 13)) (hc2 : w.cell? ⟨0, 2, none⟩ = some (.int .i64 14)) (A : Option Addr) (n c : Nat) (h : RdY w A n c) :
    Calls Tryd.prog 6 #[.slice A n c] w fun e w' => e = .returned (.bool true) ∧ Below w.heap.size w w' := by
  have hT : Tab w := ⟨hsz, hc0, hc1, hc2⟩
  have HT := Lib.hid hT
  clear hT hc0 hc1 hc2
  have hbig := h.big
  by_cases hn : 1048576 < n
  · go_enter Tryd.func6, Tryd.ntmps6
    go_wp2
    go_ret
    exact ⟨rfl, Below.refl _ _⟩
  · have hdraw : Calls Tryd.prog 21 #[.slice A n c] w fun e w' => (∃ x : Int, e = .returned (.int .i64 x) ∧ 0 ≤ x ∧ x ≤ 8) ∧ Below w.heap.size w w' := by
      go_enter Tryd.func21, Tryd.ntmps21
      go_wp2_with fail
      refine (l20Open_c A n c _ h).mono ?_
      rintro e w1 ⟨rfl, hr, hb⟩
      go_wp2_with fail
      refine (pick_c _ 0 9 _ hr (by omega) (by omega)).mono ?_
      rintro e w2 ⟨⟨x, rfl, hx0, hx1⟩, hr2, hg⟩
      go_wp2
      go_ret
      exact ⟨⟨x, rfl, by omega, by omega⟩, hb.grown hg hb.size (fun j e => by cases e; exact Nat.le_refl _)⟩
    go_enter Tryd.func6, Tryd.ntmps6
    go_wp2_with fail
    refine hdraw.mono ?_
    clear hdraw
    rintro e w1 ⟨⟨p, rfl, hp0, hp8⟩, hb1⟩
    go_wp2_with fail
    refine (iPerfect_t p _ (HT.out.below hb1)).mono ?_
    rintro e w2 ⟨A2, m, c2, rfl, ho2, hb2⟩
    go_wp2_with fail
    refine (sPerfect_c p _).mono ?_
    rintro e w3 ⟨A3, m3, c3, rfl, ho3, hb3⟩
    have e0 := M.eqL_refl (M.perf p)
    have ho2' := ho2.below hb3
    go_wp2_with fail
    refine (sameInts_c A2 A3 m c2 m3 c3 _ _ _ ho2'.rd ho3.rd).mono ?_
    rintro e w4 ⟨rfl, hq4⟩
    rw [e0]
    have ho4 := ho2'.quiet hq4
    have b4 := Below.quiet (bt hb1 (bt hb2 hb3)) hq4
    have bD : Below w4.heap.size w4 w4.drew := (Quiet.refl w4).drew.below _
    clear ho2 ho2' ho3 hb1 hb2 hb3 hq4 e0
    have hcov : ∀ W, Below w4.heap.size w4 W → Calls Tryd.prog 22 #[.int .i64 p, .slice A2 m c2] W fun e w' => e = .returned (.bool (M.coverW p (M.perf p))) ∧ Below w4.heap.size w4 w' := fun W hb =>
      (iCoverOk_c _ A2 m c2 _ p W (ho4.below hb) (by have := ho4.1; have := M.length_perf p; omega)).mono fun _ _ h => ⟨h.1, bt hb h.2⟩
    have hwin : ∀ W, Below w4.heap.size w4 W → Calls Tryd.prog 23 #[.int .i64 p, .slice A2 m c2] W fun e w' => e = .returned (.int .i64 (M.winsOf p (M.perf p))) ∧ Below w4.heap.size w4 w' := fun W hb =>
      (iWinsOf_c _ A2 m c2 _ p W (ho4.below hb) (by have := ho4.1; have := M.length_perf p; omega)).mono fun _ _ h => ⟨h.1, bt hb h.2⟩
    have hm := ho4.1
    by_cases h1 : p = 1
    · subst h1
      obtain rfl : m = 1 := by rw [M.perf_len.1] at hm; exact hm.symm
      rw [M.perf_cover.1] at hcov
      rw [M.perf_wins.1] at hwin
      have HC := Lib.hid hcov
      have HW := Lib.hid hwin
      clear hcov hwin hm
      go_wp2_with fail
      first
        | go_region_held3 (fun W => Below w4.heap.size w4 W) (first | exact bD | assumption) (first | (go_at_call 22; with_reducible refine (HC.out _ (by assumption)).mono ?_; clear HC; rintro e w' ⟨rfl, hb⟩) | (go_at_call 23; with_reducible refine (HW.out _ (by assumption)).mono ?_; clear HW; rintro e w' ⟨rfl, hb⟩))
        | fail
      all_goals
        go_wp2
        go_ret
        exact ⟨rfl, bt b4 (by assumption)⟩
    · by_cases h3 : p = 3
      · subst h3
        obtain rfl : m = 2 := by rw [M.perf_len.2.1] at hm; exact hm.symm
        rw [M.perf_cover.2.1] at hcov
        rw [M.perf_wins.2.1] at hwin
        have HC := Lib.hid hcov
        have HW := Lib.hid hwin
        clear hcov hwin hm h1
        go_wp2_with fail
        first
          | go_region_held3 (fun W => Below w4.heap.size w4 W) (first | exact bD | assumption) (first | (go_at_call 22; with_reducible refine (HC.out _ (by assumption)).mono ?_; clear HC; rintro e w' ⟨rfl, hb⟩) | (go_at_call 23; with_reducible refine (HW.out _ (by assumption)).mono ?_; clear HW; rintro e w' ⟨rfl, hb⟩))
          | fail
        all_goals
          go_wp2
          go_ret
          exact ⟨rfl, bt b4 (by assumption)⟩
      · by_cases h7 : p = 7
        · subst h7
          obtain rfl : m = 16 := by rw [M.perf_len.2.2] at hm; exact hm.symm
          rw [M.perf_cover.2.2] at hcov
          rw [M.perf_wins.2.2] at hwin
          have HC := Lib.hid hcov
          have HW := Lib.hid hwin
          clear hcov hwin hm h1 h3
          go_wp2_with fail
          first
            | go_region_held3 (fun W => Below w4.heap.size w4 W) (first | exact bD | assumption) (first | (go_at_call 22; with_reducible refine (HC.out _ (by assumption)).mono ?_; clear HC; rintro e w' ⟨rfl, hb⟩) | (go_at_call 23; with_reducible refine (HW.out _ (by assumption)).mono ?_; clear HW; rintro e w' ⟨rfl, hb⟩))
            | fail
          all_goals
            go_wp2
            go_ret
            exact ⟨rfl, bt b4 (by assumption)⟩
        · obtain rfl : m = 0 := by rw [M.perf_not h1 h3 h7] at hm; exact hm.symm
          have e1 : (p != 1) = true := by simpa using h1
          have e3 : (p != 3) = true := by simpa using h3
          have e7 : (p != 7) = true := by simpa using h7
          clear hcov hwin hm h1 h3 h7
          go_wp2_with fail
          refine (alive_c _).mono ?_
          rintro e w' ⟨rfl, rfl⟩
          go_wp2
          go_ret
          exact ⟨rfl, b4⟩

end Go.Proofs.YtebjhdipdffkgaaDoor
