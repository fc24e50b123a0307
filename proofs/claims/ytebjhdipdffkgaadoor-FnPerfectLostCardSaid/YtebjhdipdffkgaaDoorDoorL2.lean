/- The walks of the laws at the door: what the sixteen words, the perfect lost words and the least cover are good for. -/
import Derived.Test.YtebjhdipdffkgaaDoorDoorL
import Derived.Deep.RegionHeld3
namespace Go.Proofs.YtebjhdipdffkgaaDoor
open Go Go.RowKit
open M (nth)

namespace M
/-- Of the first k of the sixteen words those within one bit of x. -/
def ns (x : Nat) : Nat → Nat
  | 0 => 0
  | k + 1 => ns x k + if farOf (nth sixteen k) (x : Int) ≤ 1 then 1 else 0
theorem ns_le (x : Nat) : ∀ k, ns x k ≤ k
  | 0 => Nat.le_refl _
  | k + 1 => by have := ns_le x k; simp only [ns]; split <;> omega
theorem ns_one : ∀ x : Nat, x < 128 → ns x 16 = 1 := by decide +kernel
theorem least_six : leastF 7 sixteen = 3 := by decide +kernel
theorem sure_six : sureB 7 sixteen 1 = true := by decide +kernel
theorem six_len : sixteen.length = 16 := by decide +kernel
theorem perf_len : (perf 1).length = 1 ∧ (perf 3).length = 2 ∧ (perf 7).length = 16 := by decide +kernel
theorem perf_cover : coverW 1 (perf 1) = true ∧ coverW 3 (perf 3) = true ∧ coverW 7 (perf 7) = true := by decide +kernel
theorem perf_wins : winsOf 1 (perf 1) = 1 ∧ winsOf 3 (perf 3) = 6 ∧ winsOf 7 (perf 7) = 112 := by decide +kernel
end M

set_option maxHeartbeats 1000000 in
theorem FnSixteenWords_w (w : World) (hsz : 0 < w.heap.size) (hc0 : w.cell? ⟨0, 0, none⟩ = some (.int .i64 11)) (hc1 : w.cell? ⟨0, 1, none⟩ = some (.int .i64 13)) (hc2 : w.cell? ⟨0, 2, none⟩ = some (.int .i64 14)) (A : Option Addr) (n c : Nat) (h : RdY w A n c) :
    Calls Tryd.prog 4 #[.slice A n c] w fun e w' => e = .returned (.bool true) ∧ Below w.heap.size w w' := by
  have hT : Tab w := ⟨hsz, hc0, hc1, hc2⟩
  have HT := Lib.hid hT
  clear hT hc0 hc1 hc2
  have hbig := h.big
  by_cases hn : 1048576 < n
  · go_enter Tryd.func4, Tryd.ntmps4
    go_wp2
    go_ret
    exact ⟨rfl, Below.refl _ _⟩
  · have hdraw : Calls Tryd.prog 13 #[.slice A n c] w fun e w' => (∃ x : Nat, e = .returned (.int .i64 x) ∧ x < 128) ∧ Below w.heap.size w w' := by
      go_enter Tryd.func13, Tryd.ntmps13
      go_wp2_with fail
      refine (l20Open_c A n c _ h).mono ?_
      rintro e w1 ⟨rfl, hr, hb⟩
      go_wp2_with fail
      refine (pick_c _ 0 128 _ hr (by omega) (by omega)).mono ?_
      rintro e w2 ⟨⟨x, rfl, hx0, hx1⟩, hr2, hg⟩
      go_wp2
      go_ret
      refine ⟨⟨x.toNat, ri (by omega), by omega⟩, hb.grown hg hb.size (fun j e => by cases e; exact Nat.le_refl _)⟩
    go_enter Tryd.func4, Tryd.ntmps4
    go_wp2_with fail
    refine hdraw.mono ?_
    clear hdraw
    rintro e w1 ⟨⟨x, rfl, hx⟩, hb1⟩
    go_wp2_with fail
    refine (iSix_t _ (HT.out.below hb1)).mono ?_
    rintro e w2 ⟨A2, m, c2, rfl, ho2, hb2⟩
    go_wp2_with fail
    refine (sSixteen_c _).mono ?_
    rintro e w3 ⟨A3, m3, c3, rfl, ho3, hb3⟩
    have e0 := M.eqL_refl M.sixteen
    have ho2' := ho2.below hb3
    go_wp2_with fail
    refine (sameInts_c A2 A3 m c2 m3 c3 _ _ _ ho2'.rd ho3.rd).mono ?_
    rintro e w4 ⟨rfl, hq4⟩
    rw [e0]
    have ho4 := ho2'.quiet hq4
    have b4 := Below.quiet (bt hb1 (bt hb2 hb3)) hq4
    obtain rfl : m = 16 := by have := ho4.1; rw [M.six_len] at this; exact this.symm
    have hcap : 16 ≤ c2 := by
      obtain ⟨g, rfl, _⟩ := ho4.at0 (by omega)
      exact ho4.cap.1
    clear ho2 ho2' ho3 hb1 hb2 hb3 hq4 e0
    go_wp2_with fail
    go_loop [5, 6] (fun s i => ∃ k : Nat, k ≤ 16 ∧ i = .int .i64 k ∧ s = .int .i64 (M.ns x k : Nat)) (fun _ i => 16 - (intOf i).toNat)
    case atStart => exact ⟨0, by omega, rfl, rfl⟩
    case round =>
      obtain ⟨k, hk, rfl, rfl⟩ := hrel
      by_cases hlt : k < 16
      · obtain ⟨g, rfl, _⟩ := ho4.at0 (by omega)
        have hcell := ho4.cell hlt
        have hle := M.ns_le x k
        by_cases hf : M.farOf (nth M.sixteen k) (x : Int) ≤ 1
        · have Hs := Lib.hid (show M.ns x (k + 1) = M.ns x k + 1 by simp only [M.ns]; rw [if_pos hf])
          go_wp2_with fail
          refine (iFarOf_c _ _ _).mono ?_
          rintro e w' ⟨rfl, rfl⟩
          go_wp2
          go_round
          case rel => exact ⟨k + 1, by omega, by go_num, by rw [Hs.out]; go_num⟩
          case measure => simp [intOf]; omega
        · have Hs := Lib.hid (show M.ns x (k + 1) = M.ns x k by simp only [M.ns]; rw [if_neg hf]; rfl)
          go_wp2_with fail
          refine (iFarOf_c _ _ _).mono ?_
          rintro e w' ⟨rfl, rfl⟩
          go_wp2
          go_round
          case rel => exact ⟨k + 1, by omega, by go_num, by rw [Hs.out]⟩
          case measure => simp [intOf]; omega
      · obtain rfl : k = 16 := by omega
        have h1 := M.ns_one x hx
        rw [h1]
        clear h1
        go_wp2_with fail
        refine (iLeastFar_c A2 16 c2 M.sixteen 7 _ ho4.rd (by omega) hcap).mono ?_
        rintro e w5 ⟨rfl, hb5⟩
        rw [M.least_six]
        go_wp2_with fail
        refine (iSurePast_c A2 16 c2 M.sixteen 7 1 _ (ho4.below hb5).rd (by omega)).mono ?_
        rintro e w6 ⟨rfl, hb6⟩
        rw [M.sure_six]
        go_wp2_with fail
        refine (alive_c _).mono ?_
        rintro e w' ⟨rfl, rfl⟩
        go_wp2
        go_ret
        exact ⟨rfl, bt b4 (bt hb5 hb6)⟩

theorem six_cells (w w' : World) (hb : Below (w.heap.size + 1) (w.alloc (.cells #[.int .i64 0, .int .i64 1, .int .i64 2, .int .i64 3, .int .i64 3, .int .i64 5] 3)) w') :
    w'.cell? ⟨w.heap.size, 0, none⟩ = some (.int .i64 0) ∧ w'.cell? ⟨w.heap.size, 1, none⟩ = some (.int .i64 1) ∧ w'.cell? ⟨w.heap.size, 2, none⟩ = some (.int .i64 2) ∧
      w'.cell? ⟨w.heap.size, 3, none⟩ = some (.int .i64 3) ∧ w'.cell? ⟨w.heap.size, 4, none⟩ = some (.int .i64 3) ∧ w'.cell? ⟨w.heap.size, 5, none⟩ = some (.int .i64 5) := by
  refine ⟨?_, ?_, ?_, ?_, ?_, ?_⟩
  all_goals
    rw [hb.cell (by simp), World.cell?_alloc_at _ _ _ _ rfl]
    rfl

set_option maxHeartbeats 1000000 in
theorem DrawLeastCover_c (A : Option Addr) (n c : Nat) (w : World) (h : RdY w A n c) :
    Calls Tryd.prog 24 #[.slice A n c] w fun e w' => (∃ p : Int, e = .returned (.int .i64 p) ∧ (p = 0 ∨ p = 1 ∨ p = 2 ∨ p = 3 ∨ p = 5)) ∧ Below w.heap.size w w' := by
  have hb0 : Below w.heap.size w (w.alloc (.cells #[.int .i64 0, .int .i64 1, .int .i64 2, .int .i64 3, .int .i64 3, .int .i64 5] 3)) := (Below.refl _ _).alloc (Nat.le_refl _) _
  go_enter Tryd.func24, Tryd.ntmps24
  go_wp2_with fail
  refine (l20Open_c A n c _ (h.below hb0)).mono ?_
  rintro e w1 ⟨he, hr, hb⟩
  rw [World.size_alloc] at he hr
  subst he
  go_wp2_with fail
  refine (pick_c (w.heap.size + 1) 0 6 _ hr (by omega) (by omega)).mono ?_
  rintro e w2 ⟨⟨x, rfl, hx0, hx1⟩, hr2, hg⟩
  have b2 := hb.grown hg hb.size (fun j e => by cases e; simp)
  have b0 := bt hb0 b2
  rw [World.size_alloc] at b2
  obtain ⟨c0, c1, c2, c3, c4, c5⟩ := six_cells w w2 b2
  clear hr hr2 hg hb b2 hb0
  obtain rfl | rfl | rfl | rfl | rfl | rfl : x = 0 ∨ x = 1 ∨ x = 2 ∨ x = 3 ∨ x = 4 ∨ x = 5 := by omega
  all_goals
    clear hx0 hx1
    go_wp2
    go_ret
    exact ⟨⟨_, rfl, by omega⟩, b0⟩

set_option maxHeartbeats 1000000 in
theorem FnLeastCover_w (w : World) (hsz : 0 < w.heap.size) (hc0 : w.cell? ⟨0, 0, none⟩ = some (.int .i64 11)) (hc1 : w.cell? ⟨0, 1, none⟩ = some (.int .i64 13)) (hc2 : w.cell? ⟨0, 2, none⟩ = some (.int .i64 14)) (A : Option Addr) (n c : Nat) (h : RdY w A n c) :
    Calls Tryd.prog 7 #[.slice A n c] w fun e w' => e = .returned (.bool true) ∧ Below w.heap.size w w' := by
  have hT : Tab w := ⟨hsz, hc0, hc1, hc2⟩
  have HT := Lib.hid hT
  clear hT hc0 hc1 hc2
  have hbig := h.big
  by_cases hn : 1048576 < n
  · go_enter Tryd.func7, Tryd.ntmps7
    go_wp2
    go_ret
    exact ⟨rfl, Below.refl _ _⟩
  · have l0 : M.lcF 0 = -1 := by decide +kernel
    have l1 : M.lcF 1 = 1 := by decide +kernel
    have l2 : M.lcF 2 = 2 := by decide +kernel
    have l3 : M.lcF 3 = 2 := by decide +kernel
    have l5 : M.lcF 5 = -1 := by decide +kernel
    go_enter Tryd.func7, Tryd.ntmps7
    go_wp2_with fail
    refine (DrawLeastCover_c A n c _ h).mono ?_
    rintro e w1 ⟨⟨p, rfl, hp⟩, hb1⟩
    go_wp2_with fail
    refine (iLeastCover_c p _).mono ?_
    rintro e w2 ⟨rfl, hb2⟩
    go_wp2_with fail
    refine (sLeastCover_c p _).mono ?_
    rintro e w3 ⟨rfl, hb3⟩
    have b3 := bt hb1 (bt hb2 hb3)
    rcases hp with rfl | rfl | rfl | rfl | rfl
    · rw [l0]
      go_wp2_with fail
      refine (alive_c _).mono ?_
      rintro e w' ⟨rfl, rfl⟩
      go_wp2
      go_ret
      exact ⟨rfl, b3⟩
    · rw [l1]
      go_wp2_with fail
      refine (iPerfect_t 1 _ (HT.out.below b3)).mono ?_
      rintro e w4 ⟨A4, m, c4, rfl, ho4, hb4⟩
      obtain rfl : m = 1 := by have := ho4.1; rw [M.perf_len.1] at this; exact this.symm
      go_wp2
      go_ret
      exact ⟨rfl, bt b3 hb4⟩
    · rw [l2]
      go_wp2
      go_ret
      exact ⟨rfl, b3⟩
    · rw [l3]
      go_wp2_with fail
      refine (iPerfect_t 3 _ (HT.out.below b3)).mono ?_
      rintro e w4 ⟨A4, m, c4, rfl, ho4, hb4⟩
      obtain rfl : m = 2 := by have := ho4.1; rw [M.perf_len.2.1] at this; exact this.symm
      go_wp2
      go_ret
      exact ⟨rfl, bt b3 hb4⟩
    · rw [l5]
      go_wp2_with fail
      refine (alive_c _).mono ?_
      rintro e w' ⟨rfl, rfl⟩
      go_wp2
      go_ret
      exact ⟨rfl, b3⟩

end Go.Proofs.YtebjhdipdffkgaaDoor
