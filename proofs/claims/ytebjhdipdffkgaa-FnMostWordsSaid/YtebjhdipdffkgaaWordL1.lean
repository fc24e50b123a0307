/- The walks of the laws on FarOf. -/
import Derived.Test.YtebjhdipdffkgaaWBits
import Derived.Test.YtebjhdipdffkgaaDraw
namespace Go.Proofs.Ytebjhdipdffkgaa
open Go Go.RowKit
open M (nth)

theorem grown_quiet {w w' : World} (h : Quiet w w') : Grown w w' := by
  obtain ⟨m, rfl⟩ := h
  exact ⟨(Grown.refl w).1, (Grown.refl w).2.1, Nat.le_refl _⟩

theorem FnExactFarOf_w (w : World) (a : Int) (_ha : (Lit.int .i64 a).wf = true) (b : Int) (_hb : (Lit.int .i64 b).wf = true) :
    Calls Try.prog 5 #[.int .i64 a, .int .i64 b] w fun e w' => e = .returned (.bool true) ∧ Grown w w' := by
  go_enter Try.func5, Try.ntmps5
  go_wp2_with fail
  refine (sFarOf_c a b _).mono ?_
  rintro e w1 ⟨rfl, hq⟩
  go_wp2_with fail
  refine (iFarOf_c a b _).mono ?_
  rintro e w2 ⟨rfl, rfl⟩
  go_wp2_with fail
  go_ret
  exact ⟨rfl, grown_quiet hq⟩

set_option maxHeartbeats 400000 in
theorem DrawFarOf_c (A : Option Addr) (n c : Nat) (w : World) (h : RdY w A n c) : Calls Try.prog 24 #[.slice A n c] w fun e w' => (∃ a b : Int, e = .returned (.tuple #[.int .i64 a, .int .i64 b])) ∧ Below w.heap.size w w' := by
  go_enter Try.func24, Try.ntmps24
  go_wp2_with fail
  refine (l20Open_c A n c _ h).mono ?_
  rintro e w1 ⟨rfl, hr, hb⟩
  go_wp2_with fail
  refine (pick_c w.heap.size 0 256 _ hr (by omega) (by omega)).mono ?_
  rintro e w2 ⟨⟨x1, rfl, h1, h1'⟩, hr1, hg1⟩
  go_wp2_with fail
  refine (pick_c w.heap.size _ 20 _ hr1 (by omega) (by omega)).mono ?_
  rintro e w3 ⟨⟨x2, rfl, h2, h2'⟩, hr2, hg2⟩
  go_wp2_with fail
  refine (pick_c w.heap.size _ 256 _ hr2 (by omega) (by omega)).mono ?_
  rintro e w4 ⟨⟨x3, rfl, h3, h3'⟩, hr3, hg3⟩
  go_wp2_with fail
  refine (pick_c w.heap.size _ 20 _ hr3 (by omega) (by omega)).mono ?_
  rintro e w5 ⟨⟨x4, rfl, h4, h4'⟩, hr4, hg4⟩
  go_wp2
  go_ret2
  exact ⟨⟨_, _, rfl⟩, (((hb.grown hg1 hb.size (fun k e => by cases e; exact Nat.le_refl _)).grown hg2 (by have := hb.size; have := hg1.size; omega) (fun k e => by cases e; exact Nat.le_refl _)).grown hg3 (by have := hb.size; have := hg1.size; have := hg2.size; omega) (fun k e => by cases e; exact Nat.le_refl _)).grown hg4 (by have := hb.size; have := hg1.size; have := hg2.size; have := hg3.size; omega) (fun k e => by cases e; exact Nat.le_refl _)⟩

theorem M.farOf_neg {a b : Int} : M.farOf a b = -1 ∨ ∃ x y : Nat, a = x ∧ b = y ∧ x < 256 ∧ y < 256 ∧ M.farOf a b = (M.farN x y : Nat) := by
  cases ha : M.inB a 0 255 with
  | false => exact .inl (M.farOf_no1 ha)
  | true =>
    cases hb : M.inB b 0 255 with
    | false => exact .inl (M.farOf_no2 hb)
    | true =>
      obtain ⟨a', rfl, ha'⟩ := M.inB_255 ha
      obtain ⟨b', rfl, hb'⟩ := M.inB_255 hb
      exact .inr ⟨a', b', rfl, rfl, ha', hb', M.farOf_ok ha' hb'⟩

set_option maxHeartbeats 1000000 in
theorem FnFarOf_w (w : World) (A : Option Addr) (n c : Nat) (h : RdY w A n c) (A2 : Option Addr) (n2 c2 : Nat) (h2 : RdY w A2 n2 c2) :
    Calls Try.prog 6 #[.slice A n c, .slice A2 n2 c2] w fun e w' => e = .returned (.bool true) ∧ Below w.heap.size w w' := by
  have hbig := h.big
  have hbig2 := h2.big
  by_cases hn : 1048576 < n
  · go_enter Try.func6, Try.ntmps6
    go_wp2
    go_ret
    exact ⟨rfl, Below.refl _ _⟩
  by_cases hn2 : 1048576 < n2
  · go_enter Try.func6, Try.ntmps6
    go_wp2
    go_ret
    exact ⟨rfl, Below.refl _ _⟩
  go_enter Try.func6, Try.ntmps6
  go_wp2_with fail
  refine (DrawFarOf_c A n c _ h).mono ?_
  rintro e w1 ⟨⟨a, b, rfl⟩, hb1⟩
  go_wp2_with fail
  refine (iFarOf_c a b _).mono ?_
  rintro e w2 ⟨rfl, rfl⟩
  go_wp2_with fail
  refine (sFarOf_c a b _).mono ?_
  rintro e w3 ⟨rfl, hq3⟩
  have b3 := Below.quiet hb1 hq3
  rcases M.farOf_neg (a := a) (b := b) with hneg | ⟨x, y, rfl, rfl, hx, hy, hf⟩
  · rw [hneg]
    go_wp2_with fail
    refine (alive_c _).mono ?_
    rintro e w' ⟨rfl, rfl⟩
    go_wp2
    go_ret
    exact ⟨rfl, b3⟩
  · rw [hf]
    have hle := M.far_le x y
    have hz : ((M.farN x y : Nat) : Int) = 0 ↔ (x : Int) = (y : Int) := by
      constructor
      · intro e; rw [M.far_zero hx hy (by omega)]
      · intro e
        have : x = y := by omega
        subst this
        rw [M.far_self]; rfl
    have hzb : (((M.farN x y : Nat) : Int) == 0) = ((x : Int) == (y : Int)) := by
      rw [Bool.eq_iff_iff, beq_iff_eq, beq_iff_eq]; exact hz
    clear hz
    have hc : M.farOf y x = (M.farN x y : Nat) := by rw [M.farOf_ok hy hx, M.far_comm]
    go_wp2_with fail
    refine (DrawFarOf_c A2 n2 c2 _ (h2.below b3)).mono ?_
    rintro e w4 ⟨⟨d, d2, rfl⟩, hb4⟩
    have b4 := bt b3 hb4
    go_wp2_with fail
    refine (iFarOf_c _ d _).mono ?_
    rintro e w2 ⟨rfl, rfl⟩
    go_wp2_with fail
    refine (iFarOf_c d _ _).mono ?_
    rintro e w2 ⟨rfl, rfl⟩
    have hpq : (M.farOf x d < 0) ∨ (0 ≤ M.farOf x d ∧ M.farOf d y < 0) ∨ (0 ≤ M.farOf x d ∧ 0 ≤ M.farOf d y ∧ M.farOf x d ≤ 8 ∧ M.farOf d y ≤ 8 ∧ ((M.farN x y : Nat) : Int) ≤ M.farOf x d + M.farOf d y) := by
      rcases M.farOf_neg (a := (x : Int)) (b := d) with e | ⟨x1, d1, e1, rfl, h1, h1', e⟩
      · exact .inl (by omega)
      · obtain rfl : x = x1 := by omega
        rcases M.farOf_neg (a := (d1 : Int)) (b := (y : Int)) with e' | ⟨d3, y3, e3, e4, h3, h3', e'⟩
        · exact .inr (.inl (by omega))
        · obtain rfl : d1 = d3 := by omega
          obtain rfl : y = y3 := by omega
          have := M.far_tri x y d1
          have := M.far_le x d1
          have := M.far_le d1 y
          exact .inr (.inr (by omega))
    generalize M.farOf x d = p at *
    generalize M.farOf d y = q at *
    rcases hpq with hp | ⟨hp, hq'⟩ | ⟨hp, hq', hp8, hq8, hpq⟩
    all_goals
      go_wp2_with fail
      refine (iFarOf_c _ _ _).mono ?_
      rintro e w5 ⟨rfl, rfl⟩
      rw [hc]
      go_wp2
      go_ret
      exact ⟨rfl, b4⟩

end Go.Proofs.Ytebjhdipdffkgaa
