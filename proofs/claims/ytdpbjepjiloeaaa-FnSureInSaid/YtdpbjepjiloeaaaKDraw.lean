/- The draws of what is known. -/
import Derived.Test.YtdpbjepjiloeaaaMem
import Derived.Test.YtdpbjepjiloeaaaDraw
import Derived.Deep.Cut
import Derived.Deep.CutRange
namespace Go.Proofs.Ytdpbjepjiloeaaa
open Go Go.RowKit
open M (nth)

theorem own_below {w w3 w4 : World} {A : Option Addr} {n c : Nat} {xs : List Int} {o : Obj} (h : OwnI w3 w.heap.size A n c xs) (hz : w.heap.size ≤ w3.heap.size) (hg : (w3.alloc o).grownBy w4 (Value.slice A n c).ownBlock) : Below w.heap.size w3 w4 :=
  ((Below.refl _ w3).alloc hz o).grown hg (by simp; omega) (fun j hj => by
    cases A with
    | none => cases hj
    | some ad => cases hj; exact h.lt.1)

set_option maxHeartbeats 1000000 in
theorem l20Known_c (R p : Nat) (m : Int) (w : World) (h : Rdr w R p) (hp : p ≤ 1000) (hm0 : 0 < m) (hm : m ≤ 100) :
    Calls Try.prog 33 #[.pointer (some ⟨R, 0, none⟩), .int .i64 m] w fun e w' =>
      (∃ (A : Option Addr) (n c : Nat) (xs : List Int) (p' : Nat), e = .returned (.slice A n c) ∧ n ≤ 3 ∧ OwnI w' w.heap.size A n c xs ∧ Rdr w' R p' ∧ p' ≤ p + 20) ∧ w.grownBy w' (some R) := by
  obtain ⟨i0, hi, hz0, hz1, hz2⟩ := info_parts Try.infoInt
  have hR := h.lt
  have ho0 := ownI_lit0 w w.heap.size (Nat.le_refl _)
  have hg0 : w.grownBy (w.alloc (.cells #[] 3)) (some R) := World.grownBy_alloc w _ (some R)
  go_enter Try.func33, Try.ntmps33
  go_wp2_with fail
  refine (pick_c R p _ _ (h.alloc _) (by omega) (by omega)).mono ?_
  rintro e w1 ⟨⟨x, rfl, hx0, hx1⟩, hr1, hg1⟩
  have ho1 := ho0.kept hg1 (.inr (by simp [Value.ownBlock]; omega))
  have hg1' := grown_trans hg0 hg1
  go_wp2_with fail
  refine (pick_c R _ _ _ hr1 (by omega) (by omega)).mono ?_
  rintro e w2 ⟨⟨x2, rfl, hy0, hy1⟩, hr2, hg2⟩
  have ho2 := ho1.kept hg2 (.inr (by simp [Value.ownBlock]; omega))
  have hg2' := grown_trans hg1' hg2
  obtain ⟨k0, hk0⟩ : ∃ k0 : Nat, 1 + x2 = (k0 : Int) := ⟨(1 + x2).toNat, by omega⟩
  have hk1 : 1 ≤ k0 := by omega
  have hk3 : k0 ≤ 3 := by omega
  have hl0 : 1 ≤ 1 + x := by omega
  have hl6 : 1 + x ≤ 6 := by omega
  clear ho0 ho1 hg0 hg1 hg2 hg1' hr1 hy0 hy1
  go_wp2_with fail
  try rw [hk0]
  clear hk0
  go_loopg [5, 6, 7] k0 (fun k v l i wr => ∃ (A : Option Addr) (n c : Nat) (xs : List Int) (p' : Nat) (y : Int), n + k = k0 ∧ i = .int .i64 k ∧ l = .int .i64 y ∧ 0 ≤ y ∧ y ≤ 6 ∧ v = .slice A n c ∧ OwnI wr w.heap.size A n c xs ∧ Rdr wr R p' ∧ p' + k ≤ p + 10 ∧ w.grownBy wr (some R))
  case atStart => exact ⟨_, _, _, [], p + 1 + 1, _, by omega, rfl, rfl, by omega, by omega, rfl, ho2, hr2, by omega, hg2'⟩
  case round =>
    obtain ⟨A, n, c, xs, p', y, hnk, rfl, rfl, hy0, hy6, rfl, hor, hrr, hpp, hgr⟩ := hrel
    clear ho2 hr2 hg2'
    have hgz := hgr.size
    by_cases hlt : 0 < gk
    · obtain ⟨k, rfl⟩ : ∃ k, gk = k + 1 := ⟨gk - 1, by omega⟩
      go_wp2_with fail
      refine (pick_c R p' _ _ hrr (by omega) (by omega)).mono ?_
      rintro e w3 ⟨⟨z, rfl, hz0', hz1'⟩, hr3, hg3⟩
      have ho3 := hor.kept hg3 (OwnI.ne_block hor (by omega))
      have hg3' := grown_trans hgr hg3
      have hg3z := hg3'.size
      go_wp2_with (at_builtin; refine wpList_append_own _ rfl _ _ 23 rfl w.heap.size 3 i0 (.int .i64 0) 1 8 Try.underlying23 hi hz0 hz1 hz2 rfl (by decide) _ _ _ rfl (ho3.2.alloc _) ⟨_, 0, none⟩ 1 1 [.int .i64 _] rfl rfl (cell_one_new _ _ _) (by simp [Value.oneCell']) (by unfold maxLen; omega) (by omega) (by simp; omega) ?_; intro v' w4 hown4 hgrow4 _)
      obtain ⟨g', cap', rfl, ho4, hg4, hg4'⟩ := OwnI.appended ho3.1 hown4
      have hB4 := own_below ho3 hg3z hgrow4
      try go_wp2
      go_roundg k
      case measure => omega
      case rel => exact ⟨_, _, _, _, _, _, by omega, by go_num, rfl, by omega, by omega, rfl, ho4, hr3.keep hB4 hR, by omega, gb hg3' hB4⟩
    · obtain rfl : gk = 0 := by omega
      go_wp2_with fail
      refine (odd_c R _ _ _ hrr (by omega) hm0 (by omega)).mono ?_
      rintro e wA ⟨⟨z, rfl⟩, hrA, hgA⟩
      have hoA := hor.kept hgA (OwnI.ne_block hor (by omega))
      have hgA' := grown_trans hgr hgA
      have hAz := hgA'.size
      cases z with
      | false =>
        go_wp2
        go_ret
        exact ⟨⟨_, _, _, _, _, rfl, by omega, hoA, hrA, by omega⟩, hgA'⟩
      | true =>
        go_wp2_with fail
        refine (pick_c R _ _ _ hrA (by omega) (by omega)).mono ?_
        rintro e wB ⟨⟨z, rfl, hz0', hz1'⟩, hrB, hgB⟩
        have hoB := hoA.kept hgB (OwnI.ne_block hoA (by omega))
        have hgB' := grown_trans hgA' hgB
        have hBz := hgB'.size
        by_cases hzz : z = 0
        · subst hzz
          have hlit := ownI_lit0 wB w.heap.size hBz
          go_wp2
          go_ret
          exact ⟨⟨_, _, _, _, _, rfl, by omega, hlit, hrB.alloc _, by omega⟩, grown_trans hgB' (World.grownBy_alloc wB _ _)⟩
        · have z0 : (z == 0) = false := by simpa using hzz
          obtain ⟨gB, eA, hgB0, hgB1⟩ := hoB.at0 (by omega)
          subst eA
          have hc0 := hoB.cell (k := 0) (by omega)
          have hf0 := hoB.free 0
          by_cases hz2' : z = 1
          · subst hz2'
            go_wp2
            go_ret
            have hst := hoB.stored 0 (-1)
            have hB9 : Below w.heap.size wB (wB.setCell ⟨gB, 0, none⟩ (.int .i64 (-1))) := (Below.refl _ wB).setCell (p := ⟨gB, 0, none⟩) hgB0 _
            exact ⟨⟨_, _, _, _, _, rfl, by omega, hst.1, hrB.keep hB9 hR, by omega⟩, gb hgB' hB9⟩
          · have z1 : (z == 1) = false := by simpa using hz2'
            go_wp2
            go_ret
            have hst := hoB.stored 0 11
            have hB9 : Below w.heap.size wB (wB.setCell ⟨gB, 0, none⟩ (.int .i64 11)) := (Below.refl _ wB).setCell (p := ⟨gB, 0, none⟩) hgB0 _
            exact ⟨⟨_, _, _, _, _, rfl, by omega, hst.1, hrB.keep hB9 hR, by omega⟩, gb hgB' hB9⟩

theorem below_row {w w1 w2 : World} (h : Below w.heap.size w w1) (hg : w1.grownBy w2 (some w.heap.size)) : Below w.heap.size w w2 := h.grown hg h.size (fun k e => by cases e; exact Nat.le_refl _)

set_option maxHeartbeats 1000000 in
theorem l20Split_c (R p : Nat) (w : World) (h : Rdr w R p) (hp : p ≤ 100) :
    Calls Try.prog 41 #[.pointer (some ⟨R, 0, none⟩)] w fun e w' =>
      (∃ (A : Option Addr) (n c : Nat) (xs : List Int) (B : Option Addr) (m d : Nat) (ys : List Int), e = .returned (.tuple #[.slice A n c, .slice B m d]) ∧ n ≤ 3 ∧ m ≤ 4 ∧ OwnI w' w.heap.size A n c xs ∧ OwnI w' w.heap.size B m d ys) ∧ w.grownBy w' (some R) := by
  obtain ⟨i0, hi, hz0, hz1, hz2⟩ := info_parts Try.infoInt
  have hR := h.lt
  go_enter Try.func41, Try.ntmps41
  go_wp2_with fail
  refine (l20Known_c R p 12 _ h (by omega) (by omega) (by omega)).mono ?_
  rintro e w1 ⟨⟨A, n, c, xs, p1, rfl, hn3, ho1, hr1, hp1⟩, hg1⟩
  have hz1s := hg1.size
  have hl1 := ownI_lit0 w1 w1.heap.size (Nat.le_refl _)
  have ho1a := ho1.alloc (.cells #[] 3)
  have hr1a := hr1.alloc (.cells #[] 3)
  have hg1a := grown_trans hg1 (World.grownBy_alloc w1 (.cells #[] 3) (some R))
  have hRw1 := hr1.lt
  clear hr1
  go_wp2_with fail
  go_loopg [5, 6] n (fun g v i wr => ∃ (k : Nat) (B : Option Addr) (m d : Nat) (ys : List Int) (p' : Nat), k + g = n ∧ m = k ∧ i = .int .i64 k ∧ v = .slice B m d ∧ OwnI wr w1.heap.size B m d ys ∧ OwnI wr w.heap.size A n c xs ∧ Rdr wr R p' ∧ p' = p1 + k ∧ w.grownBy wr (some R) ∧ w1.heap.size ≤ wr.heap.size)
  case atStart => exact ⟨0, _, _, _, [], p1, by omega, rfl, rfl, rfl, hl1, ho1a, hr1a, rfl, hg1a, by simp⟩
  case round =>
    obtain ⟨k, B, m, d, ys, p', hk, hmk, rfl, rfl, hor, hxr, hrr, hpp, hgr, hsz⟩ := hrel
    clear hl1 ho1a hr1a hg1a
    have hgz := hgr.size
    have Hpp := Lib.hid hpp
    have hpb : p' ≤ p1 + k := by omega
    clear hpp
    by_cases hlt : k < n
    · obtain ⟨g, rfl⟩ : ∃ g, gk = g + 1 := ⟨gk - 1, by omega⟩
      subst hmk
      obtain ⟨ad, hAd, _, hcell⟩ := hxr.rd.at_ hlt
      subst hAd
      by_cases hx : nth xs m ≤ 0
      · by_cases hx0 : nth xs m = 0
        · rw [hx0] at hcell
          go_wp2_with fail
          refine (pick_c R p' _ _ hrr (by omega) (by omega)).mono ?_
          rintro e w3 ⟨⟨z, rfl, hz0', hz1'⟩, hr3, hg3⟩
          have ho3 := hor.kept hg3 (OwnI.ne_block hor (by omega))
          have hx3 := hxr.kept hg3 (OwnI.ne_block hxr hR)
          have hg3' := grown_trans hgr hg3
          have hg3z := hg3'.size
          have hs3 : w1.heap.size ≤ w3.heap.size := Nat.le_trans hsz hg3.size
          go_wp2_with (at_builtin; refine wpList_append_own _ rfl _ _ 23 rfl w1.heap.size 3 i0 (.int .i64 0) 1 8 Try.underlying23 hi hz0 hz1 hz2 rfl (by decide) _ _ _ rfl (ho3.2.alloc _) ⟨_, 0, none⟩ 1 1 [.int .i64 _] rfl rfl (cell_one_new _ _ _) (by simp [Value.oneCell']) (by unfold maxLen; omega) (by omega) (by simp; omega) ?_; intro v' w4 hown4 hgrow4 _)
          obtain ⟨g', cap', rfl, ho4, hg4, hg4'⟩ := OwnI.appended ho3.1 hown4
          have hB4 := own_below ho3 hs3 hgrow4
          have hx4 : OwnI w4 w.heap.size (some ad) n c xs := (hx3.alloc _).kept hgrow4 (own_ne1 ho1 ho3 (Nat.le_refl _))
          go_roundg g
          case measure => omega
          case rel => exact ⟨m + 1, _, _, _, _, _, by omega, rfl, by go_num, rfl, ho4, hx4, hr3.keep hB4 hRw1, by have := Hpp.out; omega, gb hg3' (hB4.mono hz1s), Nat.le_trans hs3 hB4.size⟩
        · have hxn : nth xs m < 0 := by omega
          go_wp2_with fail
          refine (pick_c R p' _ _ hrr (by omega) (by omega)).mono ?_
          rintro e w3 ⟨⟨z, rfl, hz0', hz1'⟩, hr3, hg3⟩
          have ho3 := hor.kept hg3 (OwnI.ne_block hor (by omega))
          have hx3 := hxr.kept hg3 (OwnI.ne_block hxr hR)
          have hg3' := grown_trans hgr hg3
          have hg3z := hg3'.size
          have hs3 : w1.heap.size ≤ w3.heap.size := Nat.le_trans hsz hg3.size
          go_wp2_with (at_builtin; refine wpList_append_own _ rfl _ _ 23 rfl w1.heap.size 3 i0 (.int .i64 0) 1 8 Try.underlying23 hi hz0 hz1 hz2 rfl (by decide) _ _ _ rfl (ho3.2.alloc _) ⟨_, 0, none⟩ 1 1 [.int .i64 _] rfl rfl (cell_one_new _ _ _) (by simp [Value.oneCell']) (by unfold maxLen; omega) (by omega) (by simp; omega) ?_; intro v' w4 hown4 hgrow4 _)
          obtain ⟨g', cap', rfl, ho4, hg4, hg4'⟩ := OwnI.appended ho3.1 hown4
          have hB4 := own_below ho3 hs3 hgrow4
          have hx4 : OwnI w4 w.heap.size (some ad) n c xs := (hx3.alloc _).kept hgrow4 (own_ne1 ho1 ho3 (Nat.le_refl _))
          go_roundg g
          case measure => omega
          case rel => exact ⟨m + 1, _, _, _, _, _, by omega, rfl, by go_num, rfl, ho4, hx4, hr3.keep hB4 hRw1, by have := Hpp.out; omega, gb hg3' (hB4.mono hz1s), Nat.le_trans hs3 hB4.size⟩
      · have hxp : 0 < nth xs m := by omega
        have hy0 : 0 ≤ nth xs m % 16 := by omega
        have hy16 : nth xs m % 16 < 16 := by omega
        go_wp2_with fail
        refine (pick_c R p' _ _ hrr (by omega) (by omega)).mono ?_
        rintro e w3 ⟨⟨z, rfl, hz0', hz1'⟩, hr3, hg3⟩
        have ho3 := hor.kept hg3 (OwnI.ne_block hor (by omega))
        have hx3 := hxr.kept hg3 (OwnI.ne_block hxr hR)
        have hg3' := grown_trans hgr hg3
        have hg3z := hg3'.size
        have hs3 : w1.heap.size ≤ w3.heap.size := Nat.le_trans hsz hg3.size
        go_wp2_with (at_builtin; refine wpList_append_own _ rfl _ _ 23 rfl w1.heap.size 3 i0 (.int .i64 0) 1 8 Try.underlying23 hi hz0 hz1 hz2 rfl (by decide) _ _ _ rfl (ho3.2.alloc _) ⟨_, 0, none⟩ 1 1 [.int .i64 _] rfl rfl (cell_one_new _ _ _) (by simp [Value.oneCell']) (by unfold maxLen; omega) (by omega) (by simp; omega) ?_; intro v' w4 hown4 hgrow4 _)
        obtain ⟨g', cap', rfl, ho4, hg4, hg4'⟩ := OwnI.appended ho3.1 hown4
        have hB4 := own_below ho3 hs3 hgrow4
        have hx4 : OwnI w4 w.heap.size (some ad) n c xs := (hx3.alloc _).kept hgrow4 (own_ne1 ho1 ho3 (Nat.le_refl _))
        go_roundg g
        case measure => omega
        case rel => exact ⟨m + 1, _, _, _, _, _, by omega, rfl, by go_num, rfl, ho4, hx4, hr3.keep hB4 hRw1, by have := Hpp.out; omega, gb hg3' (hB4.mono hz1s), Nat.le_trans hs3 hB4.size⟩
    · obtain rfl : k = n := by omega
      subst hmk
      go_wp2_with fail
      refine (odd_c R _ _ _ hrr (by omega) (by omega) (by omega)).mono ?_
      rintro e wA ⟨⟨z, rfl⟩, hrA, hgA⟩
      have hoA := hor.kept hgA (OwnI.ne_block hor (by omega))
      have hxA := hxr.kept hgA (OwnI.ne_block hxr hR)
      have hgA' := grown_trans hgr hgA
      have hsA : w1.heap.size ≤ wA.heap.size := Nat.le_trans hsz hgA.size
      cases z with
      | false =>
        go_wp2
        go_ret2
        exact ⟨⟨_, _, _, _, _, _, _, _, rfl, hn3, by omega, hxA, hoA.mono hz1s⟩, hgA'⟩
      | true =>
        go_wp2_with (at_builtin; refine wpList_append_own _ rfl _ _ 23 rfl w1.heap.size 3 i0 (.int .i64 0) 1 8 Try.underlying23 hi hz0 hz1 hz2 rfl (by decide) _ _ _ rfl (hoA.2.alloc _) ⟨_, 0, none⟩ 1 1 [.int .i64 _] rfl rfl (cell_one_new _ _ _) (by simp [Value.oneCell']) (by unfold maxLen; omega) (by omega) (by simp; omega) ?_; intro v' w4 hown4 hgrow4 _)
        obtain ⟨g', cap', rfl, ho4, hg4, hg4'⟩ := OwnI.appended hoA.1 hown4
        have hB4 := own_below hoA hsA hgrow4
        have hx4 : OwnI w4 w.heap.size A m c xs := (hxA.alloc _).kept hgrow4 (own_ne1 ho1 hoA (Nat.le_refl _))
        go_ret2
        exact ⟨⟨_, _, _, _, _, _, _, _, rfl, hn3, by omega, hx4, ho4.mono hz1s⟩, gb hgA' (hB4.mono hz1s)⟩

end Go.Proofs.Ytdpbjepjiloeaaa
