/- The draws of words. -/
import Derived.Test.YtebjhdipdffkgaaSPick
import Derived.Test.YtebjhdipdffkgaaDraw
import Derived.Deep.RegionWith
import Derived.Deep.Cut
import Derived.Deep.CutRange
namespace Go.Proofs.Ytebjhdipdffkgaa
open Go Go.RowKit
open M (nth)

theorem M.okP_nil (f n : Nat) : M.okP f [] n = true := by simp [M.okP]
theorem M.pk_pos (f : Nat) : ∀ n, 1 ≤ (M.pk f (n + 1)).length
  | 0 => by rw [M.pk_yes (by simp [M.pk, M.okP_nil])]; simp
  | n + 1 => by
    have := M.pk_pos f n
    cases h : M.okP f (M.pk f (n + 1)) (n + 1) with
    | false => rw [M.pk_no h]; exact this
    | true => rw [M.pk_yes h]; simp
theorem M.picked_pos {b f : Int} (h1 : M.inB b 1 8 = true) (h2 : M.inB f 1 b = true) : 1 ≤ (M.picked b f).length := by
  unfold M.picked
  simp only [h1, h2, Bool.and_self, if_true]
  have := Nat.one_le_two_pow (n := b.toNat)
  obtain ⟨k, hk⟩ : ∃ k, 2 ^ b.toNat = k + 1 := ⟨2 ^ b.toNat - 1, by omega⟩
  rw [hk]
  exact M.pk_pos _ _
theorem M.picked_le (b f : Int) : (M.picked b f).length ≤ 16 := by
  unfold M.picked
  split
  · exact M.pk_len _ _
  · simp
theorem grown_row_of_below {a w : World} (h : Below a.heap.size a w) (row : Option Nat) : a.grownBy w row := ⟨h.os, h.tape, h.output, h.size, fun i hi _ => h.block i hi⟩
theorem grown_drewL {a w : World} {row : Option Nat} (h : a.drew.grownBy w row) : a.grownBy w row := ⟨h.os, h.tape, h.output, h.size, h.block⟩
theorem grown_quiet_row {a w w' : World} {row : Option Nat} (h : a.grownBy w row) (hq : Quiet w w') : a.grownBy w' row := by
  obtain ⟨m, rfl⟩ := hq
  exact only_drewN h m

set_option maxHeartbeats 1000000 in
theorem l20Words_c (R p : Nat) (m : Int) (w : World) (h : Rdr w R p) (hp : p ≤ 1000) (hm0 : 0 < m) (hm : m ≤ 100) :
    Calls Try.prog 54 #[.pointer (some ⟨R, 0, none⟩), .int .i64 m] w fun e w' =>
      (∃ (b : Nat) (A : Option Addr) (n c : Nat) (xs : List Int) (p' : Nat), e = .returned (.tuple #[.int .i64 b, .slice A n c]) ∧ 1 ≤ b ∧ b ≤ 8 ∧ n ≤ 40 ∧ OwnI w' w.heap.size A n c xs ∧ Rdr w' R p' ∧ p' ≤ p + 200) ∧ w.grownBy w' (some R) := by
  obtain ⟨i0, hi, hz0, hz1, hz2⟩ := info_parts Try.infoInt
  have hR := h.lt
  go_enter Try.func54, Try.ntmps54
  go_wp2_with fail
  refine (pick_c R p _ _ h (by omega) (by omega)).mono ?_
  rintro e w1 ⟨⟨x, rfl, hx0, hx1⟩, hr1, hg1⟩
  obtain ⟨b, hb⟩ : ∃ b : Nat, 1 + x = (b : Int) := ⟨(1 + x).toNat, by omega⟩
  have hb1 : 1 ≤ b := by omega
  have hb8 : b ≤ 8 := by omega
  have hw2 : wrap64 ((2 : Int) ^ b) = 2 ^ b := M.wrap_pow b (by omega)
  have h1z := hg1.size
  go_wp2_with fail
  have ho0 := ownI_lit0 w1 w.heap.size h1z
  refine (pick_c R _ _ _ (hr1.alloc _) (by omega) (by omega)).mono ?_
  rintro e w2 ⟨⟨x2, rfl, hy0, hy1⟩, hr2, hg2⟩
  obtain ⟨k0, hk0⟩ : ∃ k0 : Nat, 1 + x2 = (k0 : Int) := ⟨(1 + x2).toNat, by omega⟩
  have hg2' : w.grownBy w2 (some R) := grown_trans (grown_trans hg1 (World.grownBy_alloc w1 _ (some R))) hg2
  have ho2 := ho0.kept hg2 (.inr (by simp [Value.ownBlock]; omega))
  clear ho0 hr1 hg1 hg2
  go_wp2_with fail
  have hk1 : 1 ≤ k0 := by omega
  have hk6 : k0 ≤ 6 := by omega
  clear hb hk0 hx0 hx1 hy0 hy1
  obtain ⟨M0, hM0⟩ : ∃ M0 : Nat, M0 = 2 ^ b := ⟨_, rfl⟩
  have eM : ((2 : Int) ^ b) = (M0 : Int) := by rw [hM0]; simp
  have hM1 : ¬ (M0 : Int) = 0 := by have := Nat.one_le_two_pow (n := b); omega
  have hw2' : IntKind.i64.wrap ((2 : Int) ^ b) = (M0 : Int) := by
    rw [← eM]
    have h8 := M.pow8 hb8
    have := M.nat_pow b
    rw [IntKind.wrap_i64]
    omega
  have HM := Lib.hid hM0
  clear hM0 eM
  have Hw := Lib.hid hw2'
  clear hw2'
  go_loopg [7, 8] k0 (fun k v i wr => ∃ (A : Option Addr) (n c : Nat) (xs : List Int) (p' : Nat), n + k ≤ 6 ∧ (n = 0 → 1 ≤ k) ∧ i = .int .i64 k ∧ v = .slice A n c ∧ OwnI wr w.heap.size A n c xs ∧ Rdr wr R p' ∧ p' + k ≤ p + 10 ∧ w.grownBy wr (some R))
  case atStart => exact ⟨_, _, _, [], p + 1 + 1, by omega, fun _ => hk1, rfl, rfl, ho2, hr2, by omega, hg2'⟩
  case round =>
    obtain ⟨A, n, c, xs, p', hnk, hn0, rfl, rfl, hor, hrr, hpp, hgr⟩ := hrel
    clear ho2 hr2 hg2'
    have Hn0 := Lib.hid hn0
    have hgz := hgr.size
    have hbig := hor.rd.big
    clear hn0
    by_cases hlt : 0 < gk
    · obtain ⟨k, rfl⟩ : ∃ k, gk = k + 1 := ⟨gk - 1, by omega⟩
      go_upto_region 6 with fail
      go_cut [9] from 19 to 48 (fun v wc => ∃ y : Int, v = .int .i64 y ∧ Rdr wc R (p' + 1) ∧ wr.grownBy wc (some R))
      case first =>
        have e1 := Hw.out
        have hrD : Rdr wr.drew R p' := hrr.quiet ⟨1, rfl⟩
        go_region_with (go_at_call 49; refine (pick_c R p' _ _ (by assumption) (by omega) (by omega)).mono ?_; rintro e w' ⟨⟨x, rfl, -, -⟩, hrd, hgr'⟩)
        all_goals
          go_wp2_with fail
          go_meet
          case rel => exact ⟨_, rfl, hrd, grown_drewL hgr'⟩
      case rest =>
      obtain ⟨y, rfl, hr3, hg3⟩ := hcut
      have ho3 := hor.kept hg3 (OwnI.ne_block hor (by omega))
      have hg3' := grown_trans hgr hg3
      have hg3z := hg3'.size
      go_wp2_with fail
      go_loopw [10, 11] (fun s i wy => ∃ (t : Bool) (j : Nat), j ≤ n ∧ s = .bool t ∧ i = .int .i64 j ∧ Hid (t = true → 0 < n) ∧ Quiet wc wy) (fun _ i _ => n - (intOf i).toNat)
      case atStart => exact ⟨false, 0, Nat.zero_le _, rfl, rfl, Lib.hid (fun h => by cases h), Quiet.refl _⟩
      case round =>
        obtain ⟨t, j, hj, rfl, rfl, Ht, hq⟩ := hrel
        by_cases hjn : j < n
        · obtain ⟨ad, rfl, _, hcell⟩ := (ho3.quiet hq).rd.at_ hjn
          cases t with
          | true =>
            go_wp2_with fail
            try go_quiet (fail)
            go_wp2
            go_roundw
            case rel => exact ⟨_, j + 1, by omega, rfl, by go_num, Lib.hid (fun _ => by omega), by first | exact hq | exact hq.drewN _⟩
            case measure => simp [intOf]; omega
          | false =>
            go_wp2_with fail
            try go_quiet (fail)
            go_wp2
            go_roundw
            case rel => exact ⟨_, j + 1, by omega, rfl, by go_num, Lib.hid (fun _ => by omega), by first | exact hq | exact hq.drewN _⟩
            case measure => simp [intOf]; omega
        · obtain rfl : j = n := by omega
          have hoy := ho3.quiet hq
          have hry := hr3.quiet hq
          have hgy := grown_quiet_row hg3' hq
          have hyz := hgy.size
          cases t with
          | true =>
            have hn1 := Ht.out rfl
            go_wp2
            go_roundg k
            case measure => omega
            case rel => exact ⟨_, _, _, xs, _, by omega, fun h => by omega, by go_num, rfl, hoy, hry, by omega, hgy⟩
          | false =>
            go_wp2_with (at_builtin; refine wpList_append_own _ rfl _ _ 28 rfl w.heap.size 3 i0 (.int .i64 0) 1 8 Try.underlying28 hi hz0 hz1 hz2 rfl (by decide) _ _ _ rfl (hoy.2.alloc _) ⟨_, 0, none⟩ 1 1 [.int .i64 _] rfl rfl (cell_one_new _ _ _) (by simp [Value.oneCell']) (by unfold maxLen; omega) (by omega) (by simp; omega) ?_; intro v' w4 hown4 hgrow4 _)
            obtain ⟨g', cap', rfl, ho4, hg4, hg4'⟩ := OwnI.appended hoy.1 hown4
            have hB4 : Below w.heap.size _ w4 := ((Below.refl _ _).alloc (by omega) _).grown hgrow4 (by simp; omega) (fun j hj => by
              cases A with
              | none => cases hj
              | some ad => cases hj; exact hoy.lt.1)
            go_roundg k
            case measure => omega
            case rel => exact ⟨_, _, _, _, _, by omega, fun h => by omega, by go_num, rfl, ho4, hry.keep hB4 hR, by omega, gb hgy hB4⟩
    · obtain rfl : gk = 0 := by omega
      have hn1 : 1 ≤ n := by
        refine Nat.lt_of_not_le fun h => ?_
        have := Hn0.out (by omega)
        omega
      go_wp2_with fail
      refine (pick_c R p' _ _ hrr (by omega) (by omega)).mono ?_
      rintro e w3 ⟨⟨y, rfl, hy0, hy1⟩, hr3, hg3⟩
      have ho3 := hor.kept hg3 (OwnI.ne_block hor (by omega))
      have hg3' := grown_trans hgr hg3
      have hg3z := hg3'.size
      clear hor hrr hgr hg3 hgz
      by_cases hy : y = 0
      · subst hy
        go_wp2_with fail
        refine (pick_c R _ _ _ hr3 (by omega) (by omega)).mono ?_
        rintro e w4 ⟨⟨y2, rfl, hy20, hy21⟩, hr4, hg4⟩
        have hg4' := grown_trans hg3' hg4
        have hg4z := hg4'.size
        go_wp2_with fail
        refine (sWordsPicked_c b (1 + y2) _).mono ?_
        rintro e w5 ⟨A5, n5, c5, rfl, ho5, hb5⟩
        have hn5 : n5 ≤ 16 := by have := ho5.1; have := M.picked_le (b : Int) (1 + y2); omega
        have hn51 : 1 ≤ n5 := by have := ho5.1; have := M.picked_pos (b := (b : Int)) (f := 1 + y2) (M.inB_true.2 (by omega)) (M.inB_true.2 (by omega)); omega
        have hoT := ho5.mono hg4z
        have hrT := hr4.keep hb5 hr4.lt
        have hgT := grown_trans hg4' (grown_row_of_below hb5 (some R))
        have hTz := hgT.size
        clear ho3 ho5 hr3 hr4 hg3' hg4 hg4' hb5
        go_wp2_with fail
        refine (odd_c R _ _ _ hrT (by omega) hm0 (by omega)).mono ?_
        rintro e wA ⟨⟨z, rfl⟩, hrA, hgA⟩
        have hoA := hoT.kept hgA (OwnI.ne_block hoT (by omega))
        have hgA' := grown_trans hgT hgA
        have hAz := hgA'.size
        cases z with
        | false =>
          go_wp2
          go_ret2
          exact ⟨⟨_, _, _, _, _, _, rfl, by omega, by omega, by omega, hoA, hrA, by omega⟩, hgA'⟩
        | true =>
          go_wp2_with fail
          refine (pick_c R _ _ _ hrA (by omega) (by omega)).mono ?_
          rintro e wB ⟨⟨z, rfl, hz0', hz1'⟩, hrB, hgB⟩
          have hoB := hoA.kept hgB (OwnI.ne_block hoA (by omega))
          have hgB' := grown_trans hgA' hgB
          have hBz := hgB'.size
          by_cases hzz : z = 0
          · subst hzz
            have hlit := ownI_lit0 wB w.heap.size hBz
            go_wp2
            go_ret2
            exact ⟨⟨_, _, _, _, _, _, rfl, by omega, by omega, by omega, hlit, hrB.alloc _, by omega⟩, grown_trans hgB' (World.grownBy_alloc wB _ _)⟩
          · have z0 : (z == 0) = false := by simpa using hzz
            obtain ⟨gB, eA, hgB0, hgB1⟩ := hoB.at0 (by omega)
            subst eA
            have hc0 := hoB.cell (k := 0) (by omega)
            have hf0 := hoB.free 0
            by_cases hz2' : z = 1
            · subst hz2'
              go_wp2_with (at_builtin; refine wpList_append_own _ rfl _ _ 28 rfl w.heap.size 3 i0 (.int .i64 0) 1 8 Try.underlying28 hi hz0 hz1 hz2 rfl (by decide) _ _ _ rfl (hoB.2.alloc _) ⟨_, 0, none⟩ 1 1 [.int .i64 _] rfl rfl (cell_one_new _ _ _) (by simp [Value.oneCell']) (by unfold maxLen; omega) (by omega) (by simp; omega) ?_; intro v' w9 hown9 hgrow9 _)
              obtain ⟨g', cap', rfl, ho9, hg9, hg9'⟩ := OwnI.appended hoB.1 hown9
              have hB9 : Below w.heap.size wB w9 := ((Below.refl _ wB).alloc (by omega) _).grown hgrow9 (by simp; omega) (fun j hj => by cases hj; exact hgB0)
              go_ret2
              exact ⟨⟨_, _, _, _, _, _, rfl, by omega, by omega, by omega, ho9, hrB.keep hB9 hR, by omega⟩, gb hgB' hB9⟩
            · have z1 : (z == 1) = false := by simpa using hz2'
              go_wp2
              go_ret2
              have hst := hoB.stored 0 (2 ^ b)
              have hB9 : Below w.heap.size wB (wB.setCell ⟨gB, 0, none⟩ (.int .i64 (2 ^ b))) := (Below.refl _ wB).setCell (p := ⟨gB, 0, none⟩) hgB0 _
              exact ⟨⟨_, _, _, _, _, _, rfl, by omega, by omega, by omega, hst.1, hrB.keep hB9 hR, by omega⟩, gb hgB' hB9⟩
      · have hyb : (y == 0) = false := by simpa using hy
        clear hy
        have hoT := ho3
        have hrT := hr3
        have hgT := hg3'
        clear ho3 hr3 hg3'
        go_wp2_with fail
        refine (odd_c R _ _ _ hrT (by omega) hm0 (by omega)).mono ?_
        rintro e wA ⟨⟨z, rfl⟩, hrA, hgA⟩
        have hoA := hoT.kept hgA (OwnI.ne_block hoT (by omega))
        have hgA' := grown_trans hgT hgA
        have hAz := hgA'.size
        cases z with
        | false =>
          go_wp2
          go_ret2
          exact ⟨⟨_, _, _, _, _, _, rfl, by omega, by omega, by omega, hoA, hrA, by omega⟩, hgA'⟩
        | true =>
          go_wp2_with fail
          refine (pick_c R _ _ _ hrA (by omega) (by omega)).mono ?_
          rintro e wB ⟨⟨z, rfl, hz0', hz1'⟩, hrB, hgB⟩
          have hoB := hoA.kept hgB (OwnI.ne_block hoA (by omega))
          have hgB' := grown_trans hgA' hgB
          have hBz := hgB'.size
          by_cases hzz : z = 0
          · subst hzz
            have hlit := ownI_lit0 wB w.heap.size hBz
            go_wp2
            go_ret2
            exact ⟨⟨_, _, _, _, _, _, rfl, by omega, by omega, by omega, hlit, hrB.alloc _, by omega⟩, grown_trans hgB' (World.grownBy_alloc wB _ _)⟩
          · have z0 : (z == 0) = false := by simpa using hzz
            obtain ⟨gB, eA, hgB0, hgB1⟩ := hoB.at0 (by omega)
            subst eA
            have hc0 := hoB.cell (k := 0) (by omega)
            have hf0 := hoB.free 0
            by_cases hz2' : z = 1
            · subst hz2'
              go_wp2_with (at_builtin; refine wpList_append_own _ rfl _ _ 28 rfl w.heap.size 3 i0 (.int .i64 0) 1 8 Try.underlying28 hi hz0 hz1 hz2 rfl (by decide) _ _ _ rfl (hoB.2.alloc _) ⟨_, 0, none⟩ 1 1 [.int .i64 _] rfl rfl (cell_one_new _ _ _) (by simp [Value.oneCell']) (by unfold maxLen; omega) (by omega) (by simp; omega) ?_; intro v' w9 hown9 hgrow9 _)
              obtain ⟨g', cap', rfl, ho9, hg9, hg9'⟩ := OwnI.appended hoB.1 hown9
              have hB9 : Below w.heap.size wB w9 := ((Below.refl _ wB).alloc (by omega) _).grown hgrow9 (by simp; omega) (fun j hj => by cases hj; exact hgB0)
              go_ret2
              exact ⟨⟨_, _, _, _, _, _, rfl, by omega, by omega, by omega, ho9, hrB.keep hB9 hR, by omega⟩, gb hgB' hB9⟩
            · have z1 : (z == 1) = false := by simpa using hz2'
              go_wp2
              go_ret2
              have hst := hoB.stored 0 (2 ^ b)
              have hB9 : Below w.heap.size wB (wB.setCell ⟨gB, 0, none⟩ (.int .i64 (2 ^ b))) := (Below.refl _ wB).setCell (p := ⟨gB, 0, none⟩) hgB0 _
              exact ⟨⟨_, _, _, _, _, _, rfl, by omega, by omega, by omega, hst.1, hrB.keep hB9 hR, by omega⟩, gb hgB' hB9⟩

theorem two_picks {w w2 a b : World} {R B n cp : Nat} {A : Option Addr} {xs : List Int} {C : Prop} (hb : Below R w w2) (ho : OwnI w2 B A n cp xs) (hB : R < B)
    (g1 : w2.drew.grownBy a (some R)) (g2 : a.grownBy b (some R)) (h : OwnI b B A n cp xs → Below R w b → C) (hl : R ≤ w2.heap.size := by first | assumption | omega) : C :=
  h (((ho.drew).kept g1 (ho.ne_block hB)).kept g2 (ho.ne_block hB))
    ((hb.drew.grown g1 hl (fun k e => by cases e; exact Nat.le_refl _)).grown g2 (Nat.le_trans hl g1.size) (fun k e => by cases e; exact Nat.le_refl _))
theorem below_row {w w1 w2 : World} (h : Below w.heap.size w w1) (hg : w1.grownBy w2 (some w.heap.size)) : Below w.heap.size w w2 := h.grown hg h.size (fun k e => by cases e; exact Nat.le_refl _)
set_option maxHeartbeats 400000 in
theorem DrawWordsOk_c (A : Option Addr) (n c : Nat) (w : World) (h : RdY w A n c) : Calls Try.prog 39 #[.slice A n c] w fun e w' => (∃ (b : Nat) (A' : Option Addr) (m c' : Nat) (xs : List Int), e = .returned (.tuple #[.int .i64 b, .slice A' m c']) ∧ 1 ≤ b ∧ b ≤ 8 ∧ m ≤ 40 ∧ OwnI w' w.heap.size A' m c' xs) ∧ Below w.heap.size w w' := by
  go_enter Try.func39, Try.ntmps39
  go_wp2_with fail
  refine (l20Open_c A n c _ h).mono ?_
  rintro e w1 ⟨rfl, hr, hb⟩
  go_wp2_with fail
  refine (l20Words_c w.heap.size 0 3 _ hr (by omega) (by omega) (by omega)).mono ?_
  rintro e w2 ⟨⟨b, A', m, c', xs, p', rfl, hb1, hb8, hm, ho, hr2, hp2⟩, hg⟩
  go_wp2
  go_ret2
  exact ⟨⟨_, _, _, _, xs, rfl, hb1, hb8, hm, ho.mono hb.size⟩, below_row hb hg⟩
set_option maxHeartbeats 400000 in
theorem DrawLeastFar_c (A : Option Addr) (n c : Nat) (w : World) (h : RdY w A n c) : Calls Try.prog 41 #[.slice A n c] w fun e w' => (∃ (b : Nat) (A' : Option Addr) (m c' : Nat) (xs : List Int), e = .returned (.tuple #[.int .i64 b, .slice A' m c']) ∧ 1 ≤ b ∧ b ≤ 8 ∧ m ≤ 40 ∧ OwnI w' w.heap.size A' m c' xs) ∧ Below w.heap.size w w' := by
  go_enter Try.func41, Try.ntmps41
  go_wp2_with fail
  refine (l20Open_c A n c _ h).mono ?_
  rintro e w1 ⟨rfl, hr, hb⟩
  go_wp2_with fail
  refine (l20Words_c w.heap.size 0 9 _ hr (by omega) (by omega) (by omega)).mono ?_
  rintro e w2 ⟨⟨b, A', m, c', xs, p', rfl, hb1, hb8, hm, ho, hr2, hp2⟩, hg⟩
  go_wp2
  go_ret2
  exact ⟨⟨_, _, _, _, xs, rfl, hb1, hb8, hm, ho.mono hb.size⟩, below_row hb hg⟩
set_option maxHeartbeats 400000 in
theorem DrawNearestOf_c (A : Option Addr) (n c : Nat) (w : World) (h : RdY w A n c) : Calls Try.prog 29 #[.slice A n c] w fun e w' => (∃ (b : Nat) (A' : Option Addr) (m c' : Nat) (xs : List Int) (y : Int), e = .returned (.tuple #[.int .i64 b, .slice A' m c', .int .i64 y]) ∧ 1 ≤ b ∧ b ≤ 8 ∧ m ≤ 40 ∧ OwnI w' w.heap.size A' m c' xs) ∧ Below w.heap.size w w' := by
  go_enter Try.func29, Try.ntmps29
  go_wp2_with fail
  refine (l20Open_c A n c _ h).mono ?_
  rintro e w1 ⟨rfl, hr, hb⟩
  go_wp2_with fail
  refine (l20Words_c w.heap.size 0 12 _ hr (by omega) (by omega) (by omega)).mono ?_
  rintro e w2 ⟨⟨b, A', m, c', xs, p', rfl, hb1, hb8, hm, ho, hr2, hp2⟩, hg⟩
  have b2 := below_row hb hg
  have z2 := b2.size
  have z1 := hb.size
  have hlt := hr.lt
  have ho2 := ho.mono hb.size
  have e1 : IntKind.i64.wrap ((2 : Int) ^ b) = ((2 ^ b : Nat) : Int) := by
    have h8 := M.pow8 hb8
    have := M.nat_pow b
    have := M.two_pow_pos b
    rw [IntKind.wrap_i64]
    omega
  have hd : ¬ ((2 ^ b : Nat) : Int) = 0 := by have := Nat.one_le_two_pow (n := b); omega
  generalize ((2 ^ b : Nat) : Int) = d at *
  have hrD : Rdr w2.drew w.heap.size p' := hr2.quiet ⟨1, rfl⟩
  go_wp2_with fail
  go_region_with (go_at_call 49; refine (pick_c w.heap.size _ _ _ (by assumption) (by omega) (by omega)).mono ?_; rintro e w' ⟨⟨x, rfl, -, -⟩, hrd, hgr'⟩)
  all_goals
    refine two_picks (R := w.heap.size) b2 ho hlt (by assumption) (by assumption) ?_ z2
    intro ho5 hb5
    go_wp2
    refine bodyPost_ret (v := .tuple #[_, _, _]) (by simp [results, Try.results29, go_sem]; exact ⟨rfl, rfl, rfl⟩) rfl ?_
    exact ⟨⟨_, _, _, _, xs, _, rfl, hb1, hb8, hm, ho5.mono hb.size⟩, hb5⟩
set_option maxHeartbeats 400000 in
theorem DrawSurePast_c (A : Option Addr) (n c : Nat) (w : World) (h : RdY w A n c) : Calls Try.prog 33 #[.slice A n c] w fun e w' => (∃ (b : Nat) (A' : Option Addr) (m c' : Nat) (xs : List Int) (y : Int), e = .returned (.tuple #[.int .i64 b, .slice A' m c', .int .i64 y]) ∧ 1 ≤ b ∧ b ≤ 8 ∧ m ≤ 40 ∧ OwnI w' w.heap.size A' m c' xs) ∧ Below w.heap.size w w' := by
  go_enter Try.func33, Try.ntmps33
  go_wp2_with fail
  refine (l20Open_c A n c _ h).mono ?_
  rintro e w1 ⟨rfl, hr, hb⟩
  go_wp2_with fail
  refine (l20Words_c w.heap.size 0 12 _ hr (by omega) (by omega) (by omega)).mono ?_
  rintro e w2 ⟨⟨b, A', m, c', xs, p', rfl, hb1, hb8, hm, ho, hr2, hp2⟩, hg⟩
  have b2 := below_row hb hg
  have z2 := b2.size
  have z1 := hb.size
  have hlt := hr.lt
  have ho2 := ho.mono hb.size
  go_wp2_with fail
  refine (pick_c w.heap.size _ 4 _ hr2 (by omega) (by omega)).mono ?_
  rintro e w3 ⟨⟨y, rfl, hy0, hy1⟩, hr3, hg3⟩
  have b3 := below_row b2 hg3
  have ho3 := ho2.kept hg3 (OwnI.ne_block ho hlt)
  go_wp2_with fail
  refine (pick_c w.heap.size _ 20 _ hr3 (by omega) (by omega)).mono ?_
  rintro e w4 ⟨⟨y2, rfl, hy20, hy21⟩, hr4, hg4⟩
  have b4 := below_row b3 hg4
  have ho4 := ho3.kept hg4 (OwnI.ne_block ho hlt)
  go_wp2
  go_ret3
  exact ⟨⟨_, _, _, _, xs, _, rfl, hb1, hb8, hm, ho4⟩, b4⟩

set_option maxHeartbeats 400000 in
theorem DrawWordsPicked_c (A : Option Addr) (n c : Nat) (w : World) (h : RdY w A n c) : Calls Try.prog 42 #[.slice A n c] w fun e w' => (∃ a b : Int, e = .returned (.tuple #[.int .i64 a, .int .i64 b])) ∧ Below w.heap.size w w' := by
  go_enter Try.func42, Try.ntmps42
  go_wp2_with fail
  refine (l20Open_c A n c _ h).mono ?_
  rintro e w1 ⟨rfl, hr, hb⟩
  go_wp2_with fail
  refine (pick_c w.heap.size 0 _ _ hr (by omega) (by omega)).mono ?_
  rintro e w2 ⟨⟨x1, rfl, h1, h1'⟩, hr1, hg1⟩
  go_wp2_with fail
  refine (pick_c w.heap.size _ _ _ hr1 (by omega) (by omega)).mono ?_
  rintro e w3 ⟨⟨x2, rfl, h2, h2'⟩, hr2, hg2⟩
  go_wp2
  go_ret2
  exact ⟨⟨_, _, rfl⟩, below_row (below_row hb hg1) hg2⟩

end Go.Proofs.Ytebjhdipdffkgaa
