/- The walk of the law on NearestOf. -/
import Derived.Test.YtebjhdipdffkgaaWordL6
namespace Go.Proofs.Ytebjhdipdffkgaa
open Go Go.RowKit
open M (nth)

theorem M.near_law {q : Nat} {xs : List Int} {a : Nat} {k x y : Nat} (hk : k < xs.length) (ex : nth xs k = (x : Int)) (ey : nth xs (M.nearK xs a xs.length) = (y : Int)) (h3 : 3 ≤ M.lall q xs xs.length) (h1 : M.farN x a ≤ 1) : k = M.nearK xs a xs.length := by
  have hmin := M.near_min (xs := xs) (a := a) xs.length k hk
  have hin : M.nearK xs a xs.length < xs.length := by
    have := M.near_lt (xs := xs) (a := a) xs.length
    omega
  rw [ex, ey] at hmin
  simp only [Int.toNat_natCast] at hmin
  have htri := M.far_tri x y a
  rw [M.far_comm a y] at htri
  have hd := (M.lall_iff.1 h3).2
  rcases Nat.lt_trichotomy k (M.nearK xs a xs.length) with hlt | heq | hgt
  · have := hd _ hin k hlt
    rw [ex, ey] at this
    simp only [Int.toNat_natCast] at this
    rw [M.far_comm] at this
    omega
  · exact heq
  · have := hd k hk _ hgt
    rw [ex, ey] at this
    simp only [Int.toNat_natCast] at this
    omega

set_option maxHeartbeats 4000000 in
theorem FnNearestOf_w (w : World) (A : Option Addr) (n c : Nat) (h : RdY w A n c) :
    Calls Try.prog 8 #[.slice A n c] w fun e w' => e = .returned (.bool true) ∧ Below w.heap.size w w' := by
  have hbig := h.big
  by_cases hn : 1048576 < n
  · go_enter Try.func8, Try.ntmps8
    go_wp2
    go_ret
    exact ⟨rfl, Below.refl _ _⟩
  · go_enter Try.func8, Try.ntmps8
    go_wp2_with fail
    refine (DrawNearestOf_c A n c _ h).mono ?_
    rintro e w1 ⟨⟨b, A', m, c', xs, y, rfl, hb1, hb8, hm, ho⟩, hbel⟩
    have hcap := own_cap ho
    have hlen := ho.1
    go_wp2_with fail
    refine (iNearestOf_c A' m c' xs b y _ ho.rd (by omega)).mono ?_
    rintro e w2 ⟨rfl, hb2⟩
    have b2 := bt hbel hb2
    go_wp2_with fail
    refine (sNearestOf_c A' m c' xs b y _ (ho.below hb2).rd).mono ?_
    rintro e w3 ⟨rfl, hq3⟩
    have b3 := Below.quiet b2 hq3
    have ho3 := (ho.below hb2).quiet hq3
    cases hok : M.wokB (b : Int) xs with
    | false =>
      rw [M.nearF_no1 hok]
      go_wp2_with fail
      refine (alive_c _).mono ?_
      rintro e w' ⟨rfl, rfl⟩
      go_wp2
      go_ret
      exact ⟨rfl, b3⟩
    | true =>
      cases ha : M.inB y 0 (2 ^ b - 1) with
      | false =>
        rw [M.nearF_no2 ha]
        go_wp2_with fail
        refine (alive_c _).mono ?_
        rintro e w' ⟨rfl, rfl⟩
        go_wp2
        go_ret
        exact ⟨rfl, b3⟩
      | true =>
        obtain ⟨a, rfl, ha'⟩ := M.inB_word ha
        have ha256 : a < 256 := Nat.lt_of_lt_of_le ha' (M.pow8 hb8)
        have Hwn := M.wok_hid hok hlen
        have hm1 : 1 ≤ m := by
          obtain ⟨_, _, _, _, l1, _⟩ := M.wok_parts hok
          omega
        have hbn : M.nearK xs a m < m := by
          have := M.near_lt (xs := xs) (a := a) m
          omega
        have Hlaw := Lib.hid fun (k x y : Nat) (hk : k < xs.length) => M.near_law (q := b) (a := a) (x := x) (y := y) hk
        have Hmin := Lib.hid fun (k : Nat) => M.near_min (xs := xs) (a := a) m k
        have Hlo := Lib.hid (M.least_ok hok)
        rw [M.nearF_ok hok ha]
        rw [hlen] at Hlaw Hlo ⊢
        clear hok ha
        obtain ⟨yb, ey, hy'⟩ := Hwn.out _ hbn
        have Ey := Lib.hid ey
        clear ey
        generalize M.nearK xs a m = best at *
        generalize M.lall b xs m = L at *
        go_wp2_with fail
        refine (iLeastFar_c A' m c' xs b _ ho3.rd (by omega) hcap).mono ?_
        rintro e w4 ⟨rfl, hb4⟩
        rw [Hlo.out]
        have ho4 := ho3.below hb4
        have b4 := bt b3 hb4
        go_wp2_with fail
        go_loopg [8] m (fun g i wr => ∃ k : Nat, k + g = m ∧ i = .int .i64 k ∧ Quiet w4 wr)
        case atStart => exact ⟨0, by omega, rfl, Quiet.refl _⟩
        case round =>
          obtain ⟨k, hk, rfl, hq⟩ := hrel
          by_cases hlt : k < m
          · obtain ⟨g, rfl⟩ : ∃ g, gk = g + 1 := ⟨gk - 1, by omega⟩
            obtain ⟨x, ex, hx⟩ := Hwn.out k hlt
            obtain ⟨ad, rfl, _, hcell⟩ := (ho4.quiet hq).rd.at_ hlt
            obtain ⟨ad', e', _, hcell'⟩ := (ho4.quiet hq).rd.at_ hbn
            obtain rfl := Option.some.inj e'
            clear e'
            have hmin := Hmin.out k hlt
            have hlaw := fun h3 h1 => Hlaw.out k x yb hlt ex Ey.out h3 h1
            rw [ex, Ey.out] at hmin
            rw [ex] at hcell
            rw [Ey.out] at hcell'
            simp only [Int.toNat_natCast] at hmin
            clear ex
            have hf1 : ∀ m, Calls Try.prog 23 #[.int .i64 x, .int .i64 a] (wr.drewN m) fun e w' => e = .returned (.int .i64 (M.farN x a : Nat)) ∧ wr.drewN m = w' := fun m => by
              have := iFarOf_c x a (wr.drewN m)
              rw [M.farOf_ok hx ha256] at this
              exact this.mono fun _ _ h => ⟨h.1, h.2.symm⟩
            have hf2 : ∀ m, Calls Try.prog 23 #[.int .i64 yb, .int .i64 a] (wr.drewN m) fun e w' => e = .returned (.int .i64 (M.farN yb a : Nat)) ∧ wr.drewN m = w' := fun m => by
              have := iFarOf_c yb a (wr.drewN m)
              rw [M.farOf_ok hy' ha256] at this
              exact this.mono fun _ _ h => ⟨h.1, h.2.symm⟩
            generalize M.farN x a = fx at *
            generalize M.farN yb a = fy at *
            have d1 : decide ((fx : Int) < fy) = false := by simp; omega
            have d2 : decide (fx < fy) = false := by simp; omega
            have d3 : decide ((m : Int) ≤ best) = false := by simp; omega
            have d4 : decide (m ≤ best) = false := by simp; omega
            by_cases h3 : 3 ≤ L
            · by_cases h1 : fx ≤ 1
              · obtain rfl := hlaw h3 h1
                have t1 : decide ((3 : Int) ≤ L) = true := by simp; omega
                have t2 : decide ((fx : Int) ≤ 1) = true := by simp; omega
                have t3 : decide (fx ≤ 1) = true := by simp; omega
                have t4 : decide (3 ≤ L) = true := by simp; omega
                clear hlaw h3 h1 hmin
                go_wp2_with fail
                go_quiet ((go_at_call 23; first | (with_reducible exact quiet_l (hf1 _)) | (with_reducible exact quiet_l (hf2 _))))
                go_wp2
                go_roundg g
                case measure => omega
                case rel => exact ⟨k + 1, by omega, by go_num, hq.drewN _⟩
              · have t1 : decide ((3 : Int) ≤ L) = true := by simp; omega
                have t2 : decide ((fx : Int) ≤ 1) = false := by simp; omega
                have t3 : decide (fx ≤ 1) = false := by simp; omega
                have t4 : decide (3 ≤ L) = true := by simp; omega
                clear hlaw h3 h1 hmin
                go_wp2_with fail
                go_quiet ((go_at_call 23; first | (with_reducible exact quiet_l (hf1 _)) | (with_reducible exact quiet_l (hf2 _))))
                go_wp2
                go_roundg g
                case measure => omega
                case rel => exact ⟨k + 1, by omega, by go_num, hq.drewN _⟩
            · have t1 : decide ((3 : Int) ≤ L) = false := by simp; omega
              have t4 : decide (3 ≤ L) = false := by simp; omega
              clear hlaw h3 hmin
              go_wp2_with fail
              go_quiet ((go_at_call 23; first | (with_reducible exact quiet_l (hf1 _)) | (with_reducible exact quiet_l (hf2 _))))
              go_wp2
              go_roundg g
              case measure => omega
              case rel => exact ⟨k + 1, by omega, by go_num, hq.drewN _⟩
          · obtain rfl : k = m := by omega
            go_wp2
            go_ret
            exact ⟨rfl, Below.quiet b4 hq⟩

end Go.Proofs.Ytebjhdipdffkgaa
