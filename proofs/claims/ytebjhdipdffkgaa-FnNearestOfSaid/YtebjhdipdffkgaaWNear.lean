/- Contracts of NearestOf and SurePast, of the program and of the reference. -/
import Derived.Test.YtebjhdipdffkgaaWLeast
namespace Go.Proofs.Ytebjhdipdffkgaa
open Go Go.RowKit
open M (nth)

theorem M.wok_hid {n : Nat} {b : Int} {xs : List Int} (hok : M.wokB b xs = true) (hlen : xs.length = n) : Hid (∀ k : Nat, k < n → ∃ x : Nat, nth xs k = (x : Int) ∧ x < 256) := Lib.hid fun k hk => by
  obtain ⟨x, e, _, hx⟩ := M.wok_nat hok (k := k) (by omega)
  exact ⟨x, e, hx⟩
theorem M.near_in {xs : List Int} {a n k : Nat} (hk : k < n) : M.nearK xs a k < n := by
  have := M.near_lt (xs := xs) (a := a) k
  omega

set_option maxHeartbeats 1000000 in
theorem iNearestOf_c (A : Option Addr) (n c : Nat) (xs : List Int) (b a : Int) (w : World) (h : RdI w A n xs) (hn : n ≤ 1048576) :
    Calls Try.prog 30 #[.int .i64 b, .slice A n c, .int .i64 a] w fun e w' => e = .returned (.int .i64 (M.nearF b xs a)) ∧ Below w.heap.size w w' := by
  have hlen := h.len
  go_enter Try.func30, Try.ntmps30
  go_wp2_with fail
  refine (iWordsOk_c A n c xs b _ h hn).mono ?_
  rintro e w1 ⟨rfl, hb1⟩
  have h1 := h.below hb1
  cases hok : M.wokB b xs with
  | false =>
    have Hf := Lib.hid (M.nearF_no1 (a := a) hok)
    go_wp2
    go_ret
    exact ⟨by rw [Hf.out]; rfl, hb1⟩
  | true =>
    obtain ⟨q, rfl, q1, q8, l1, l16, -, -⟩ := M.wok_parts hok
    have Hwn := M.wok_hid hok hlen
    go_wp2_with fail
    refine (isWord_c q a _ q8).mono ?_
    rintro e w2 ⟨rfl, rfl⟩
    cases ha : M.inB a 0 (2 ^ q - 1) with
    | false =>
      have Hf := Lib.hid (M.nearF_no2 (xs := xs) ha)
      go_wp2
      go_ret
      exact ⟨by rw [Hf.out]; rfl, hb1⟩
    | true =>
      obtain ⟨a', rfl, ha'⟩ := M.inB_word ha
      have ha256 : a' < 256 := Nat.lt_of_lt_of_le ha' (M.pow8 q8)
      have Hf := Lib.hid (M.nearF_ok hok ha)
      clear hok ha ha'
      go_wp2_with fail
      go_loopg [7, 22] n (fun g v i wr => ∃ k : Nat, k + g = n ∧ i = .int .i64 k ∧ v = .int .i64 (M.nearK xs a' k : Nat) ∧ Quiet w2 wr)
      case atStart => exact ⟨0, by omega, rfl, rfl, Quiet.refl _⟩
      case round =>
        obtain ⟨k, hk, rfl, rfl, hq⟩ := hrel
        by_cases hlt : k < n
        · obtain ⟨g, rfl⟩ : ∃ g, gk = g + 1 := ⟨gk - 1, by omega⟩
          have hbn : M.nearK xs a' k < n := M.near_in hlt
          have hy := M.near_yes (xs := xs) (a := a') (k := k)
          have hno := M.near_not (xs := xs) (a := a') (k := k)
          obtain ⟨x, ex, hx⟩ := Hwn.out k hlt
          obtain ⟨y, ey, hy'⟩ := Hwn.out _ hbn
          obtain ⟨ad, rfl, _, hcell⟩ := (h1.quiet hq).at_ hlt
          obtain ⟨ad', e', _, hcell'⟩ := (h1.quiet hq).at_ hbn
          obtain rfl := Option.some.inj e'
          clear e'
          rw [ex, ey] at hy hno
          rw [ex] at hcell
          rw [ey] at hcell'
          simp only [Int.toNat_natCast] at hy hno
          clear ex ey
          generalize M.nearK xs a' k = best at *
          have Hy := Lib.hid hy
          have Hno := Lib.hid hno
          clear hy hno
          have hf1 : ∀ m, Calls Try.prog 53 #[.int .i64 x, .int .i64 a'] (wr.drewN m) fun e w' => e = .returned (.int .i64 (M.farN x a' : Nat)) ∧ wr.drewN m = w' := fun m => (iFar_c x a' _ hx ha256).mono fun _ _ h => ⟨h.1, h.2.symm⟩
          have hf2 : ∀ m, Calls Try.prog 53 #[.int .i64 y, .int .i64 a'] (wr.drewN m) fun e w' => e = .returned (.int .i64 (M.farN y a' : Nat)) ∧ wr.drewN m = w' := fun m => (iFar_c y a' _ hy' ha256).mono fun _ _ h => ⟨h.1, h.2.symm⟩
          generalize M.farN x a' = fx at *
          generalize M.farN y a' = fy at *
          by_cases hf : fx < fy
          · have Hs := Lib.hid (Hy.out hf)
            have d1 : decide ((fx : Int) < fy) = true := by simp; omega
            have d2 : decide (fx < fy) = true := by simp; omega
            clear hf
            go_wp2_with fail
            go_quiet ((go_at_call 53; first | (with_reducible exact quiet_l (hf1 _)) | (with_reducible exact quiet_l (hf2 _))))
            go_wp2
            go_roundg g
            case measure => omega
            case rel => exact ⟨k + 1, by omega, by go_num, congrArg (fun t : Nat => Value.int .i64 (t : Int)) Hs.out.symm, hq.drewN _⟩
          · have Hs := Lib.hid (Hno.out hf)
            have d1 : decide ((fx : Int) < fy) = false := by simp; omega
            have d2 : decide (fx < fy) = false := by simp; omega
            clear hf
            go_wp2_with fail
            go_quiet ((go_at_call 53; first | (with_reducible exact quiet_l (hf1 _)) | (with_reducible exact quiet_l (hf2 _))))
            go_wp2
            go_roundg g
            case measure => omega
            case rel => exact ⟨k + 1, by omega, by go_num, congrArg (fun t : Nat => Value.int .i64 (t : Int)) Hs.out.symm, hq.drewN _⟩
        · obtain rfl : k = n := by omega
          go_wp2
          go_ret
          exact ⟨by rw [Hf.out, hlen]; rfl, Below.quiet hb1 hq⟩

set_option maxHeartbeats 1000000 in
theorem sNearestOf_c (A : Option Addr) (n c : Nat) (xs : List Int) (b a : Int) (w : World) (h : RdI w A n xs) :
    Calls Try.prog 31 #[.int .i64 b, .slice A n c, .int .i64 a] w fun e w' => e = .returned (.int .i64 (M.nearF b xs a)) ∧ Quiet w w' := by
  have hlen := h.len
  have hbig := h.big
  go_enter Try.func31, Try.ntmps31
  go_wp2_with fail
  refine (sWordsOk_c A n c xs b _ h).mono ?_
  rintro e w1 ⟨rfl, hq1⟩
  have h1 := h.quiet hq1
  cases hok : M.wokB b xs with
  | false =>
    have Hf := Lib.hid (M.nearF_no1 (a := a) hok)
    go_wp2
    go_ret
    exact ⟨by rw [Hf.out]; rfl, hq1⟩
  | true =>
    obtain ⟨q, rfl, q1, q8, l1, l16, -, -⟩ := M.wok_parts hok
    have Hwn := M.wok_hid hok hlen
    have hw : wrap64 ((2 : Int) ^ q) = 2 ^ q := M.wrap_pow q (by omega)
    obtain ⟨hq1', hq2'⟩ := M.word_bounds (q := q) q8
    go_wp2_with fail
    refine (l1In_c _ _ _ _).mono ?_
    rintro e w2 ⟨rfl, rfl⟩
    cases ha : M.inB a 0 (2 ^ q - 1) with
    | false =>
      have Hf := Lib.hid (M.nearF_no2 (xs := xs) ha)
      go_wp2
      go_ret
      exact ⟨by rw [Hf.out]; rfl, hq1⟩
    | true =>
      obtain ⟨a', rfl, ha'⟩ := M.inB_word ha
      have ha256 : a' < 256 := Nat.lt_of_lt_of_le ha' (M.pow8 q8)
      have Hf := Lib.hid (M.nearF_ok hok ha)
      clear hok ha ha' hw hq1' hq2'
      go_wp2_with fail
      go_loopg [7, 8] (n - 1) (fun g v i wr => ∃ k : Nat, 1 ≤ k ∧ k + g = n ∧ i = .int .i64 k ∧ v = .int .i64 (M.nearK xs a' k : Nat) ∧ Quiet w1 wr)
      case atStart => exact ⟨1, by omega, by omega, rfl, by rw [M.near_one]; rfl, Quiet.refl _⟩
      case round =>
        obtain ⟨k, hk1, hk, rfl, rfl, hq⟩ := hrel
        by_cases hlt : k < n
        · obtain ⟨g, rfl⟩ : ∃ g, gk = g + 1 := ⟨gk - 1, by omega⟩
          have hbn : M.nearK xs a' k < n := M.near_in hlt
          have hy := M.near_yes (xs := xs) (a := a') (k := k)
          have hno := M.near_not (xs := xs) (a := a') (k := k)
          obtain ⟨x, ex, hx⟩ := Hwn.out k hlt
          obtain ⟨y, ey, hy'⟩ := Hwn.out _ hbn
          obtain ⟨ad, rfl, _, hcell⟩ := (h1.quiet hq).at_ hlt
          obtain ⟨ad', e', _, hcell'⟩ := (h1.quiet hq).at_ hbn
          obtain rfl := Option.some.inj e'
          clear e'
          rw [ex, ey] at hy hno
          rw [ex] at hcell
          rw [ey] at hcell'
          simp only [Int.toNat_natCast] at hy hno
          clear ex ey
          generalize M.nearK xs a' k = best at *
          have Hy := Lib.hid hy
          have Hno := Lib.hid hno
          clear hy hno
          have hf1 : ∀ m, Calls Try.prog 22 #[.int .i64 x, .int .i64 a'] (wr.drewN m) fun e w' => e = .returned (.int .i64 (M.farN x a' : Nat)) ∧ Quiet (wr.drewN m) w' := fun m => by
            have := sFarOf_c x a' (wr.drewN m)
            rwa [M.farOf_ok hx ha256] at this
          have hf2 : ∀ m, Calls Try.prog 22 #[.int .i64 y, .int .i64 a'] (wr.drewN m) fun e w' => e = .returned (.int .i64 (M.farN y a' : Nat)) ∧ Quiet (wr.drewN m) w' := fun m => by
            have := sFarOf_c y a' (wr.drewN m)
            rwa [M.farOf_ok hy' ha256] at this
          generalize M.farN x a' = fx at *
          generalize M.farN y a' = fy at *
          by_cases hf : fx < fy
          · have Hs := Lib.hid (Hy.out hf)
            have d1 : decide ((fx : Int) < fy) = true := by simp; omega
            have d2 : decide (fx < fy) = true := by simp; omega
            clear hf
            go_wp2_with fail
            go_quiet ((go_at_call 22; first | (with_reducible exact quiet_m (hf1 _)) | (with_reducible exact quiet_m (hf2 _))))
            go_wp2
            go_roundg g
            case measure => omega
            case rel => exact ⟨k + 1, by omega, by omega, by go_num, congrArg (fun t : Nat => Value.int .i64 (t : Int)) Hs.out.symm, hq.drewN _⟩
          · have Hs := Lib.hid (Hno.out hf)
            have d1 : decide ((fx : Int) < fy) = false := by simp; omega
            have d2 : decide (fx < fy) = false := by simp; omega
            clear hf
            go_wp2_with fail
            go_quiet ((go_at_call 22; first | (with_reducible exact quiet_m (hf1 _)) | (with_reducible exact quiet_m (hf2 _))))
            go_wp2
            go_roundg g
            case measure => omega
            case rel => exact ⟨k + 1, by omega, by omega, by go_num, congrArg (fun t : Nat => Value.int .i64 (t : Int)) Hs.out.symm, hq.drewN _⟩
        · obtain rfl : k = n := by omega
          go_wp2
          go_ret
          exact ⟨by rw [Hf.out, hlen]; rfl, hq1.trans hq⟩

set_option maxHeartbeats 1000000 in
theorem iSurePast_c (A : Option Addr) (n c : Nat) (xs : List Int) (b l : Int) (w : World) (h : RdI w A n xs) (hn : n ≤ 1048576) :
    Calls Try.prog 34 #[.int .i64 b, .slice A n c, .int .i64 l] w fun e w' => e = .returned (.bool (M.sureB b xs l)) ∧ Below w.heap.size w w' := by
  have hlen := h.len
  go_enter Try.func34, Try.ntmps34
  go_wp2_with fail
  refine (iWordsOk_c A n c xs b _ h hn).mono ?_
  rintro e w1 ⟨rfl, hb1⟩
  have h1 := h.below hb1
  cases hok : M.wokB b xs with
  | false =>
    have Hf := Lib.hid (M.sure_no1 (l := l) hok)
    go_wp2
    go_ret
    exact ⟨rb Hf.out.symm, hb1⟩
  | true =>
    obtain ⟨q, rfl, q1, q8, l1, l16, -, -⟩ := M.wok_parts hok
    have Hwn := M.wok_hid hok hlen
    go_wp2_with fail
    refine (in_c _ _ _ _).mono ?_
    rintro e w2 ⟨rfl, rfl⟩
    cases hl : M.inB l 0 (q : Int) with
    | false =>
      have Hf := Lib.hid (M.sure_no2 (xs := xs) hl)
      go_wp2
      go_ret
      exact ⟨rb Hf.out.symm, hb1⟩
    | true =>
      have Hf := Lib.hid (M.sure_ok hok hl)
      have Hno := Lib.hid fun a ha hw => M.sure_ok_no (q := q) (a := a) (l := l) (xs := xs) ha hw
      have hw2 : wrap64 ((2 : Int) ^ q) = 2 ^ q := M.wrap_pow q (by omega)
      have h256 := M.pow8 q8
      obtain ⟨M0, hM0⟩ : ∃ M0 : Nat, M0 = 2 ^ q := ⟨_, rfl⟩
      have eM : ((2 : Int) ^ q) = (M0 : Int) := by rw [hM0]; simp
      rw [← hM0] at h256
      replace hw2 := hw2.trans eM
      have HM0 := Lib.hid hM0
      clear hM0 eM hok hl
      go_wp2_with fail
      rw [hw2]
      clear hw2
      go_loopg [20] M0 (fun g i wr => ∃ k : Nat, k + g = M0 ∧ i = .int .i64 k ∧ Hid (∀ a, a < k → M.wiN xs a l n ≤ 1) ∧ wr = w1)
      case atStart => exact ⟨0, by omega, rfl, Lib.hid (fun a ha => absurd ha (Nat.not_lt_zero _)), rfl⟩
      case round =>
        obtain ⟨k, hk, rfl, Hall, rfl⟩ := hrel
        by_cases hlt : k < M0
        · obtain ⟨g, rfl⟩ : ∃ g, gk = g + 1 := ⟨gk - 1, by omega⟩
          go_wp2_with fail
          refine (within_c A n c xs k l _ h1 (fun j hj => by obtain ⟨x, e, hx⟩ := Hwn.out j hj; omega) (by omega)).mono ?_
          rintro e w3 ⟨rfl, rfl⟩
          have hle := M.wiN_le xs k l n
          by_cases hv : M.wiN xs k l n ≤ 1
          · have Hv := Lib.hid hv
            have d1 : decide (1 < ((M.wiN xs k l n : Nat) : Int)) = false := by simp; omega
            clear hv
            go_wp2
            go_roundg g
            case measure => omega
            case rel => exact ⟨k + 1, by omega, by go_num, Lib.hid (fun a ha => by
              by_cases e : a = k
              · subst e; exact Hv.out
              · exact Hall.out a (by omega)), by first | rfl | trivial⟩
          · have Hs := Lib.hid (Hno.out k (by rw [← HM0.out]; exact hlt) (by rw [hlen]; exact hv))
            have d1 : decide (1 < ((M.wiN xs k l n : Nat) : Int)) = true := by simp; omega
            clear hv
            go_wp2
            go_ret
            exact ⟨rb Hs.out.symm, hb1⟩
        · obtain rfl : k = M0 := by omega
          have Hs := Lib.hid (Hf.out.2 (fun a ha => by rw [hlen]; exact Hall.out a (by rw [HM0.out]; exact ha)))
          go_wp2
          go_ret
          exact ⟨rb Hs.out.symm, hb1⟩

set_option maxHeartbeats 1000000 in
theorem sSurePast_c (A : Option Addr) (n c : Nat) (xs : List Int) (b l : Int) (w : World) (h : RdI w A n xs) :
    Calls Try.prog 35 #[.int .i64 b, .slice A n c, .int .i64 l] w fun e w' => e = .returned (.bool (M.sureB b xs l)) ∧ Quiet w w' := by
  have hlen := h.len
  have hbig := h.big
  go_enter Try.func35, Try.ntmps35
  go_wp2_with fail
  refine (sWordsOk_c A n c xs b _ h).mono ?_
  rintro e w1 ⟨rfl, hq1⟩
  have h1 := h.quiet hq1
  cases hok : M.wokB b xs with
  | false =>
    have Hf := Lib.hid (M.sure_no1 (l := l) hok)
    go_wp2
    go_ret
    exact ⟨rb Hf.out.symm, hq1⟩
  | true =>
    obtain ⟨q, rfl, q1, q8, l1, l16, -, -⟩ := M.wok_parts hok
    have Hwn := M.wok_hid hok hlen
    go_wp2_with fail
    refine (l1In_c _ _ _ _).mono ?_
    rintro e w2 ⟨rfl, rfl⟩
    cases hl : M.inB l 0 (q : Int) with
    | false =>
      have Hf := Lib.hid (M.sure_no2 (xs := xs) hl)
      go_wp2
      go_ret
      exact ⟨rb Hf.out.symm, hq1⟩
    | true =>
      have Hf := Lib.hid (M.sure_ok hok hl)
      have Hno := Lib.hid fun a ha hw => M.sure_ok_no (q := q) (a := a) (l := l) (xs := xs) ha hw
      have hw2 : wrap64 ((2 : Int) ^ q) = 2 ^ q := M.wrap_pow q (by omega)
      have h256 := M.pow8 q8
      obtain ⟨M0, hM0⟩ : ∃ M0 : Nat, M0 = 2 ^ q := ⟨_, rfl⟩
      have eM : ((2 : Int) ^ q) = (M0 : Int) := by rw [hM0]; simp
      rw [← hM0] at h256
      replace hw2 := hw2.trans eM
      have HM0 := Lib.hid hM0
      clear hM0 eM hok hl
      go_wp2_with fail
      go_loopg [7] M0 (fun g i wr => ∃ k : Nat, k + g = M0 ∧ i = .int .i64 k ∧ Hid (∀ a, a < k → M.wiN xs a l n ≤ 1) ∧ Quiet w1 wr)
      case atStart => exact ⟨0, by omega, rfl, Lib.hid (fun a ha => absurd ha (Nat.not_lt_zero _)), Quiet.refl _⟩
      case round =>
        obtain ⟨k, hk, rfl, Hall, hq⟩ := hrel
        by_cases hlt : k < M0
        · obtain ⟨g, rfl⟩ : ∃ g, gk = g + 1 := ⟨gk - 1, by omega⟩
          go_wp2_with fail
          try rw [hw2]
          clear hw2
          go_loopg [8, 9] n (fun g2 v i wy => ∃ j : Nat, j + g2 = n ∧ i = .int .i64 j ∧ v = .int .i64 (M.wiN xs k l j : Nat) ∧ Quiet w1 wy)
          case atStart => exact ⟨0, by omega, rfl, rfl, hq⟩
          case round =>
            obtain ⟨j, hj, rfl, rfl, hqy⟩ := hrel
            have hle := M.wiN_le xs k l j
            by_cases hjn : j < n
            · obtain ⟨g2, rfl⟩ : ∃ g2, gk = g2 + 1 := ⟨gk - 1, by omega⟩
              obtain ⟨ad, rfl, _, hcell⟩ := (h1.quiet hqy).at_ hjn
              obtain ⟨x, ex, hx⟩ := Hwn.out j hjn
              have hs : M.wiN xs k l (j + 1) = M.wiN xs k l j + (if (M.farN x k : Int) ≤ l then 1 else 0) := by simp only [M.wiN, ex, Int.toNat_natCast]
              rw [ex] at hcell
              clear ex
              have hfo := M.farOf_ok (a := x) (b := k) hx (by omega)
              go_wp2_with fail
              refine (sFarOf_c x k _).mono ?_
              rintro e w3 ⟨rfl, hq3⟩
              rw [hfo]
              by_cases hm : (M.farN x k : Int) ≤ l
              · rw [if_pos hm] at hs
                have Hs := Lib.hid hs
                clear hs
                go_wp2
                go_roundg g2
                case measure => omega
                case rel => exact ⟨j + 1, by omega, by go_num, by rw [Hs.out]; rfl, hqy.trans hq3⟩
              · rw [if_neg hm] at hs
                have Hs := Lib.hid hs
                clear hs
                go_wp2
                go_roundg g2
                case measure => omega
                case rel => exact ⟨j + 1, by omega, by go_num, by rw [Hs.out]; rfl, hqy.trans hq3⟩
            · obtain rfl : j = n := by omega
              by_cases hv : M.wiN xs k l j ≤ 1
              · have Hv := Lib.hid hv
                have d1 : decide (1 < ((M.wiN xs k l j : Nat) : Int)) = false := by simp; omega
                clear hv
                go_wp2
                go_roundg g
                case measure => omega
                case rel => exact ⟨k + 1, by omega, by go_num, Lib.hid (fun a ha => by
                  by_cases e : a = k
                  · subst e; exact Hv.out
                  · exact Hall.out a (by omega)), hqy⟩
              · have Hs := Lib.hid (Hno.out k (by rw [← HM0.out]; exact hlt) (by rw [hlen]; exact hv))
                have d1 : decide (1 < ((M.wiN xs k l j : Nat) : Int)) = true := by simp; omega
                clear hv
                go_wp2
                go_ret
                exact ⟨rb Hs.out.symm, hq1.trans hqy⟩
        · obtain rfl : k = M0 := by omega
          have Hs := Lib.hid (Hf.out.2 (fun a ha => by rw [hlen]; exact Hall.out a (by rw [HM0.out]; exact ha)))
          go_wp2
          go_ret
          exact ⟨rb Hs.out.symm, hq1.trans hq⟩

end Go.Proofs.Ytebjhdipdffkgaa
