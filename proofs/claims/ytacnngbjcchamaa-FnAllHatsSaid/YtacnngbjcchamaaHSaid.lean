/- Contracts of what the people in a row say. -/
import Derived.Test.YtacnngbjcchamaaHGuess
namespace Go.Proofs.Ytacnngbjcchamaa
open Go Go.RowKit
open M (nth)

/-- The cut 's[1:]' of an owned row. -/
def cutA (g c : Nat) : Option Addr := if c = 1 then some ⟨g, 0, none⟩ else some ⟨g, 1, none⟩
theorem OwnI.cap {w : World} {b g n c : Nat} {xs : List Int} (h : OwnI w b (some ⟨g, 0, none⟩) n c xs) : n ≤ c ∧ c ≤ 9223372036854775807 := by
  rcases h.2.2 with ⟨h0, _⟩ | ⟨g', cap, cur, hv, _, _, h1, h2, _⟩
  · cases h0
  · injection hv with _ _ e
    subst e
    unfold maxLen at h2
    exact ⟨h1, by omega⟩
theorem OwnI.tail {w : World} {b g n c : Nat} {xs : List Int} (h : OwnI w b (some ⟨g, 0, none⟩) n c xs) (j : Nat) (hj : j ≤ n) (_hn : ¬ c = j) : RdI w (some ⟨g, j, none⟩) (n - j) (xs.drop j) := by
  refine ⟨by have := h.1; simp; omega, by have := h.rd.big; omega, fun hn => ⟨_, rfl, h.lt.2, fun k hk => ?_⟩⟩
  rw [Addr.add_lit]
  rw [h.cell (k := j + k) (by omega)]
  simp [nth, List.getElem?_drop]

theorem to0 {w : World} {A A' : Option Addr} {n : Nat} {xs : List Int} (h : RdI w A n xs) (h0 : n = 0) : RdI w A' 0 xs := ⟨by rw [h.len, h0], by omega, fun h => by omega⟩

set_option maxHeartbeats 1000000 in
theorem iSaidInRow_c (b : Nat) (A : Option Addr) (n c : Nat) (xs : List Int) (col : Int) (w : World) (h : OwnI w b A n c xs) :
    Calls Try.prog 30 #[.int .i64 col, .slice A n c] w (RetI w (M.said col xs)) := by
  have hbig := h.rd.big
  obtain ⟨i0, hi, hz0, hz1, hz2⟩ := info_parts Try.infoInt
  cases hok : M.hatsB col xs with
  | false =>
    go_enter Try.func30, Try.ntmps30
    go_wp2_with (go_at_call 19; refine (iHatsOk_c A n c xs col _ h.rd).mono ?_; rintro e w1 ⟨rfl, hb⟩)
    go_ret
    exact ⟨none, 0, 0, rfl, by rw [M.said_not hok]; exact ownI_nil _ _, by assumption⟩
  | true =>
    obtain ⟨⟨hc1, hc5⟩, ⟨hn1, hn5⟩, hall⟩ := M.hats_iff.1 hok
    rw [h.1] at hn1 hn5
    obtain ⟨g, rfl, hg0, hg1⟩ := h.at0 (by omega)
    obtain ⟨hcap, hcap'⟩ := h.cap
    have hfit := M.hats_fits_tail hok
    have hsum := M.hats_sum_tail hok
    have hbnd := M.hats_bounds_tail hok
    have hsaid := M.said_ok hok
    have hps := M.hats_psum_tail hok
    have hlen : (xs.drop 1).length = n - 1 := by have := h.1; simp; omega
    obtain ⟨m, hm⟩ : ∃ m, m = n - 1 := ⟨_, rfl⟩
    have htail : ¬ c = 1 → ∀ w', Below w.heap.size w w' → RdI w' (some ⟨g, 1, none⟩) m (xs.drop 1) := fun hc w' hb => by rw [hm]; exact (h.below hb).tail 1 (by omega) hc
    rw [← hm] at hlen
    generalize xs.drop 1 = ts at *
    have Hall := Lib.hid hbnd
    have Hsaid := Lib.hid hsaid
    have Hps := Lib.hid hps
    have Htail := Lib.hid htail
    have Hm := Lib.hid hm
    have hm4 : m ≤ 4 := by omega
    clear hall hbnd hsaid htail hm hps
    by_cases hc : c = 1
    · subst hc
      obtain rfl : n = 1 := by omega
      obtain rfl : m = 0 := Hm.out
      have hr0 : ∀ w' A', RdI w' A' 0 ts := fun w' A' => ⟨hlen, by omega, fun h => by omega⟩
      have Hr0 := Lib.hid hr0
      clear hr0
      go_enter Try.func30, Try.ntmps30
      go_wp2_with fail
      refine (iHatsOk_c _ 1 1 xs col _ h.rd).mono ?_
      rintro e w1 ⟨rfl, hb1⟩
      go_wp2_with fail
      refine (total_c _ 0 0 ts _ (Hr0.out _ _) hfit).mono ?_
      rintro e w' ⟨rfl, rfl⟩
      go_wp2_with fail
      refine wp_loop_rounds 1 ?_
      rw [rounds_succ]
      go_wp2
      go_ret
      have hlit := ownI_lit w1 w.heap.size #[.int .i64 (M.sumL ts % col)] 1 [M.sumL ts % col] hb1.size (by omega) rfl rfl
      refine ⟨_, _, _, rfl, ?_, hb1.alloc hb1.size _⟩
      rw [Hsaid.out, List.eq_nil_of_length_eq_zero hlen]
      rw [List.eq_nil_of_length_eq_zero hlen] at hlit
      exact hlit
    · go_enter Try.func30, Try.ntmps30
      go_wp2_with fail
      refine (iHatsOk_c _ n c xs col _ h.rd).mono ?_
      rintro e w1 ⟨rfl, hb1⟩
      go_wp2_with fail
      have hr1 := Htail.out hc w1 hb1
      rw [← Hm.out]
      refine (total_c _ m (c - 1) ts _ hr1 hfit).mono ?_
      rintro e w' ⟨rfl, rfl⟩
      go_wp2_with fail
      rw [← Hm.out]
      have hlit := ownI_lit w1 w.heap.size #[.int .i64 (M.sumL ts % col)] 1 [M.sumL ts % col] hb1.size (by omega) rfl rfl
      rw [← M.spre_zero col ts] at hlit
      have hb2 : Below w.heap.size w (w1.alloc (.cells #[.int .i64 (M.sumL ts % col)] 3)) := hb1.alloc hb1.size _
      have hmod0 := Int.emod_nonneg (M.sumL ts) (show col ≠ 0 by omega)
      have hmod1 := Int.emod_lt_of_pos (M.sumL ts) (show 0 < col by omega)
      go_loopw [5, 6, 7, 25] (fun a v hd i wr => ∃ (k : Nat) (B : Option Addr) (q d : Nat), k ≤ m ∧ i = .int .i64 k ∧ a = .int .i64 (M.sumL ts - M.psum ts k) ∧ hd = .int .i64 (M.psum ts k) ∧ v = .slice B q d ∧ OwnI wr w.heap.size B q d (M.spre col ts k) ∧ Below w.heap.size w wr) (fun _ _ _ i _ => m - (intOf i).toNat)
      case atStart => exact ⟨0, _, _, _, Nat.zero_le _, rfl, by simp [M.psum_zero], rfl, rfl, hlit, hb2⟩
      case round =>
        obtain ⟨k, B, q, d, hk, rfl, rfl, rfl, rfl, hor, hbr⟩ := hrel
        clear hlit hb2
        have hq : q = k + 1 := by have := hor.1; rw [M.length_spre col ts k (by omega)] at this; omega
        have hq' : q ≤ 5 := by omega
        have hq1 : 0 < q := by omega
        obtain ⟨gB, rfl, hB0, hB1⟩ := hor.at0 (by omega)
        have c0 := hor.cell (k := 0) (by omega)
        rw [M.nth_spre0] at c0
        obtain ⟨p0, p1⟩ := Hps.out k
        have Hq := Lib.hid hq
        clear hq
        by_cases hlt : k < m
        · obtain ⟨ad, e, _, hcell⟩ := (Htail.out hc wr hbr).at_ hlt
          obtain rfl := Option.some.inj e
          rw [Addr.add_lit] at hcell
          have hx := Hall.out k (by omega)
          have hps := M.psum_succ ts k (by omega)
          have hp2 := Hps.out (k + 1)
          rw [hps] at hp2
          have Hown := Lib.hid (M.said_own col ts k hx.1 hx.2)
          have Hs := Lib.hid (M.spre_succ col ts k (by omega))
          have Hp := Lib.hid hps
          clear hps
          go_wp2_with fail
          refine (remainder_c _ _ _ (by omega) (by omega)).mono ?_
          rintro e w' ⟨rfl, rfl⟩
          rw [Hown.out]
          go_wp2_with (at_builtin; refine wpList_append_own _ rfl _ _ 22 rfl w.heap.size 3 i0 (.int .i64 0) 1 8 Try.underlying22 hi hz0 hz1 hz2 rfl (by decide) _ _ _ rfl (hor.2.alloc _) ⟨_, 0, none⟩ 1 1 [.int .i64 _] rfl rfl (cell_one_new _ _ _) (by simp [Value.oneCell']) (by unfold maxLen; omega) (by omega) (by have := hbr.size; simp; omega) ?_; intro v' w4 hown4 hgrow4 _)
          obtain ⟨g', cap', rfl, ho4, hg4, hg4'⟩ := OwnI.appended hor.1 hown4
          have hB4 : Below w.heap.size w w4 := (hbr.alloc hbr.size _).grown hgrow4 (by have := hbr.size; simp; omega) (fun j hj => by cases hj; exact hB0)
          rw [← Hs.out] at ho4
          go_roundw
          case rel => exact ⟨k + 1, _, _, _, by omega, by go_num, by rw [Hp.out]; congr 1; omega, by rw [Hp.out], rfl, ho4, hB4⟩
          case measure => simp [intOf]; omega
        · obtain rfl : k = m := by omega
          go_wp2
          go_ret
          refine ⟨_, _, _, rfl, ?_, hbr⟩
          rw [Hsaid.out, ← M.spre_all col ts k (by omega)]
          exact hor

set_option maxHeartbeats 1000000 in
theorem sSaidInRow_c (b : Nat) (A : Option Addr) (n c : Nat) (xs : List Int) (col : Int) (w : World) (h : OwnI w b A n c xs) :
    Calls Try.prog 29 #[.int .i64 col, .slice A n c] w (RetI w (M.said col xs)) := by
  have hbig := h.rd.big
  obtain ⟨i0, hi, hz0, hz1, hz2⟩ := info_parts Try.infoInt
  have hb0 : Below w.heap.size w (w.alloc (.cells #[] 3)) := (Below.refl _ _).alloc (Nat.le_refl _) _
  have ho1 := ownI_lit0 w w.heap.size (Nat.le_refl _)
  cases hok : M.hatsB col xs with
  | false =>
    go_enter Try.func29, Try.ntmps29
    go_wp2_with fail
    refine wp_loop_rounds 1 ?_
    rw [rounds_succ]
    by_cases hn : 0 < n
    · go_wp2_with fail
      refine (sHatsOk_c A n c xs col _ (h.rd.below hb0)).mono ?_
      rintro e w' ⟨rfl, rfl⟩
      go_wp2
      go_ret
      exact ⟨_, _, _, rfl, by rw [M.said_not hok]; exact ho1, hb0⟩
    · go_wp2
      go_ret
      exact ⟨_, _, _, rfl, by rw [M.said_not hok]; exact ho1, hb0⟩
  | true =>
    obtain ⟨⟨hc1, hc5⟩, ⟨hn1, hn5⟩, hall⟩ := M.hats_iff.1 hok
    rw [h.1] at hn1 hn5
    obtain ⟨g, rfl, hg0, hg1⟩ := h.at0 (by omega)
    obtain ⟨hcap, hcap'⟩ := h.cap
    have hdrop := M.hats_drop hok
    have hsaid := M.said_ok hok
    have Hdrop := Lib.hid hdrop
    have Hsaid := Lib.hid hsaid
    clear hall hdrop hsaid
    go_enter Try.func29, Try.ntmps29
    go_wp2_with fail
    go_loopw [5, 6] (fun v i wr => ∃ (k : Nat) (B : Option Addr) (m d : Nat), k ≤ n ∧ i = .int .i64 k ∧ v = .slice B m d ∧ OwnI wr w.heap.size B m d (M.sgo col xs k) ∧ Below w.heap.size w wr) (fun _ i _ => n - (intOf i).toNat)
    case atStart => exact ⟨0, _, _, _, Nat.zero_le _, rfl, rfl, ho1, hb0⟩
    case round =>
      obtain ⟨k, B, m, d, hk, rfl, rfl, hor, hbr⟩ := hrel
      clear ho1 hb0
      have hm : m = k := by have := hor.1; rw [M.length_sgo col xs k (by have := h.1; omega) (by have := h.1; omega)] at this; exact this.symm
      subst hm
      have hw := h.below hbr
      by_cases hlt : m < n
      · have hcut : RdI wr (if c = m + 1 then some ⟨g, 0, none⟩ else some ⟨g, m + 1, none⟩) (n - (m + 1)) (xs.drop (m + 1)) := by
          by_cases hc : c = m + 1
          · rw [if_pos hc]; exact ⟨by have := h.1; simp; omega, by omega, fun h => by omega⟩
          · rw [if_neg hc]; exact hw.tail (m + 1) (by omega) hc
        obtain ⟨s1, s2, s3⟩ := Hdrop.out (m + 1)
        go_wp2_with fail
        refine (sHatsOk_c _ n c xs col _ (h.rd.below hbr)).mono ?_
        rintro e w' ⟨rfl, rfl⟩
        by_cases hk0 : m = 0
        · have Hs := Lib.hid (M.sgo_first col xs m hk0)
          have hb0 : ((m : Int) == 0) = true := by simp [hk0]
          have hm5 : m ≤ 5 := by omega
          clear hk0
          generalize xs.drop (m + 1) = ts at *
          by_cases hc : c = m + 1
          all_goals try subst hc
          all_goals
            go_wp2_with fail
            refine (l1Sum_c _ _ _ ts _ (by first | simpa [hc] using hcut | simpa using hcut | exact to0 hcut (by omega)) s1).mono ?_
            rintro e w' ⟨rfl, rfl⟩
            go_wp2_with (at_builtin; refine wpList_append_own _ rfl _ _ 22 rfl w.heap.size 3 i0 (.int .i64 0) 1 8 Try.underlying22 hi hz0 hz1 hz2 rfl (by decide) _ _ _ rfl (hor.2.alloc _) ⟨_, 0, none⟩ 1 1 [.int .i64 _] rfl rfl (cell_one_new _ _ _) (by simp [Value.oneCell']) (by unfold maxLen; omega) (by omega) (by have := hbr.size; simp; omega) ?_; intro v' w4 hown4 hgrow4 _)
            obtain ⟨g', cap', rfl, ho4, hg4, hg4'⟩ := OwnI.appended hor.1 hown4
            have hB4 : Below w.heap.size w w4 := (hbr.alloc hbr.size _).grown hgrow4 (by have := hbr.size; simp; omega) (fun j hj => by
              cases B with
              | none => cases hj
              | some ad => cases hj; exact hor.lt.1)
            go_roundw
            case rel =>
              rw [← Hs.out] at ho4
              first
                | exact ⟨m + 1, _, _, _, by omega, by go_num, rfl, ho4, hB4⟩
                | ((repeat apply Exists.intro); exact ⟨⟨m + 1, _, _, _, by omega, by go_num, rfl, ho4, hB4⟩, rfl⟩)
            case measure => simp [intOf]; omega
        · have Hs := Lib.hid (M.sgo_succ col xs m (by omega) (by have := h.1; omega))
          have Hv := Lib.hid (M.said_spec hok m (by omega) (by have := h.1; omega))
          obtain ⟨t1, t2, t3⟩ := M.sgo_sum hok m (by omega)
          obtain ⟨gB, rfl, hB0, hB1⟩ := hor.at0 (by omega)
          have c0 := hor.cell (k := 0) (by omega)
          rw [M.nth_sgo0 col xs m (by omega)] at c0
          have hcut2 : RdI wr (if d = 1 then some ⟨gB, 0, none⟩ else some ⟨gB, 1, none⟩) (m - 1) ((M.sgo col xs m).drop 1) := by
            by_cases hd : d = 1
            · rw [if_pos hd]; exact ⟨by have := hor.1; simp; omega, by omega, fun h => by have := hor.cap; omega⟩
            · rw [if_neg hd]; exact hor.tail 1 (by omega) hd
          have hdm := hor.cap
          generalize xs.drop (m + 1) = ts at *
          generalize (M.sgo col xs m).drop 1 = us at *
          have hmod0 := Int.emod_nonneg (M.sumL (xs.drop 1)) (show col ≠ 0 by omega)
          have hmod1 := Int.emod_lt_of_pos (M.sumL (xs.drop 1)) (show 0 < col by omega)
          generalize M.sumL (xs.drop 1) % col = r at *
          have hm0 : ((m : Int) == 0) = false := by simp; omega
          by_cases hc : c = m + 1
          all_goals by_cases hd : d = 1
          all_goals try subst hc
          all_goals try subst hd
          all_goals
            go_wp2_with fail
            refine (l1Sum_c _ _ _ ts _ (by first | simpa [hc] using hcut | simpa using hcut | exact to0 hcut (by omega)) s1).mono ?_
            rintro e w' ⟨rfl, rfl⟩
            go_wp2_with fail
            refine (l1Sum_c _ _ _ us _ (by first | simpa [hd] using hcut2 | simpa using hcut2 | exact to0 hcut2 (by omega)) t1).mono ?_
            rintro e w' ⟨rfl, rfl⟩
            go_wp2_with (at_builtin; refine wpList_append_own _ rfl _ _ 22 rfl w.heap.size 3 i0 (.int .i64 0) 1 8 Try.underlying22 hi hz0 hz1 hz2 rfl (by decide) _ _ _ rfl (hor.2.alloc _) ⟨_, 0, none⟩ 1 1 [.int .i64 _] rfl rfl (cell_one_new _ _ _) (by simp [Value.oneCell']) (by unfold maxLen; omega) (by omega) (by have := hbr.size; simp; omega) ?_; intro v' w4 hown4 hgrow4 _)
            obtain ⟨g', cap', rfl, ho4, hg4, hg4'⟩ := OwnI.appended hor.1 hown4
            have hB4 : Below w.heap.size w w4 := (hbr.alloc hbr.size _).grown hgrow4 (by have := hbr.size; simp; omega) (fun j hj => by cases hj; exact hB0)
            rw [Hv.out, ← Hs.out] at ho4
            go_roundw
            case rel => exact ⟨m + 1, _, _, _, by omega, by go_num, rfl, ho4, hB4⟩
            case measure => simp [intOf]; omega
      · obtain rfl : m = n := by omega
        go_wp2
        go_ret
        refine ⟨_, _, _, rfl, ?_, hbr⟩
        rw [Hsaid.out, ← M.sgo_all col xs (by have := h.1; omega), h.1]
        exact hor

end Go.Proofs.Ytacnngbjcchamaa
