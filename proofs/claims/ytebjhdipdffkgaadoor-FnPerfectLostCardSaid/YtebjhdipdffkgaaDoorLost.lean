/- Contracts of LostOk. -/
import Derived.Test.YtebjhdipdffkgaaDoorLib
import Derived.Test.YtebjhdipdffkgaaDoorLMath
namespace Go.Proofs.YtebjhdipdffkgaaDoor
open Go Go.RowKit
open M (nth)

set_option maxHeartbeats 400000 in
theorem IsSorted_c (A : Option Addr) (n c : Nat) (xs : List Int) (w : World) (h : RdI w A n xs) :
    Calls Tryd.prog 62 #[.slice A n c] w fun e w' => e = .returned (.bool (M.srtB xs)) ∧ Quiet w w' := by
  have hbig := h.big
  go_enter Tryd.func62, Tryd.ntmps62
  go_wp2_with fail
  go_loopw [3] (fun v wr => ∃ i : Int, -1 ≤ i ∧ i < n ∧ v = .int .i64 i ∧ (∀ k : Nat, i < k → k < n → 0 < k → nth xs (k - 1) ≤ nth xs k) ∧ Quiet w wr) (fun i _ => (intOf i).toNat)
  case atStart => exact ⟨(n : Int) - 1, by omega, by omega, rfl, fun k h1 h2 => by omega, Quiet.refl _⟩
  case round =>
    obtain ⟨i, h1, h2, rfl, hall, hq⟩ := hrel
    have Hall := Lib.hid hall
    clear hall
    by_cases hlt : 0 < i
    · obtain ⟨k, rfl⟩ := Int.eq_ofNat_of_zero_le (show 0 ≤ i by omega)
      obtain ⟨ad, rfl, _, hc1⟩ := (h.quiet hq).at_ (k := k) (by omega)
      obtain ⟨ad2, e2, _, hc2⟩ := (h.quiet hq).at_ (k := k - 1) (by omega)
      obtain rfl := Option.some.inj e2
      by_cases hd : nth xs k < nth xs (k - 1)
      · have Hf := Lib.hid (M.srtB_no (k := k) (by rw [h.len]; omega) (by omega) hd)
        go_wp2_with fail
        go_quiet ((go_at_call 70; exact quiet_l ((Tryd.cmp_Less_int2 _ _ _).mono fun _ _ ⟨a, b⟩ => ⟨a, b.symm⟩)))
        go_wp2
        go_ret
        exact ⟨rb Hf.out.symm, hq.drewN _⟩
      · have hd' : nth xs (k - 1) ≤ nth xs k := by omega
        clear hd
        go_wp2_with fail
        go_quiet ((go_at_call 70; exact quiet_l ((Tryd.cmp_Less_int2 _ _ _).mono fun _ _ ⟨a, b⟩ => ⟨a, b.symm⟩)))
        go_wp2
        go_roundw
        case rel => exact ⟨(k : Int) - 1, by omega, by omega, rfl, fun j hj hjn hj0 => by
          by_cases e : j = k
          · subst e; exact hd'
          · exact Hall.out j (by omega) hjn hj0, hq.drewN _⟩
        case measure => simp [intOf]; omega
    · go_wp2
      go_ret
      have hf : M.srtB xs = true := M.srtB_iff.2 (fun k hk h0 => Hall.out k (by omega) (by rw [h.len] at hk; exact hk) h0)
      exact ⟨rb hf.symm, hq⟩

theorem klenB {xs : List Int} {n : Nat} (h : xs.length = n) : ((M.klen xs : Nat) : Int) = (n : Int) ↔ M.klen xs = xs.length := by omega

set_option maxHeartbeats 400000 in
theorem iLostOk_c (b : Nat) (A : Option Addr) (n c : Nat) (xs : List Int) (p : Int) (w : World) (h : OwnI w b A n c xs) (hn : n ≤ 1048576) :
    Calls Tryd.prog 52 #[.int .i64 p, .slice A n c] w fun e w' => e = .returned (.bool (M.lostB p xs)) ∧ Below w.heap.size w w' := by
  cases hp : M.inB p 1 7 with
  | false =>
    have Hf := Lib.hid (M.lost_no (xs := xs) hp)
    go_enter Tryd.func52, Tryd.ntmps52
    go_wp2_with (go_at_call 33; refine (in_c _ _ _ _).mono ?_; rintro e w' ⟨rfl, rfl⟩)
    go_ret
    exact ⟨rb Hf.out.symm, Below.refl _ _⟩
  | true =>
    obtain ⟨hp1, hp7⟩ := M.inB_true.1 hp
    obtain ⟨q, rfl⟩ := Int.eq_ofNat_of_zero_le (show 0 ≤ p by omega)
    have hw : wrap64 ((2 : Int) ^ q) = 2 ^ q := M.wrap_pow q (by omega)
    have hq1 := M.two_pow_pos q
    have hq2 := M.two_pow_le (show q ≤ 7 by omega)
    have hlo := M.lost_ok (xs := xs) hp
    have hasc := M.asc_of xs
    cases ha : M.allB xs 0 (2 ^ q - 1) with
    | false =>
      rw [ha] at hlo
      have Hf := Lib.hid hlo
      clear hlo
      go_enter Tryd.func52, Tryd.ntmps52
      go_wp2_with fail
      refine (in_c _ _ _ _).mono ?_
      rintro e w' ⟨rfl, rfl⟩
      go_wp2_with fail
      refine (allIn_c A n c xs _ _ _ h.rd).mono ?_
      rintro e w1 ⟨rfl, hb1⟩
      go_wp2
      go_ret
      exact ⟨rb (by rw [Hf.out]; rfl), hb1⟩
    | true =>
      rw [ha, ← hasc] at hlo
      have Hf := Lib.hid hlo
      clear hlo hasc
      go_enter Tryd.func52, Tryd.ntmps52
      go_wp2_with fail
      refine (in_c _ _ _ _).mono ?_
      rintro e w' ⟨rfl, rfl⟩
      go_wp2_with fail
      refine (allIn_c A n c xs _ _ _ h.rd).mono ?_
      rintro e w1 ⟨rfl, hb1⟩
      go_wp2_with fail
      refine (Clone_c b A n c xs _ (h.below hb1) hn).mono ?_
      rintro e w2 ⟨A2, c2, rfl, ho2, hb2⟩
      go_wp2_with fail
      refine (Compact_c _ A2 n c2 xs _ ho2).mono ?_
      rintro e w3 ⟨rfl, hb3⟩
      have hb23 : Below w1.heap.size w1 w3 := hb2.trans hb3
      by_cases hk : M.klen xs = xs.length
      · have hkb : (((M.klen xs : Nat) : Int) == (n : Int)) = true := by rw [beq_iff_eq]; exact (klenB h.1).2 hk
        have Hk := Lib.hid hk
        clear hk
        go_wp2_with fail
        refine (IsSorted_c A n c xs _ ((h.below hb1).rd.below hb23)).mono ?_
        rintro e w4 ⟨rfl, hq4⟩
        go_wp2
        go_ret
        exact ⟨rb (by rw [Hf.out, decide_eq_true Hk.out]; rfl), Below.quiet (bt hb1 hb23) hq4⟩
      · have hkb : (((M.klen xs : Nat) : Int) == (n : Int)) = false := by rw [beq_eq_false_iff_ne]; exact fun e => hk ((klenB h.1).1 e)
        have Hk := Lib.hid hk
        clear hk
        go_wp2
        go_ret
        exact ⟨rb (by rw [Hf.out, decide_eq_false Hk.out]; rfl), bt hb1 hb23⟩

set_option maxHeartbeats 1000000 in
theorem sLostOk_c (A : Option Addr) (n c : Nat) (xs : List Int) (p : Int) (w : World) (h : RdI w A n xs) :
    Calls Tryd.prog 54 #[.int .i64 p, .slice A n c] w fun e w' => e = .returned (.bool (M.lostB p xs)) ∧ Quiet w w' := by
  have hbig := h.big
  cases hp : M.inB p 1 7 with
  | false =>
    have Hf := Lib.hid (M.lost_no (xs := xs) hp)
    go_enter Tryd.func54, Tryd.ntmps54
    go_wp2_with (go_at_call 43; refine (l1In_c _ _ _ _).mono ?_; rintro e w' ⟨rfl, rfl⟩)
    go_ret
    exact ⟨rb Hf.out.symm, Quiet.refl _⟩
  | true =>
    obtain ⟨hp1, hp7⟩ := M.inB_true.1 hp
    obtain ⟨q, rfl⟩ := Int.eq_ofNat_of_zero_le (show 0 ≤ p by omega)
    have hw : wrap64 ((2 : Int) ^ q) = 2 ^ q := M.wrap_pow q (by omega)
    have hq1 := M.two_pow_pos q
    have hq2 := M.two_pow_le (show q ≤ 7 by omega)
    have Hlo := Lib.hid (M.lost_ok (xs := xs) hp)
    go_enter Tryd.func54, Tryd.ntmps54
    go_wp2_with (go_at_call 43; refine (l1In_c _ _ _ _).mono ?_; rintro e w' ⟨rfl, rfl⟩)
    go_loopw [5] (fun i wr => ∃ k : Nat, k ≤ n ∧ i = .int .i64 k ∧ (∀ j, j < k → M.inB (nth xs j) 0 (2 ^ q - 1) = true ∧ (0 < j → nth xs (j - 1) < nth xs j)) ∧ Quiet w wr) (fun i _ => n - (intOf i).toNat)
    case atStart => exact ⟨0, Nat.zero_le _, rfl, fun j hj => by omega, Quiet.refl _⟩
    case round =>
      obtain ⟨k, hk, rfl, hall, hq⟩ := hrel
      have Hall := Lib.hid hall
      clear hall
      by_cases hlt : k < n
      · obtain ⟨ad, rfl, _, hcell⟩ := (h.quiet hq).at_ hlt
        cases hi : M.inB (nth xs k) 0 (2 ^ q - 1) with
        | false =>
          have Hf : Hid (M.lostB (q : Int) xs = false) := Lib.hid (by rw [Hlo.out, M.allB_false (k := k) (by rw [h.len]; exact hlt) (M.inB_false.1 hi)]; rfl)
          have w1 : IntKind.i64.wrap ((2 : Int) ^ q) = 2 ^ q := by rw [IntKind.wrap_i64]; omega
          have w2 : IntKind.i64.wrap ((2 : Int) ^ q - 1) = 2 ^ q - 1 := by rw [IntKind.wrap_i64]; omega
          go_wp2_with fail
          go_quiet ((go_at_call 43; exact quiet_l (l1In_c _ _ _ _)))
          clear w1 w2
          go_wp2
          go_ret
          exact ⟨rb Hf.out.symm, hq.drewN _⟩
        | true =>
          by_cases hk0 : k = 0
          · have b0 : decide (0 < (k : Int)) = false := by simp [hk0]
            have b1 : decide (0 < k) = false := by simp [hk0]
            have Hk0 := Lib.hid hk0
            clear hk0
            have w1 : IntKind.i64.wrap ((2 : Int) ^ q) = 2 ^ q := by rw [IntKind.wrap_i64]; omega
            have w2 : IntKind.i64.wrap ((2 : Int) ^ q - 1) = 2 ^ q - 1 := by rw [IntKind.wrap_i64]; omega
            go_wp2_with fail
            go_quiet ((go_at_call 43; exact quiet_l (l1In_c _ _ _ _)))
            clear w1 w2
            go_wp2
            clear b0 b1
            go_roundw
            case rel => exact ⟨k + 1, by omega, by go_num, fun j hj => by
              by_cases hjk : j < k
              · exact Hall.out j hjk
              · obtain rfl : j = k := by omega
                exact ⟨hi, fun _ => by have := Hk0.out; omega⟩, hq.drewN _⟩
            case measure => simp [intOf]; omega
          · have hk1 : 0 < k := by omega
            have b0 : decide (0 < (k : Int)) = true := by simp; omega
            have b1 : decide (0 < k) = true := by simp; omega
            obtain ⟨ad2, e2, _, hc2⟩ := (h.quiet hq).at_ (k := k - 1) (by omega)
            obtain rfl := Option.some.inj e2
            clear e2
            by_cases hd : nth xs (k - 1) < nth xs k
            · have hd' : decide (nth xs k ≤ nth xs (k - 1)) = false := by simp; omega
              have w1 : IntKind.i64.wrap ((2 : Int) ^ q) = 2 ^ q := by rw [IntKind.wrap_i64]; omega
              have w2 : IntKind.i64.wrap ((2 : Int) ^ q - 1) = 2 ^ q - 1 := by rw [IntKind.wrap_i64]; omega
              have w3 : IntKind.i64.wrap ((k : Int) - 1) = (k : Int) - 1 := by rw [IntKind.wrap_i64]; omega
              have w4 : (0 : Int) ≤ (k : Int) - 1 := by omega
              have w5 : ((k : Int) - 1).toNat = k - 1 := by omega
              go_wp2_with fail
              go_quiet ((go_at_call 43; exact quiet_l (l1In_c _ _ _ _)))
              clear w1 w2 w3 w4 w5
              go_wp2
              clear b0 b1
              go_roundw
              case rel => exact ⟨k + 1, by omega, by go_num, fun j hj => by
                by_cases hjk : j < k
                · exact Hall.out j hjk
                · obtain rfl : j = k := by omega
                  exact ⟨hi, fun _ => by exact hd⟩, hq.drewN _⟩
              case measure => simp [intOf]; omega
            · have hd' : decide (nth xs k ≤ nth xs (k - 1)) = true := by simp; omega
              have Hf : Hid (M.lostB (q : Int) xs = false) := Lib.hid (by rw [Hlo.out, M.ascB_no (k := k) (by rw [h.len]; exact hlt) hk1 hd]; simp)
              have w1 : IntKind.i64.wrap ((2 : Int) ^ q) = 2 ^ q := by rw [IntKind.wrap_i64]; omega
              have w2 : IntKind.i64.wrap ((2 : Int) ^ q - 1) = 2 ^ q - 1 := by rw [IntKind.wrap_i64]; omega
              have w3 : IntKind.i64.wrap ((k : Int) - 1) = (k : Int) - 1 := by rw [IntKind.wrap_i64]; omega
              have w4 : (0 : Int) ≤ (k : Int) - 1 := by omega
              have w5 : ((k : Int) - 1).toNat = k - 1 := by omega
              clear hd
              go_wp2_with fail
              go_quiet ((go_at_call 43; exact quiet_l (l1In_c _ _ _ _)))
              clear w1 w2 w3 w4 w5
              go_wp2
              go_ret
              exact ⟨rb Hf.out.symm, hq.drewN _⟩
      · obtain rfl : k = n := by omega
        have hf : M.lostB (q : Int) xs = true := by
          rw [Hlo.out, Bool.and_eq_true]
          exact ⟨M.allB_iff.2 (fun j hj => M.inB_true.1 (Hall.out j (by rw [← h.len]; exact hj)).1), M.ascB_iff.2 (fun j hj h0 => (Hall.out j (by rw [← h.len]; exact hj)).2 h0)⟩
        have Hf := Lib.hid hf
        clear hf
        go_wp2
        go_ret
        exact ⟨rb Hf.out.symm, hq⟩

end Go.Proofs.YtebjhdipdffkgaaDoor
