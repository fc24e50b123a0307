/- Contracts on weights and bounds: WeightOf, BoundFor, of the program and of the reference. -/
import Derived.Test.YtdpbjepjiloeaaaKnow
import Derived.Deep.RegionLaw
namespace Go.Proofs.Ytdpbjepjiloeaaa
open Go Go.RowKit
open M (nth)

theorem M.w64 (x : Int) : wrap64 x = IntKind.i64.wrap x := by rw [IntKind.wrap_i64, wrap64]
theorem M.mul_bnd {x : Int} {A : Nat} (h0 : 0 ≤ x) (h1 : x ≤ 10) (hA : A ≤ 1024) : 0 ≤ x * (A : Int) ∧ x * (A : Int) ≤ 10240 := by
  have m1 : 0 ≤ x * (A : Int) := Int.mul_nonneg h0 (by omega)
  have m2 : x * (A : Int) ≤ 10 * 1024 := Int.mul_le_mul h1 (by omega) (by omega) (by omega)
  omega
theorem M.weight_bnd {xs : List Int} (h : M.knownB xs = true) {n : Nat} (hn : n < 11) : 0 ≤ M.wgt xs n ∧ M.wgt xs n ≤ 30720 := by
  obtain ⟨j1, j2, j3, -⟩ := M.known_parts h
  have := M.wsum_le j3 hn xs.length (Nat.le_refl _) j2
  unfold M.wgt
  omega

set_option maxHeartbeats 1000000 in
theorem iWeightOf_c (A : Option Addr) (n c : Nat) (xs : List Int) (q : Int) (w : World) (h : RdI w A n xs) :
    Calls Try.prog 14 #[.slice A n c, .int .i64 q] w fun e w' => e = .returned (.int .i64 (M.weightF xs q)) ∧ Below w.heap.size w w' := by
  have hlen := h.len
  go_enter Try.func14, Try.ntmps14
  go_wp2_with fail
  refine (iKnownOk_c A n c xs _ h).mono ?_
  rintro e w1 ⟨rfl, hb1⟩
  have h1 := h.below hb1
  cases hok : M.knownB xs with
  | false =>
    have Hg := Lib.hid (M.weight_no1 (n := q) hok)
    go_wp2
    go_ret
    exact ⟨by rw [Hg.out]; rfl, hb1⟩
  | true =>
    go_wp2_with fail
    refine (in_c _ _ _ _).mono ?_
    rintro e w2 ⟨rfl, rfl⟩
    cases hq : M.inB q 0 9 with
    | false =>
      have Hg := Lib.hid (M.weight_no2 (xs := xs) hq)
      go_wp2
      go_ret
      exact ⟨by rw [Hg.out]; rfl, hb1⟩
    | true =>
      have hq' := M.inB_true.1 hq
      obtain ⟨q, rfl⟩ := Int.eq_ofNat_of_zero_le (show 0 ≤ q by omega)
      have Hg := Lib.hid (M.weight_ok hok hq)
      obtain ⟨j1, j2, j3, -⟩ := M.known_parts hok
      have hws := fun k hk1 hk2 => M.wsum_le j3 (show q < 11 by omega) k hk1 hk2
      have Hws := Lib.hid hws
      have J3 := Lib.hid j3
      clear hok hq hws j3
      go_wp2_with fail
      go_loopg [5, 18] n (fun g v i wr => ∃ k : Nat, k + g = n ∧ i = .int .i64 k ∧ v = .int .i64 (M.wsum xs q k) ∧ wr = w1)
      case atStart => exact ⟨0, by omega, rfl, rfl, rfl⟩
      case round =>
        obtain ⟨k, hk, rfl, rfl, rfl⟩ := hrel
        by_cases hlt : k < n
        · obtain ⟨g, rfl⟩ : ∃ g, gk = g + 1 := ⟨gk - 1, by omega⟩
          obtain ⟨ad, rfl, _, hcell⟩ := h1.at_ hlt
          have hb := Hws.out k (by omega) (by omega)
          have hx := J3.out k (by omega)
          have ha := (M.atm_pow q (by omega) (k + 1) (by omega)).2
          have hm := M.mul_bnd hx.1 hx.2 ha
          have Hs := Lib.hid (show M.wsum xs q (k + 1) = M.wsum xs q k + nth xs k * (M.atm q (k + 1) : Nat) from rfl)
          go_wp2_with fail
          refine (atMost_c q k _ (by omega) (by omega)).mono ?_
          rintro e w3 ⟨rfl, rfl⟩
          go_wp2
          go_roundg g
          case measure => omega
          case rel => exact ⟨k + 1, by omega, by go_num, by rw [Hs.out], by first | rfl | trivial⟩
        · obtain rfl : k = n := by omega
          go_wp2
          go_ret
          exact ⟨by rw [Hg.out, M.wgt, hlen]; rfl, hb1⟩

set_option maxHeartbeats 1000000 in
theorem sWeightOf_c (A : Option Addr) (n c : Nat) (xs : List Int) (q : Int) (w : World) (h : RdI w A n xs) (hn : n ≤ 1048577) :
    Calls Try.prog 38 #[.slice A n c, .int .i64 q] w fun e w' => e = .returned (.int .i64 (M.weightF xs q)) ∧ Quiet w w' := by
  have hlen := h.len
  go_enter Try.func38, Try.ntmps38
  go_wp2_with fail
  refine (sKnownOk_c A n c xs _ h hn).mono ?_
  rintro e w1 ⟨rfl, hq1⟩
  have h1 := h.quiet hq1
  cases hok : M.knownB xs with
  | false =>
    have Hg := Lib.hid (M.weight_no1 (n := q) hok)
    go_wp2
    go_ret
    exact ⟨by rw [Hg.out]; rfl, hq1⟩
  | true =>
    go_wp2_with fail
    refine (l1In_c _ _ _ _).mono ?_
    rintro e w2 ⟨rfl, rfl⟩
    cases hq : M.inB q 0 9 with
    | false =>
      have Hg := Lib.hid (M.weight_no2 (xs := xs) hq)
      go_wp2
      go_ret
      exact ⟨by rw [Hg.out]; rfl, hq1⟩
    | true =>
      have hq' := M.inB_true.1 hq
      obtain ⟨q, rfl⟩ := Int.eq_ofNat_of_zero_le (show 0 ≤ q by omega)
      have Hg := Lib.hid (M.weight_ok hok hq)
      obtain ⟨j1, j2, j3, -⟩ := M.known_parts hok
      have hws := fun k hk1 hk2 => M.wsum_le j3 (show q < 11 by omega) k hk1 hk2
      have Hws := Lib.hid hws
      have J3 := Lib.hid j3
      clear hok hq hws j3
      go_wp2_with fail
      go_loopg [5, 6] n (fun g v i wr => ∃ k : Nat, k + g = n ∧ i = .int .i64 k ∧ v = .int .i64 (M.wsum xs q k) ∧ Quiet w1 wr)
      case atStart => exact ⟨0, by omega, rfl, rfl, Quiet.refl _⟩
      case round =>
        obtain ⟨k, hk, rfl, rfl, hqr⟩ := hrel
        by_cases hlt : k < n
        · obtain ⟨g, rfl⟩ : ∃ g, gk = g + 1 := ⟨gk - 1, by omega⟩
          obtain ⟨ad, rfl, _, hcell⟩ := (h1.quiet hqr).at_ hlt
          have hb := Hws.out k (by omega) (by omega)
          have hx := J3.out k (by omega)
          have ha := (M.atm_pow q (by omega) (k + 1) (by omega)).2
          have hm := M.mul_bnd hx.1 hx.2 ha
          have Hs := Lib.hid (show M.wsum xs q (k + 1) = M.wsum xs q k + nth xs k * (M.atm q (k + 1) : Nat) from rfl)
          have hch : ∀ m, Calls Try.prog 55 #[.int .i64 q, .int .i64 k] (wr.drewN m) fun e w' => e = .returned (.int .i64 (M.atm q (k + 1) : Nat)) ∧ Quiet (wr.drewN m) w' := fun m => l5Choices_c q k _ (by omega)
          generalize M.atm q (k + 1) = V at *
          generalize nth xs k = X at *
          have t1 : IntKind.i64.wrap (X * (V : Int)) = X * (V : Int) := by rw [IntKind.wrap_i64]; omega
          have t2 : IntKind.i64.wrap (M.wsum xs q k + X * (V : Int)) = M.wsum xs q k + X * (V : Int) := by rw [IntKind.wrap_i64]; omega
          go_wp2_with fail
          go_quiet ((go_at_call 55; exact quiet_m (hch _)))
          clear t1 t2
          go_wp2
          go_roundg g
          case measure => omega
          case rel => exact ⟨k + 1, by omega, by go_num, by rw [Hs.out], hqr.drewN _⟩
        · obtain rfl : k = n := by omega
          go_wp2
          go_ret
          exact ⟨by rw [Hg.out, M.wgt, hlen]; rfl, hq1.trans hqr⟩

theorem M.pow9 {n : Nat} (h : n ≤ 10) : (1 : Int) ≤ 2 ^ n ∧ (2 : Int) ^ n ≤ 1024 := by
  have h1 := M.two_pow_pos n
  have h2 := M.two_pow_le h
  omega

set_option maxHeartbeats 1000000 in
theorem sBoundFor_c (A : Option Addr) (n c : Nat) (xs : List Int) (w : World) (h : RdI w A n xs) (hn : n ≤ 1048577) :
    Calls Try.prog 12 #[.slice A n c] w fun e w' => e = .returned (.int .i64 (M.boundF xs)) ∧ Quiet w w' := by
  have hlen := h.len
  go_enter Try.func12, Try.ntmps12
  go_wp2_with fail
  cases hok : M.knownB xs with
  | false =>
    have Hg := Lib.hid (M.bound_no hok)
    go_loopg [3] 0 (fun g i wr => i = .int .i64 0 ∧ wr = w)
    case atStart => exact ⟨rfl, rfl⟩
    case round =>
      obtain ⟨rfl, rfl⟩ := hrel
      go_wp2_with fail
      refine (sKnownOk_c A n c xs _ h hn).mono ?_
      rintro e w1 ⟨rfl, hq1⟩
      rw [hok]
      go_wp2
      go_ret
      exact ⟨by rw [Hg.out]; rfl, hq1⟩
  | true =>
    have Hg := Lib.hid (M.bound_ok hok)
    go_loopg [3] 10 (fun g i wr => ∃ k : Nat, k + g = 10 ∧ i = .int .i64 k ∧ M.boundGo xs 10 0 = M.boundGo xs g k ∧ Quiet w wr)
    case atStart => exact ⟨0, by omega, rfl, rfl, Quiet.refl _⟩
    case round =>
      obtain ⟨k, hk, rfl, hB, hq⟩ := hrel
      have HB := Lib.hid hB
      clear hB
      by_cases hlt : k < 10
      · obtain ⟨g, rfl⟩ : ∃ g, gk = g + 1 := ⟨gk - 1, by omega⟩
        have d0 : decide ((k : Int) ≤ 9) = true := by simp; omega
        have d0' : decide (k ≤ 9) = true := by simp; omega
        go_wp2_with fail
        refine (sKnownOk_c A n c xs _ (h.quiet hq) hn).mono ?_
        rintro e w1 ⟨rfl, hq1⟩
        rw [hok]
        have hq2 := hq.trans hq1
        have hwo := M.weight_ok (n := k) hok (M.inB_true.2 (by omega))
        obtain ⟨hw0, hw1⟩ := M.weight_bnd hok (n := k) (by omega)
        obtain ⟨hp0, hp1⟩ := M.pow9 (n := k) (by omega)
        have t1 : IntKind.i64.wrap ((2 : Int) ^ k) = 2 ^ k := by rw [IntKind.wrap_i64]; omega
        have hcl : ∀ m, Calls Try.prog 38 #[.slice A n c, .int .i64 k] (w1.drewN m) fun e w' => e = .returned (.int .i64 (M.wgt xs k)) ∧ Quiet (w1.drewN m) w' := fun m => by
          have := sWeightOf_c A n c xs k (w1.drewN m) ((h.quiet hq2).quiet ⟨m, rfl⟩) hn
          rwa [hwo] at this
        have hy := M.bound_yes (xs := xs) (g := g) (n := k)
        have hno := M.bound_not (xs := xs) (g := g) (n := k)
        generalize M.wgt xs k = V at *
        have t1' : wrap64 ((2 : Int) ^ k) = 2 ^ k := by rw [M.w64]; exact t1
        by_cases hv : V ≤ 2 ^ k
        · have Hs := Lib.hid (hy hv)
          clear hy hno hwo
          go_wp2_with fail
          go_quiet ((go_at_call 38; exact quiet_m (hcl _)))
          go_wp2
          go_ret
          exact ⟨by rw [Hg.out, HB.out, Hs.out]; rfl, hq2.drewN _⟩
        · have Hs := Lib.hid (hno hv)
          have dv : decide (V ≤ (2 : Int) ^ k) = false := by simp; omega
          clear hy hno hwo hv
          go_wp2_with fail
          go_quiet ((go_at_call 38; exact quiet_m (hcl _)))
          go_wp2
          go_roundg g
          case measure => omega
          case rel => exact ⟨k + 1, by omega, by go_num, HB.out.trans Hs.out, hq2.drewN _⟩
      · obtain rfl : k = 10 := by omega
        obtain rfl : gk = 0 := by omega
        go_wp2
        go_ret
        exact ⟨by rw [Hg.out, HB.out]; rfl, hq⟩

end Go.Proofs.Ytdpbjepjiloeaaa
