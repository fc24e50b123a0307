/- The walk of the law on WordsPicked. -/
import Derived.Test.YtebjhdipdffkgaaWordL6
namespace Go.Proofs.Ytebjhdipdffkgaa
open Go Go.RowKit
open M (nth)

namespace M
theorem pk_near {f : Nat} (hf : 1 ≤ f) : ∀ N, (pk f N).length < 16 → ∀ n, n < N → ∃ x ∈ pk f N, farN x.toNat n < f
  | 0, _, n, h => absurd h (Nat.not_lt_zero _)
  | N + 1, hl, n, hn => by
    cases h : okP f (pk f N) N with
    | true =>
      rw [pk_yes h] at hl ⊢
      by_cases e : n = N
      · subst e
        exact ⟨(n : Int), by simp, by rw [Int.toNat_natCast, far_self]; omega⟩
      · obtain ⟨x, hx, hfx⟩ := pk_near hf N (by simp at hl; omega) n (by omega)
        exact ⟨x, by simp [hx], hfx⟩
    | false =>
      rw [pk_no h] at hl ⊢
      by_cases e : n = N
      · subst e
        unfold okP at h
        rw [decide_eq_true hl, Bool.true_and, List.all_eq_false] at h
        obtain ⟨x, hx, hfx⟩ := h
        exact ⟨x, hx, by simpa using hfx⟩
      · exact pk_near hf N hl n (by omega)
theorem pk_far (f : Nat) : ∀ N, (pk f N).Pairwise fun x y => f ≤ farN x.toNat y.toNat
  | 0 => by simp [pk]
  | N + 1 => by
    cases h : okP f (pk f N) N with
    | false => rw [pk_no h]; exact pk_far f N
    | true =>
      rw [pk_yes h, List.pairwise_append]
      refine ⟨pk_far f N, by simp, fun x hx y hy => ?_⟩
      obtain rfl : y = (N : Int) := by simpa using hy
      unfold okP at h
      rw [Bool.and_eq_true, List.all_eq_true] at h
      have := h.2 x hx
      simpa using this
theorem pk_law {q f : Nat} (h1 : inB (q : Int) 1 8 = true) (h2 : inB (f : Int) 1 (q : Int) = true) :
    wokB (q : Int) (pk f (2 ^ q)) = true ∧ f ≤ lall q (pk f (2 ^ q)) (pk f (2 ^ q)).length ∧ ((pk f (2 ^ q)).length < 16 → ∀ n, n < 2 ^ q → ∃ k, k < (pk f (2 ^ q)).length ∧ farN (nth (pk f (2 ^ q)) k).toNat n < f) := by
  have h1' := inB_true.1 h1
  have h2' := inB_true.1 h2
  have hp := pk_far f (2 ^ q)
  rw [List.pairwise_iff_getElem] at hp
  have hpos : 1 ≤ (pk f (2 ^ q)).length := by
    have := picked_pos h1 h2
    rwa [picked_ok h1 h2] at this
  have hfar : ∀ i j, i < j → j < (pk f (2 ^ q)).length → f ≤ farN (nth (pk f (2 ^ q)) i).toNat (nth (pk f (2 ^ q)) j).toNat := fun i j hij hj => by
    rw [nth_lt hj, nth_lt (show i < (pk f (2 ^ q)).length by omega)]
    exact hp i j (by omega) hj hij
  refine ⟨wok_of (by omega) (by omega) hpos (pk_len _ _) (fun k hk => ?_) (nodup_nth.2 fun i j hij hj e => ?_), lall_iff.2 ⟨by omega, fun i hi t ht => ?_⟩, fun hl n hn => ?_⟩
  · have := pk_nth f (2 ^ q) k hk
    have e := nat_pow q
    omega
  · have := hfar i j hij hj
    rw [e, far_self] at this
    omega
  · rw [far_comm]; exact hfar t i ht hi
  · obtain ⟨x, hx, hfx⟩ := pk_near (f := f) (by omega) (2 ^ q) hl n hn
    obtain ⟨k, hk, rfl⟩ := List.getElem_of_mem hx
    exact ⟨k, hk, by rw [nth_lt hk]; exact hfx⟩
end M

set_option maxHeartbeats 1000000 in
theorem FnWordsPicked_w (w : World) (A : Option Addr) (n c : Nat) (h : RdY w A n c) :
    Calls Try.prog 16 #[.slice A n c] w fun e w' => e = .returned (.bool true) ∧ Below w.heap.size w w' := by
  have hbig := h.big
  by_cases hn : 1048576 < n
  · go_enter Try.func16, Try.ntmps16
    go_wp2
    go_ret
    exact ⟨rfl, Below.refl _ _⟩
  · go_enter Try.func16, Try.ntmps16
    go_wp2_with fail
    refine (DrawWordsPicked_c A n c _ h).mono ?_
    rintro e w1 ⟨⟨a, b, rfl⟩, hb1⟩
    go_wp2_with fail
    refine (iWordsPicked_c a b _).mono ?_
    rintro e w2 ⟨AG, nG, cG, rfl, hG, hb2⟩
    have b2 := bt hb1 hb2
    go_wp2_with fail
    refine (sWordsPicked_c a b _).mono ?_
    rintro e w3 ⟨AW, nW, cW, rfl, hW, hb3⟩
    have b3 := bt b2 hb3
    have hG3 := hG.below hb3
    have e0 := M.eqL_refl (M.picked a b)
    go_wp2_with fail
    refine (sameInts_c AG AW nG cG nW cW _ _ _ hG3.rd hW.rd).mono ?_
    rintro e w4 ⟨rfl, hq4⟩
    have b4 := Below.quiet b3 hq4
    have hG4 := hG3.quiet hq4
    have hlen := hG.1
    have hle := M.picked_le a b
    rw [e0]
    clear hG hG3 hW e0
    by_cases h0 : nG = 0
    · subst h0
      go_wp2_with fail
      refine (alive_c _).mono ?_
      rintro e w' ⟨rfl, rfl⟩
      go_wp2
      go_ret
      exact ⟨rfl, b4⟩
    · have h0' : ((nG : Int) == 0) = false := by simp; omega
      cases h1 : M.inB a 1 8 with
      | false => exact absurd hlen (by simp [M.picked, h1]; omega)
      | true =>
        cases h2 : M.inB b 1 a with
        | false => exact absurd hlen (by simp [M.picked, h2]; omega)
        | true =>
          have h1' := M.inB_true.1 h1
          have h2' := M.inB_true.1 h2
          obtain ⟨q, rfl⟩ : ∃ q : Nat, a = (q : Int) := ⟨a.toNat, by omega⟩
          obtain ⟨f, rfl⟩ : ∃ f : Nat, b = (f : Int) := ⟨b.toNat, by omega⟩
          rw [M.picked_ok h1 h2] at hlen hle hG4
          obtain ⟨l1, l2, l3⟩ := M.pk_law h1 h2
          have hin := M.pk_nth f (2 ^ q)
          have hcap := own_cap hG4
          have Hlo := Lib.hid (M.least_ok l1)
          have h256 := M.pow8 (q := q) (by omega)
          have hw2 : wrap64 ((2 : Int) ^ q) = 2 ^ q := M.wrap_pow q (by omega)
          have L1 := Lib.hid l1
          rw [hlen] at l2 l3 Hlo hin
          generalize M.pk f (2 ^ q) = xs at *
          obtain ⟨M0, hM0⟩ : ∃ M0 : Nat, M0 = 2 ^ q := ⟨_, rfl⟩
          have eM : ((2 : Int) ^ q) = (M0 : Int) := by rw [hM0]; simp
          rw [← hM0] at h256 l3 hin
          replace hw2 := hw2.trans eM
          have L3 := Lib.hid l3
          have Hin := Lib.hid hin
          clear hM0 eM l3 hin l1 h1 h2
          go_wp2_with fail
          go_loopg [6] M0 (fun g i wr => ∃ k : Nat, k + g = M0 ∧ i = .int .i64 k ∧ Quiet w4 wr)
          case atStart => exact ⟨0, by omega, rfl, Quiet.refl _⟩
          case round =>
            obtain ⟨k, hk, rfl, hq⟩ := hrel
            by_cases hlt : k < M0
            · by_cases h16 : nG < 16
              · obtain ⟨g, rfl⟩ : ∃ g, gk = g + 1 := ⟨gk - 1, by omega⟩
                have Hex := Lib.hid (L3.out h16 k hlt)
                have d1 : decide ((nG : Int) < 16) = true := by simp; omega
                have d2 : decide (nG < 16) = true := by simp; omega
                go_wp2_with fail
                try rw [hw2]
                clear hw2 d1 d2
                go_loopg [7, 8] nG (fun g2 v i wy => ∃ (j : Nat) (t : Bool), j + g2 = nG ∧ i = .int .i64 j ∧ v = .bool t ∧ Hid (t = false → ∀ i, i < j → ¬ M.farN (nth xs i).toNat k < f) ∧ Quiet w4 wy)
                case atStart => exact ⟨0, false, by omega, rfl, rfl, Lib.hid (fun _ i hi => absurd hi (Nat.not_lt_zero _)), hq⟩
                case round =>
                  obtain ⟨j, t, hj, rfl, rfl, Hall, hqy⟩ := hrel
                  by_cases hjn : j < nG
                  · obtain ⟨g2, rfl⟩ : ∃ g2, gk = g2 + 1 := ⟨gk - 1, by omega⟩
                    have hi := Hin.out j hjn
                    obtain ⟨x, ex⟩ : ∃ x : Nat, nth xs j = (x : Int) := ⟨(nth xs j).toNat, by omega⟩
                    have hx : x < 256 := by omega
                    obtain ⟨ad, rfl, _, hcell⟩ := (hG4.quiet hqy).rd.at_ hjn
                    rw [ex] at hcell
                    have Ex := Lib.hid ex
                    clear ex hi
                    cases t with
                    | true =>
                      go_wp2_with fail
                      go_roundg g2
                      case measure => omega
                      case rel => exact ⟨j + 1, true, by omega, by go_num, rfl, Lib.hid (fun e => by cases e), hqy⟩
                    | false =>
                      have Hall' := Lib.hid (Hall.out rfl)
                      clear Hall
                      have hfo := M.farOf_ok (a := x) (b := k) hx (by omega)
                      go_wp2_with fail
                      refine (iFarOf_c x k _).mono ?_
                      rintro e w5 ⟨rfl, rfl⟩
                      rw [hfo]
                      by_cases hf : M.farN x k < f
                      · go_wp2
                        go_roundg g2
                        case measure => omega
                        case rel => exact ⟨j + 1, true, by omega, by go_num, by simp <;> omega, Lib.hid (fun e => by cases e), hqy⟩
                      · go_wp2
                        go_roundg g2
                        case measure => omega
                        case rel => exact ⟨j + 1, false, by omega, by go_num, by simp <;> omega, Lib.hid (fun _ i hi => by
                          by_cases e : i = j
                          · subst e; rw [Ex.out, Int.toNat_natCast]; exact hf
                          · exact Hall'.out i (by omega)), hqy⟩
                  · obtain rfl : j = nG := by omega
                    obtain rfl : t = true := by
                      cases t with
                      | true => rfl
                      | false =>
                        obtain ⟨i, hi, hfi⟩ := Hex.out
                        exact absurd hfi (Hall.out rfl i hi)
                    go_wp2
                    go_roundg g
                    case measure => omega
                    case rel => exact ⟨k + 1, by omega, by go_num, hqy⟩
              · have d1 : decide ((nG : Int) < 16) = false := by simp; omega
                have d2 : decide (nG < 16) = false := by simp; omega
                have hG5 := hG4.quiet hq
                have b5 := Below.quiet b4 hq
                go_wp2_with fail
                refine (iWordsOk_c AG nG cG xs q _ hG5.rd (by omega)).mono ?_
                rintro e w6 ⟨rfl, hb6⟩
                rw [L1.out]
                go_wp2_with fail
                refine (iLeastFar_c AG nG cG xs q _ (hG5.below hb6).rd (by omega) hcap).mono ?_
                rintro e w7 ⟨rfl, hb7⟩
                rw [Hlo.out]
                generalize M.lall q xs nG = L at *
                go_wp2
                go_ret
                exact ⟨rfl, bt b5 (bt hb6 hb7)⟩
            · obtain rfl : k = M0 := by omega
              have hG5 := hG4.quiet hq
              have b5 := Below.quiet b4 hq
              go_wp2_with fail
              refine (iWordsOk_c AG nG cG xs q _ hG5.rd (by omega)).mono ?_
              rintro e w6 ⟨rfl, hb6⟩
              rw [L1.out]
              go_wp2_with fail
              refine (iLeastFar_c AG nG cG xs q _ (hG5.below hb6).rd (by omega) hcap).mono ?_
              rintro e w7 ⟨rfl, hb7⟩
              rw [Hlo.out]
              generalize M.lall q xs nG = L at *
              go_wp2
              go_ret
              exact ⟨rfl, bt b5 (bt hb6 hb7)⟩

end Go.Proofs.Ytebjhdipdffkgaa
