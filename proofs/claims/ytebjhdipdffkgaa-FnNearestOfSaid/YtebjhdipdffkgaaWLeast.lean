/- Contracts of LeastFar, NearestOf and SurePast, of the program and of the reference. -/
import Derived.Test.YtebjhdipdffkgaaWOk
namespace Go.Proofs.Ytebjhdipdffkgaa
open Go Go.RowKit
open M (nth)

set_option maxHeartbeats 1000000 in
theorem iLeastFar_c (A : Option Addr) (n c : Nat) (xs : List Int) (b : Int) (w : World) (h : RdI w A n xs) (hn : n ≤ 1048576) (hc : n ≤ c) :
    Calls Try.prog 32 #[.int .i64 b, .slice A n c] w fun e w' => e = .returned (.int .i64 (M.leastF b xs)) ∧ Below w.heap.size w w' := by
  have hlen := h.len
  go_enter Try.func32, Try.ntmps32
  go_wp2_with fail
  refine (iWordsOk_c A n c xs b _ h hn).mono ?_
  rintro e w1 ⟨rfl, hb1⟩
  have h1 := h.below hb1
  cases hok : M.wokB b xs with
  | false =>
    have Hf := Lib.hid (M.least_no hok)
    go_wp2
    go_ret
    exact ⟨by rw [Hf.out]; rfl, hb1⟩
  | true =>
    obtain ⟨q, rfl, q1, q8, l1, l16, -, -⟩ := M.wok_parts hok
    have Hf := Lib.hid (M.least_ok hok)
    have hwn : ∀ k : Nat, k < n → ∃ x : Nat, nth xs k = (x : Int) ∧ x < 256 := fun k hk => by
      obtain ⟨x, e, _, hx⟩ := M.wok_nat hok (k := k) (by omega)
      exact ⟨x, e, hx⟩
    have Hwn := Lib.hid hwn
    clear hwn hok
    have hle := M.lall_le q xs
    have Hle := Lib.hid hle
    clear hle
    go_wp2_with fail
    go_loopg [5, 18] n (fun g v i wr => ∃ k : Nat, k + g = n ∧ i = .int .i64 k ∧ v = .int .i64 (M.lall q xs k : Nat) ∧ wr = w1)
    case atStart => exact ⟨0, by omega, rfl, rfl, rfl⟩
    case round =>
      obtain ⟨k, hk, rfl, rfl, rfl⟩ := hrel
      by_cases hlt : k < n
      · obtain ⟨g, rfl⟩ : ∃ g, gk = g + 1 := ⟨gk - 1, by omega⟩
        obtain ⟨ad, rfl, _, hcell⟩ := h1.at_ hlt
        obtain ⟨x, ex, hx⟩ := Hwn.out k hlt
        have hs : M.lall q xs (k + 1) = M.lrow xs x (M.lall q xs k) k := by simp only [M.lall, ex, Int.toNat_natCast]
        have Hs := Lib.hid hs
        clear hs
        rw [ex] at hcell
        clear ex
        have hl0 := Hle.out k
        generalize M.lall q xs k = acc at *
        go_wp2_with fail
        go_loopg [5, 27] k (fun g2 v i wy => ∃ j : Nat, j + g2 = k ∧ i = .int .i64 j ∧ v = .int .i64 (M.lrow xs x acc j : Nat) ∧ wy = wr)
        case atStart => exact ⟨0, by omega, rfl, rfl, rfl⟩
        case round =>
          obtain ⟨j, hj, rfl, rfl, rfl⟩ := hrel
          by_cases hjk : j < k
          · obtain ⟨g2, rfl⟩ : ∃ g2, gk = g2 + 1 := ⟨gk - 1, by omega⟩
            obtain ⟨ad', e', _, hc'⟩ := h1.at_ (show j < n by omega)
            obtain rfl := Option.some.inj e'
            clear e'
            obtain ⟨y, ey, hy⟩ := Hwn.out j (by omega)
            have hs : M.lrow xs x acc (j + 1) = min (M.lrow xs x acc j) (M.farN x y) := by simp only [M.lrow, ey, Int.toNat_natCast]
            have Hs2 := Lib.hid hs
            clear hs
            rw [ey] at hc'
            clear ey
            go_wp2_with fail
            refine (iFar_c x y _ hx hy).mono ?_
            rintro e w3 ⟨rfl, rfl⟩
            go_wp2
            go_roundg g2
            case measure => omega
            case rel => exact ⟨j + 1, by omega, by go_num, by rw [Hs2.out]; simp; omega, by first | rfl | trivial⟩
          · obtain rfl : j = k := by omega
            go_wp2
            go_roundg g
            case measure => omega
            case rel => exact ⟨j + 1, by omega, by go_num, by rw [Hs.out], by first | rfl | trivial⟩
      · obtain rfl : k = n := by omega
        go_wp2
        go_ret
        exact ⟨by rw [Hf.out, hlen]; rfl, hb1⟩

set_option maxHeartbeats 1000000 in
theorem sLeastFar_c (A : Option Addr) (n c : Nat) (xs : List Int) (b : Int) (w : World) (h : RdI w A n xs) :
    Calls Try.prog 40 #[.int .i64 b, .slice A n c] w fun e w' => e = .returned (.int .i64 (M.leastF b xs)) ∧ Quiet w w' := by
  have hlen := h.len
  have hbig := h.big
  go_enter Try.func40, Try.ntmps40
  go_wp2_with fail
  refine (sWordsOk_c A n c xs b _ h).mono ?_
  rintro e w1 ⟨rfl, hq1⟩
  have h1 := h.quiet hq1
  cases hok : M.wokB b xs with
  | false =>
    have Hf := Lib.hid (M.least_no hok)
    go_wp2
    go_ret
    exact ⟨by rw [Hf.out]; rfl, hq1⟩
  | true =>
    obtain ⟨q, rfl, q1, q8, l1, l16, -, -⟩ := M.wok_parts hok
    have Hf := Lib.hid (M.least_ok hok)
    have hwn : ∀ k : Nat, k < n → ∃ x : Nat, nth xs k = (x : Int) ∧ x < 256 := fun k hk => by
      obtain ⟨x, e, _, hx⟩ := M.wok_nat hok (k := k) (by omega)
      exact ⟨x, e, hx⟩
    have Hwn := Lib.hid hwn
    clear hwn hok
    have hle := M.lall_le q xs
    have Hle := Lib.hid hle
    clear hle
    go_wp2_with fail
    go_loopg [5, 6] n (fun g v i wr => ∃ k : Nat, k + g = n ∧ i = .int .i64 k ∧ v = .int .i64 (M.lall q xs k : Nat) ∧ Quiet w1 wr)
    case atStart => exact ⟨0, by omega, rfl, rfl, Quiet.refl _⟩
    case round =>
      obtain ⟨k, hk, rfl, rfl, hqr⟩ := hrel
      by_cases hlt : k < n
      · obtain ⟨g, rfl⟩ : ∃ g, gk = g + 1 := ⟨gk - 1, by omega⟩
        obtain ⟨ad, rfl, _, -⟩ := h1.at_ hlt
        obtain ⟨x, ex, hx⟩ := Hwn.out k hlt
        have hs : M.lall q xs (k + 1) = M.lrow xs x (M.lall q xs k) k := by simp only [M.lall, ex, Int.toNat_natCast]
        have Hs := Lib.hid hs
        clear hs
        have Ex := Lib.hid ex
        clear ex
        have hl0 := Hle.out k
        generalize M.lall q xs k = acc at *
        go_wp2_with fail
        go_loopg [5, 7] k (fun g2 v i wy => ∃ j : Nat, j + g2 = k ∧ i = .int .i64 j ∧ v = .int .i64 (M.lrow xs x acc j : Nat) ∧ Quiet w1 wy)
        case atStart => exact ⟨0, by omega, rfl, rfl, hqr⟩
        case round =>
          obtain ⟨j, hj, rfl, rfl, hqy⟩ := hrel
          by_cases hjk : j < k
          · obtain ⟨g2, rfl⟩ : ∃ g2, gk = g2 + 1 := ⟨gk - 1, by omega⟩
            obtain ⟨ad', e', _, hc'⟩ := (h1.quiet hqy).at_ (show j < n by omega)
            obtain rfl := Option.some.inj e'
            clear e'
            obtain ⟨ad', e', _, hc2⟩ := (h1.quiet hqy).at_ hlt
            obtain rfl := Option.some.inj e'
            clear e'
            obtain ⟨y, ey, hy⟩ := Hwn.out j (by omega)
            have hs : M.lrow xs x acc (j + 1) = min (M.lrow xs x acc j) (M.farN x y) := by simp only [M.lrow, ey, Int.toNat_natCast]
            have Hs2 := Lib.hid hs
            clear hs
            rw [ey] at hc'
            rw [Ex.out] at hc2
            clear ey
            have hfo := M.farOf_ok (a := y) (b := x) hy hx
            have hco := M.far_comm y x
            have hfar : ∀ m, Calls Try.prog 22 #[.int .i64 y, .int .i64 x] (wr.drewN m) fun e w' => e = .returned (.int .i64 (M.farN x y : Nat)) ∧ Quiet (wr.drewN m) w' := fun m => by
              have := sFarOf_c y x (wr.drewN m)
              rwa [hfo, hco] at this
            clear hfo hco
            generalize M.farN x y = fv at *
            go_wp2_with fail
            go_quiet ((go_at_call 22; exact quiet_m (hfar _)))
            go_wp2
            go_roundg g2
            case measure => omega
            case rel => exact ⟨j + 1, by omega, by go_num, by rw [Hs2.out]; simp; omega, hqy.drewN _⟩
          · obtain rfl : j = k := by omega
            go_wp2
            go_roundg g
            case measure => omega
            case rel => exact ⟨j + 1, by omega, by go_num, by rw [Hs.out], hqy⟩
      · obtain rfl : k = n := by omega
        go_wp2
        go_ret
        exact ⟨by rw [Hf.out, hlen]; rfl, hq1.trans hqr⟩

end Go.Proofs.Ytebjhdipdffkgaa
