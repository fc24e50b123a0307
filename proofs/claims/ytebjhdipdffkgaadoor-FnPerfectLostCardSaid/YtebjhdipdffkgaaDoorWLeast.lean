/- Contracts of LeastFar, NearestOf and SurePast, of the program and of the reference. -/
import Derived.Test.YtebjhdipdffkgaaDoorWOk
namespace Go.Proofs.YtebjhdipdffkgaaDoor
open Go Go.RowKit
open M (nth)

set_option maxHeartbeats 1000000 in
theorem iLeastFar_c (A : Option Addr) (n c : Nat) (xs : List Int) (b : Int) (w : World) (h : RdI w A n xs) (hn : n ≤ 1048576) (hc : n ≤ c) :
    Calls Tryd.prog 16 #[.int .i64 b, .slice A n c] w fun e w' => e = .returned (.int .i64 (M.leastF b xs)) ∧ Below w.heap.size w w' := by
  have hlen := h.len
  go_enter Tryd.func16, Tryd.ntmps16
  go_wp2_with fail
  refine (iWordsOk_c A n c xs b _ h hn).mono ?_
  rintro e w1 ⟨rfl, hb1⟩
  have h1 := h.below hb1
  cases hok : M.wokB b xs with
  | false =>
    have Hf := Lib.hid (M.least_no hok)
    go_wp2
    go_ret
    exact ⟨by rw [Hf.out]; rfl, hb1⟩
  | true =>
    obtain ⟨q, rfl, q1, q8, l1, l16, -, -⟩ := M.wok_parts hok
    have Hf := Lib.hid (M.least_ok hok)
    have hwn : ∀ k : Nat, k < n → ∃ x : Nat, nth xs k = (x : Int) ∧ x < 256 := fun k hk => by
      obtain ⟨x, e, _, hx⟩ := M.wok_nat hok (k := k) (by omega)
      exact ⟨x, e, hx⟩
    have Hwn := Lib.hid hwn
    clear hwn hok
    have hle := M.lall_le q xs
    have Hle := Lib.hid hle
    clear hle
    go_wp2_with fail
    go_loopg [5, 18] n (fun g v i wr => ∃ k : Nat, k + g = n ∧ i = .int .i64 k ∧ v = .int .i64 (M.lall q xs k : Nat) ∧ wr = w1)
    case atStart => exact ⟨0, by omega, rfl, rfl, rfl⟩
    case round =>
      obtain ⟨k, hk, rfl, rfl, rfl⟩ := hrel
      by_cases hlt : k < n
      · obtain ⟨g, rfl⟩ : ∃ g, gk = g + 1 := ⟨gk - 1, by omega⟩
        obtain ⟨ad, rfl, _, hcell⟩ := h1.at_ hlt
        obtain ⟨x, ex, hx⟩ := Hwn.out k hlt
        have hs : M.lall q xs (k + 1) = M.lrow xs x (M.lall q xs k) k := by simp only [M.lall, ex, Int.toNat_natCast]
        have Hs := Lib.hid hs
        clear hs
        rw [ex] at hcell
        clear ex
        have hl0 := Hle.out k
        generalize M.lall q xs k = acc at *
        go_wp2_with fail
        go_loopg [5, 27] k (fun g2 v i wy => ∃ j : Nat, j + g2 = k ∧ i = .int .i64 j ∧ v = .int .i64 (M.lrow xs x acc j : Nat) ∧ wy = wr)
        case atStart => exact ⟨0, by omega, rfl, rfl, rfl⟩
        case round =>
          obtain ⟨j, hj, rfl, rfl, rfl⟩ := hrel
          by_cases hjk : j < k
          · obtain ⟨g2, rfl⟩ : ∃ g2, gk = g2 + 1 := ⟨gk - 1, by omega⟩
            obtain ⟨ad', e', _, hc'⟩ := h1.at_ (show j < n by omega)
            obtain rfl := Option.some.inj e'
            clear e'
            obtain ⟨y, ey, hy⟩ := Hwn.out j (by omega)
            have hs : M.lrow xs x acc (j + 1) = min (M.lrow xs x acc j) (M.farN x y) := by simp only [M.lrow, ey, Int.toNat_natCast]
            have Hs2 := Lib.hid hs
            clear hs
            rw [ey] at hc'
            clear ey
            go_wp2_with fail
            refine (iFar_c x y _ hx hy).mono ?_
            rintro e w3 ⟨rfl, rfl⟩
            go_wp2
            go_roundg g2
            case measure => omega
            case rel => exact ⟨j + 1, by omega, by go_num, by rw [Hs2.out]; simp; omega, by first | rfl | trivial⟩
          · obtain rfl : j = k := by omega
            go_wp2
            go_roundg g
            case measure => omega
            case rel => exact ⟨j + 1, by omega, by go_num, by rw [Hs.out], by first | rfl | trivial⟩
      · obtain rfl : k = n := by omega
        go_wp2
        go_ret
        exact ⟨by rw [Hf.out, hlen]; rfl, hb1⟩


end Go.Proofs.YtebjhdipdffkgaaDoor
