/- Contracts of NearestOf and SurePast, of the program and of the reference. -/
import Derived.Test.YtebjhdipdffkgaaDoorWLeast
namespace Go.Proofs.YtebjhdipdffkgaaDoor
open Go Go.RowKit
open M (nth)

theorem M.wok_hid {n : Nat} {b : Int} {xs : List Int} (hok : M.wokB b xs = true) (hlen : xs.length = n) : Hid (∀ k : Nat, k < n → ∃ x : Nat, nth xs k = (x : Int) ∧ x < 256) := Lib.hid fun k hk => by
  obtain ⟨x, e, _, hx⟩ := M.wok_nat hok (k := k) (by omega)
  exact ⟨x, e, hx⟩
theorem M.near_in {xs : List Int} {a n k : Nat} (hk : k < n) : M.nearK xs a k < n := by
  have := M.near_lt (xs := xs) (a := a) k
  omega

set_option maxHeartbeats 1000000 in
theorem iSurePast_c (A : Option Addr) (n c : Nat) (xs : List Int) (b l : Int) (w : World) (h : RdI w A n xs) (hn : n ≤ 1048576) :
    Calls Tryd.prog 17 #[.int .i64 b, .slice A n c, .int .i64 l] w fun e w' => e = .returned (.bool (M.sureB b xs l)) ∧ Below w.heap.size w w' := by
  have hlen := h.len
  go_enter Tryd.func17, Tryd.ntmps17
  go_wp2_with fail
  refine (iWordsOk_c A n c xs b _ h hn).mono ?_
  rintro e w1 ⟨rfl, hb1⟩
  have h1 := h.below hb1
  cases hok : M.wokB b xs with
  | false =>
    have Hf := Lib.hid (M.sure_no1 (l := l) hok)
    go_wp2
    go_ret
    exact ⟨rb Hf.out.symm, hb1⟩
  | true =>
    obtain ⟨q, rfl, q1, q8, l1, l16, -, -⟩ := M.wok_parts hok
    have Hwn := M.wok_hid hok hlen
    go_wp2_with fail
    refine (in_c _ _ _ _).mono ?_
    rintro e w2 ⟨rfl, rfl⟩
    cases hl : M.inB l 0 (q : Int) with
    | false =>
      have Hf := Lib.hid (M.sure_no2 (xs := xs) hl)
      go_wp2
      go_ret
      exact ⟨rb Hf.out.symm, hb1⟩
    | true =>
      have Hf := Lib.hid (M.sure_ok hok hl)
      have Hno := Lib.hid fun a ha hw => M.sure_ok_no (q := q) (a := a) (l := l) (xs := xs) ha hw
      have hw2 : wrap64 ((2 : Int) ^ q) = 2 ^ q := M.wrap_pow q (by omega)
      have h256 := M.pow8 q8
      obtain ⟨M0, hM0⟩ : ∃ M0 : Nat, M0 = 2 ^ q := ⟨_, rfl⟩
      have eM : ((2 : Int) ^ q) = (M0 : Int) := by rw [hM0]; simp
      rw [← hM0] at h256
      replace hw2 := hw2.trans eM
      have HM0 := Lib.hid hM0
      clear hM0 eM hok hl
      go_wp2_with fail
      rw [hw2]
      clear hw2
      go_loopg [20] M0 (fun g i wr => ∃ k : Nat, k + g = M0 ∧ i = .int .i64 k ∧ Hid (∀ a, a < k → M.wiN xs a l n ≤ 1) ∧ wr = w1)
      case atStart => exact ⟨0, by omega, rfl, Lib.hid (fun a ha => absurd ha (Nat.not_lt_zero _)), rfl⟩
      case round =>
        obtain ⟨k, hk, rfl, Hall, rfl⟩ := hrel
        by_cases hlt : k < M0
        · obtain ⟨g, rfl⟩ : ∃ g, gk = g + 1 := ⟨gk - 1, by omega⟩
          go_wp2_with fail
          refine (within_c A n c xs k l _ h1 (fun j hj => by obtain ⟨x, e, hx⟩ := Hwn.out j hj; omega) (by omega)).mono ?_
          rintro e w3 ⟨rfl, rfl⟩
          have hle := M.wiN_le xs k l n
          by_cases hv : M.wiN xs k l n ≤ 1
          · have Hv := Lib.hid hv
            have d1 : decide (1 < ((M.wiN xs k l n : Nat) : Int)) = false := by simp; omega
            clear hv
            go_wp2
            go_roundg g
            case measure => omega
            case rel => exact ⟨k + 1, by omega, by go_num, Lib.hid (fun a ha => by
              by_cases e : a = k
              · subst e; exact Hv.out
              · exact Hall.out a (by omega)), by first | rfl | trivial⟩
          · have Hs := Lib.hid (Hno.out k (by rw [← HM0.out]; exact hlt) (by rw [hlen]; exact hv))
            have d1 : decide (1 < ((M.wiN xs k l n : Nat) : Int)) = true := by simp; omega
            clear hv
            go_wp2
            go_ret
            exact ⟨rb Hs.out.symm, hb1⟩
        · obtain rfl : k = M0 := by omega
          have Hs := Lib.hid (Hf.out.2 (fun a ha => by rw [hlen]; exact Hall.out a (by rw [HM0.out]; exact ha)))
          go_wp2
          go_ret
          exact ⟨rb Hs.out.symm, hb1⟩

end Go.Proofs.YtebjhdipdffkgaaDoor
