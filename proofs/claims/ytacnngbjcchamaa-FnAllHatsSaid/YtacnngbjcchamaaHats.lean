/- Contracts of the functions of the hats. -/
import Derived.Test.YtacnngbjcchamaaDraw
import Derived.Test.YtacnngbjcchamaaHMath
namespace Go.Proofs.Ytacnngbjcchamaa
open Go Go.RowKit
open M (nth)

set_option maxHeartbeats 400000 in
theorem sHatsOk_c (A : Option Addr) (n c : Nat) (xs : List Int) (col : Int) (w : World) (h : RdI w A n xs) :
    Calls Try.prog 17 #[.int .i64 col, .slice A n c] w fun e w' => e = .returned (.bool (M.hatsB col xs)) ∧ w = w' := by
  have hbig := h.big
  go_enter Try.func17, Try.ntmps17
  go_wp2
  go_loop [5] (fun i => ∃ k : Nat, k ≤ n ∧ i = .int .i64 k ∧ (∀ j, j < k → M.inB (nth xs j) 0 (wrap64 (col - 1)) = true)) (fun i => n - (intOf i).toNat)
  case atStart => exact ⟨0, Nat.zero_le _, rfl, fun j hj => by omega⟩
  case round =>
    obtain ⟨k, hk, rfl, hall⟩ := hrel
    have Hall := Lib.hid hall
    clear hall
    by_cases hlt : k < n
    · obtain ⟨ad, rfl, hadb, hcell⟩ := h.at_ hlt
      cases he : M.inB (nth xs k) 0 (wrap64 (col - 1)) with
      | true =>
        go_wp2_with (go_at_call 49; refine (l1In_c _ _ _ _).mono ?_; rintro e w' ⟨rfl, rfl⟩)
        go_round
        case rel => exact ⟨k + 1, by omega, by go_num, fun j hj => by
          by_cases hjk : j < k
          · exact Hall.out j hjk
          · obtain rfl : j = k := by omega
            exact he⟩
        case measure => simp [intOf]; omega
      | false =>
        have hf := M.hats_bad (by rw [h.len]; exact hlt) he
        have Hf := Lib.hid hf
        clear hf
        go_wp2_with (go_at_call 49; refine (l1In_c _ _ _ _).mono ?_; rintro e w' ⟨rfl, rfl⟩)
        go_ret
        exact ⟨rb Hf.out.symm, rfl⟩
    · obtain rfl : k = n := by omega
      cases hc : M.inB col 1 5 with
      | true =>
        have hf := M.hats_all h.len hc Hall.out
        have Hf := Lib.hid hf
        clear hf
        go_wp2_with (go_at_call 49; refine (l1In_c _ _ _ _).mono ?_; rintro e w' ⟨rfl, rfl⟩)
        go_ret
        exact ⟨rb Hf.out.symm, rfl⟩
      | false =>
        have hf := M.hats_no_c (xs := xs) hc
        have Hf := Lib.hid hf
        clear hf
        go_wp2_with (go_at_call 49; refine (l1In_c _ _ _ _).mono ?_; rintro e w' ⟨rfl, rfl⟩)
        go_ret
        exact ⟨rb Hf.out.symm, rfl⟩

set_option maxHeartbeats 400000 in
theorem iHatsOk_c (A : Option Addr) (n c : Nat) (xs : List Int) (col : Int) (w : World) (h : RdI w A n xs) :
    Calls Try.prog 19 #[.int .i64 col, .slice A n c] w fun e w' => e = .returned (.bool (M.hatsB col xs)) ∧ Below w.heap.size w w' := by
  have hbig := h.big
  cases hc : M.inB col 1 5 with
  | false =>
    have Hf := Lib.hid (M.hats_no_c (xs := xs) hc)
    go_enter Try.func19, Try.ntmps19
    go_wp2_with (go_at_call 50; refine (in_c _ _ _ _).mono ?_; rintro e w' ⟨rfl, rfl⟩)
    go_ret
    exact ⟨rb Hf.out.symm, Below.refl _ _⟩
  | true =>
    obtain ⟨hc1, hc2⟩ := M.inB_true.1 hc
    cases hl : M.inB (n : Int) 1 5 with
    | false =>
      have Hf : Hid (M.hatsB col xs = false) := Lib.hid (by simp [M.hatsB, h.len, hl])
      go_enter Try.func19, Try.ntmps19
      go_wp2_with (go_at_call 50; refine (in_c _ _ _ _).mono ?_; rintro e w' ⟨rfl, rfl⟩)
      go_ret
      exact ⟨rb Hf.out.symm, Below.refl _ _⟩
    | true =>
      have Hf : Hid (M.hatsB col xs = M.allB xs 0 (col - 1)) := Lib.hid (by simp [M.hatsB, h.len, hl, hc])
      go_enter Try.func19, Try.ntmps19
      go_wp2_with (first | (go_at_call 50; refine (in_c _ _ _ _).mono ?_; rintro e w' ⟨rfl, rfl⟩) | (go_at_call 51; refine (allIn_c A n c xs _ _ _ h).mono ?_; rintro e w' ⟨rfl, hb⟩))
      go_ret
      exact ⟨rb Hf.out.symm, hb⟩

end Go.Proofs.Ytacnngbjcchamaa
