/- Contracts of the small helpers that most statements reach. Conditions: that slices read as lists; where one is copied, that it has at most 2 to the 20 numbers. -/
import Derived.Test.YtbhpponandmgnaaBase
namespace Go.Proofs.Ytbhpponandmgnaa
open Go Go.RowKit
open M (nth)

set_option maxHeartbeats 400000 in
theorem in_c (n lo hi : Int) (w : World) : Calls Try.prog 31 #[.int .i64 n, .int .i64 lo, .int .i64 hi] w fun e w' => e = .returned (.bool (M.inB n lo hi)) ∧ w = w' := by
  by_cases h1 : lo ≤ n
  · by_cases h2 : n ≤ hi
    · have e : M.inB n lo hi = true := M.inB_true.2 ⟨h1, h2⟩
      rw [e]; clear e
      go_enter Try.func31, Try.ntmps31
      go_wp2
      go_ret
      exact ⟨rfl, rfl⟩
    · have e : M.inB n lo hi = false := M.inB_false.2 (by omega)
      rw [e]; clear e
      go_enter Try.func31, Try.ntmps31
      go_wp2
      go_ret
      exact ⟨rfl, rfl⟩
  · have e : M.inB n lo hi = false := M.inB_false.2 (by omega)
    rw [e]; clear e
    go_enter Try.func31, Try.ntmps31
    go_wp2
    go_ret
    exact ⟨rfl, rfl⟩
set_option maxHeartbeats 400000 in
theorem l1In_c (n lo hi : Int) (w : World) : Calls Try.prog 20 #[.int .i64 n, .int .i64 lo, .int .i64 hi] w fun e w' => e = .returned (.bool (M.inB n lo hi)) ∧ w = w' := by
  by_cases h1 : lo ≤ n
  · by_cases h2 : n ≤ hi
    · have e : M.inB n lo hi = true := M.inB_true.2 ⟨h1, h2⟩
      rw [e]; clear e
      go_enter Try.func20, Try.ntmps20
      go_wp2
      go_ret
      exact ⟨rfl, rfl⟩
    · have e : M.inB n lo hi = false := M.inB_false.2 (by omega)
      rw [e]; clear e
      go_enter Try.func20, Try.ntmps20
      go_wp2
      go_ret
      exact ⟨rfl, rfl⟩
  · have e : M.inB n lo hi = false := M.inB_false.2 (by omega)
    rw [e]; clear e
    go_enter Try.func20, Try.ntmps20
    go_wp2
    go_ret
    exact ⟨rfl, rfl⟩

theorem BelowMade {w w1 : World} (h : w.grownBy w1 none) : Below w.heap.size w w1 := (Below.refl _ _).grown h (Nat.le_refl _) (fun _ e => by cases e)






theorem two_cells1 (w : World) (u v : Value) (s t : TypeId) : ((w.alloc (.cells #[u] s)).alloc (.cells #[v] t)).cell? ⟨w.heap.size, 0, none⟩ = some u := by
  rw [World.cell?_alloc_past _ _ _ (by simp), World.cell?_alloc_at _ _ _ _ rfl]; rfl
theorem two_cells2 (w : World) (u v : Value) (s t : TypeId) : ((w.alloc (.cells #[u] s)).alloc (.cells #[v] t)).cell? ⟨w.heap.size + 1, 0, none⟩ = some v := by
  rw [World.cell?_alloc_at _ _ _ _ (by simp)]; rfl

theorem LeastQuestions_c (x : Int) (w : World) (h1 : 1 ≤ x) (h2 : x ≤ 1000000) :
    Calls Try.prog 25 #[.int .i64 x] w fun e w' => e = .returned (.int .i64 (M.lq x)) ∧ w = w' := by
  have hin : M.inB x 1 1000000 = true := M.inB_true.2 ⟨h1, h2⟩
  go_enter Try.func25, Try.ntmps25
  go_wp2_with (go_at_call 31; refine (in_c _ _ _ _).mono ?_; rintro e w' ⟨rfl, rfl⟩)
  go_loop [3] (fun i => ∃ k : Nat, k ≤ 20 ∧ i = .int .i64 k ∧ M.lqGo x (20 - k) k = M.lqGo x 20 0) (fun i => 20 - (intOf i).toNat)
  case atStart => exact ⟨0, by omega, rfl, rfl⟩
  case round =>
    obtain ⟨k, hk, rfl, hgo⟩ := hrel
    have Hgo := Lib.hid hgo
    clear hgo
    have hw : wrap64 ((2 : Int) ^ k) = 2 ^ k := M.wrap_pow k (by omega)
    by_cases hc : (2 : Int) ^ k < x
    · have hk20 := M.pow_lt_20 k hk (by omega)
      go_wp2
      go_round
      case rel => exact ⟨k + 1, by omega, by go_num, by rw [← Hgo.out]; exact M.lqGo_step x k hk20 hc⟩
      case measure => simp [intOf]; omega
    · have hf := M.lqGo_stop x (20 - k) k hc
      have Hf := Lib.hid hf
      clear hf
      go_wp2
      go_ret
      exact ⟨ri (by unfold M.lq; rw [← Hgo.out, Hf.out]), rfl⟩

theorem lq8 : M.lq 8 = 3 := by decide
theorem lq9 : M.lq 9 = 4 := by decide
set_option maxHeartbeats 400000 in
theorem alive_c (w : World) : Calls Try.prog 11 #[] w fun e w' => e = .returned (.bool true) ∧ w = w' := by
  go_enter Try.func11, Try.ntmps11
  go_wp2_with fail
  refine (LeastQuestions_c 8 _ (by omega) (by omega)).mono ?_
  rintro e w' ⟨rfl, rfl⟩
  rw [lq8]
  go_wp2_with fail
  refine (LeastQuestions_c 9 _ (by omega) (by omega)).mono ?_
  rintro e w' ⟨rfl, rfl⟩
  rw [lq9]
  go_wp2_with fail
  go_ret
  exact ⟨rfl, rfl⟩

end Go.Proofs.Ytbhpponandmgnaa
