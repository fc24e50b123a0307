/- Contract on the program's BoundFor. -/
import Derived.Test.YtdpbjepjiloeaaaWgt
import Derived.Deep.RegionWith
namespace Go.Proofs.Ytdpbjepjiloeaaa
open Go Go.RowKit
open M (nth)

theorem below_quietL {B : Nat} {a b : World} (h : Below B a.drew b) : Below B a b := ⟨h.os, h.tape, h.output, h.size, h.block⟩

set_option maxHeartbeats 1000000 in
theorem bound1_c (A : Option Addr) (n c : Nat) (xs : List Int) (k Bp : Nat) (w : World) (h : RdI w A n xs) (hok : M.knownB xs = true) (hk : k < 10) (hc : w.cell? ⟨Bp, 0, none⟩ = some (.slice A n c)) :
    Calls Try.prog 36 #[.int .i64 k, .pointer (some ⟨Bp, 0, none⟩)] w fun e w' => e = .returned (.bool (decide (M.wgt xs k ≤ 2 ^ k))) ∧ Below w.heap.size w w' := by
  have hwo := M.weight_ok (n := k) hok (M.inB_true.2 (by omega))
  obtain ⟨hp0, hp1⟩ := M.pow9 (n := k) (by omega)
  have t1 : IntKind.i64.wrap ((2 : Int) ^ k) = 2 ^ k := by rw [IntKind.wrap_i64]; omega
  have t1' : wrap64 ((2 : Int) ^ k) = 2 ^ k := by rw [M.w64]; exact t1
  have hD : RdI w.drew A n xs := h.quiet ⟨1, rfl⟩
  have hcall : Calls Try.prog 14 #[.slice A n c, .int .i64 k] w.drew fun e w' => e = .returned (.int .i64 (M.wgt xs k)) ∧ Below w.heap.size w.drew w' := by
    have := iWeightOf_c A n c xs k w.drew hD
    rwa [hwo] at this
  go_enter Try.func36, Try.ntmps36
  go_wp2_with fail
  go_region_with (go_at_call 14; refine hcall.mono ?_; rintro e w' ⟨rfl, hb⟩)
  all_goals
    go_wp2
    go_ret
    exact ⟨rfl, below_quietL hb⟩

set_option maxHeartbeats 1000000 in
theorem fewestB_c (A : Option Addr) (n c : Nat) (xs : List Int) (Bp : Nat) (w : World) (h : RdI w A n xs) (hc : w.cell? ⟨Bp, 0, none⟩ = some (.slice A n c)) (hB : Bp < w.heap.size) :
    Calls Try.prog 35 #[.slice A n c, .func (.func 36) #[] #[.pointer (some ⟨Bp, 0, none⟩)]] w fun e w' => e = .returned (.int .i64 (M.boundF xs)) ∧ Below w.heap.size w w' := by
  go_enter Try.func35, Try.ntmps35
  go_wp2_with fail
  refine (iKnownOk_c A n c xs _ h).mono ?_
  rintro e w1 ⟨rfl, hb1⟩
  cases hok : M.knownB xs with
  | false =>
    have Hg := Lib.hid (M.bound_no hok)
    go_wp2
    go_ret
    exact ⟨by rw [Hg.out]; rfl, hb1⟩
  | true =>
    have Hg := Lib.hid (M.bound_ok hok)
    go_wp2_with fail
    go_loopg [9] 10 (fun g i wr => ∃ k : Nat, k + g = 10 ∧ i = .int .i64 k ∧ M.boundGo xs 10 0 = M.boundGo xs g k ∧ Below w.heap.size w wr)
    case atStart => exact ⟨0, by omega, rfl, rfl, hb1⟩
    case round =>
      obtain ⟨k, hk, rfl, hBd, hbr⟩ := hrel
      have HB := Lib.hid hBd
      clear hBd
      by_cases hlt : k < 10
      · obtain ⟨g, rfl⟩ : ∃ g, gk = g + 1 := ⟨gk - 1, by omega⟩
        have Hy := Lib.hid (M.bound_yes (xs := xs) (g := g) (n := k))
        have Hno := Lib.hid (M.bound_not (xs := xs) (g := g) (n := k))
        have hcr : wr.cell? ⟨Bp, 0, none⟩ = some (.slice A n c) := (hbr.cell (p := ⟨Bp, 0, none⟩) hB).trans hc
        go_wp2_with fail
        refine (bound1_c A n c xs k Bp _ (h.below hbr) hok hlt hcr).mono ?_
        rintro e w2 ⟨rfl, hb2⟩
        have b2 := bt hbr hb2
        by_cases hv : M.wgt xs k ≤ 2 ^ k
        · have Hs := Lib.hid (Hy.out hv)
          rw [decide_eq_true hv]
          clear hv
          go_wp2
          go_ret
          exact ⟨by rw [Hg.out, HB.out, Hs.out]; rfl, b2⟩
        · have Hs := Lib.hid (Hno.out (by first | exact hv | exact Int.not_le.1 hv))
          rw [decide_eq_false (p := M.wgt xs k ≤ 2 ^ k) (by first | exact hv | exact Int.not_le.1 hv)]
          clear hv
          go_wp2
          go_roundg g
          case measure => omega
          case rel => exact ⟨k + 1, by omega, by go_num, HB.out.trans Hs.out, b2⟩
      · obtain rfl : k = 10 := by omega
        obtain rfl : gk = 0 := by omega
        go_wp2
        go_ret
        exact ⟨by rw [Hg.out, HB.out]; rfl, hbr⟩

set_option maxHeartbeats 1000000 in
theorem iBoundFor_c (A : Option Addr) (n c : Nat) (xs : List Int) (w : World) (h : RdI w A n xs) :
    Calls Try.prog 11 #[.slice A n c] w fun e w' => e = .returned (.int .i64 (M.boundF xs)) ∧ Below w.heap.size w w' := by
  have hb0 : Below w.heap.size w (w.alloc (.cells #[.slice A n c] 23)) := (Below.refl _ _).alloc (Nat.le_refl _) _
  have hc0 : (w.alloc (.cells #[.slice A n c] 23)).cell? ⟨w.heap.size, 0, none⟩ = some (.slice A n c) := by rw [World.cell?_alloc_at _ _ _ _ rfl]; rfl
  go_enter Try.func11, Try.ntmps11
  go_wp2_with fail
  refine (fewestB_c A n c xs w.heap.size _ (h.below hb0) hc0 (by simp)).mono ?_
  rintro e w1 ⟨rfl, hb1⟩
  go_wp2
  go_ret
  exact ⟨rfl, bt hb0 hb1⟩

end Go.Proofs.Ytdpbjepjiloeaaa
