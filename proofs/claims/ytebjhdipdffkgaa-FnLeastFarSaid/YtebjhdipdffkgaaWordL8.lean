/- The walk of the law on LeastFar. -/
import Derived.Test.YtebjhdipdffkgaaWordL6
namespace Go.Proofs.Ytebjhdipdffkgaa
open Go Go.RowKit
open M (nth)

theorem M.sure_half {q : Nat} {xs : List Int} (h : M.wokB (q : Int) xs = true) {L : Nat} (hL : M.lall q xs xs.length = L + 1) : M.sureB (q : Int) xs ((L / 2 : Nat) : Int) = true := by
  have := M.lall_le q xs xs.length
  exact (M.sure_iff h (by omega)).2 (.inr (by omega))

set_option maxHeartbeats 1000000 in
theorem FnLeastFar_w (w : World) (A : Option Addr) (n c : Nat) (h : RdY w A n c) :
    Calls Try.prog 13 #[.slice A n c] w fun e w' => e = .returned (.bool true) ∧ Below w.heap.size w w' := by
  have hbig := h.big
  by_cases hn : 1048576 < n
  · go_enter Try.func13, Try.ntmps13
    go_wp2
    go_ret
    exact ⟨rfl, Below.refl _ _⟩
  · go_enter Try.func13, Try.ntmps13
    go_wp2_with fail
    refine (DrawLeastFar_c A n c _ h).mono ?_
    rintro e w1 ⟨⟨b, A', m, c', xs, rfl, hb1, hb8, hm, ho⟩, hbel⟩
    have hcap := own_cap ho
    have hlen := ho.1
    go_wp2_with fail
    refine (iLeastFar_c A' m c' xs b _ ho.rd (by omega) hcap).mono ?_
    rintro e w2 ⟨rfl, hb2⟩
    have b2 := bt hbel hb2
    go_wp2_with fail
    refine (sLeastFar_c A' m c' xs b _ (ho.below hb2).rd).mono ?_
    rintro e w3 ⟨rfl, hq3⟩
    have b3 := Below.quiet b2 hq3
    have ho3 := (ho.below hb2).quiet hq3
    cases hok : M.wokB (b : Int) xs with
    | false =>
      rw [M.least_no hok]
      go_wp2_with fail
      refine (alive_c _).mono ?_
      rintro e w' ⟨rfl, rfl⟩
      go_wp2
      go_ret
      exact ⟨rfl, b3⟩
    | true =>
      have hpos := M.lall_pos hok
      have hle := M.lall_le b xs xs.length
      obtain ⟨L, hL⟩ : ∃ L, M.lall b xs xs.length = L + 1 := ⟨M.lall b xs xs.length - 1, by omega⟩
      have hsure := M.sure_half hok hL
      have Htk := Lib.hid fun (k : Nat) (hk : k ≤ xs.length) (h1 : 1 ≤ k) => (⟨M.least_ok (M.wok_take hok h1), M.lall_take (b := b) hk⟩ : M.leastF (b : Int) (xs.take k) = _ ∧ _)
      rw [M.least_ok hok, hL]
      rw [hL] at hpos hle
      rw [show ((L / 2 : Nat) : Int) = (L : Int) / 2 by omega] at hsure
      have HL := Lib.hid hL
      clear hL
      by_cases hm2 : m < 2
      · go_wp2_with fail
        refine (iSurePast_c A' m c' xs b ((L : Int) / 2) _ ho3.rd (by omega)).mono ?_
        rintro e w5 ⟨rfl, hb5⟩
        go_wp2
        go_ret
        exact ⟨rfl, bt b3 hb5⟩
      · obtain ⟨k, rfl⟩ : ∃ k, m = k + 1 := ⟨m - 1, by omega⟩
        obtain ⟨t1, t2⟩ := Htk.out k (by omega) (by omega)
        obtain ⟨g, rfl, _, _⟩ := ho3.at0 (by omega)
        go_wp2_with fail
        refine (iLeastFar_c (some ⟨g, 0, none⟩) k c' (xs.take k) b _ (ho3.rd.take (by omega)) (by omega) (by omega)).mono ?_
        rintro e w4 ⟨rfl, hb4⟩
        rw [t1]
        rw [HL.out] at t2
        clear t1
        generalize M.lall b (xs.take k) (xs.take k).length = L2 at *
        have d0 : decide ((k : Int) + 1 < 2) = false := by simp; omega
        have d1 : decide ((L : Int) + 1 ≤ (L2 : Int)) = true := by simp; omega
        go_wp2_with fail
        refine (iSurePast_c _ (k + 1) c' xs b ((L : Int) / 2) _ (ho3.below hb4).rd (by omega)).mono ?_
        rintro e w5 ⟨rfl, hb5⟩
        go_wp2
        go_ret
        exact ⟨rfl, bt b3 (bt hb4 hb5)⟩

end Go.Proofs.Ytebjhdipdffkgaa
