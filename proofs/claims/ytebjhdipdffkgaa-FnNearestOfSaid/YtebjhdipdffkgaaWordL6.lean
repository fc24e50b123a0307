/- The walks of the laws on drawn words: WordsOk, LeastFar, NearestOf, SurePast. -/
import Derived.Test.YtebjhdipdffkgaaWordL5
import Derived.Test.YtebjhdipdffkgaaWDraw
namespace Go.Proofs.Ytebjhdipdffkgaa
open Go Go.RowKit
open M (nth)

theorem RdI.take {w : World} {A : Option Addr} {n j : Nat} {xs : List Int} (h : RdI w A n xs) (hj : j ≤ n) : RdI w A j (xs.take j) :=
  ⟨by rw [List.length_take, h.len]; omega, by have := h.big; omega, fun h0 => by
    obtain ⟨ad, e, hlt, hc⟩ := h.cells (by omega)
    exact ⟨ad, e, hlt, fun k hk => by rw [M.nth_take hk]; exact hc k (by omega)⟩⟩
theorem M.wok_zero {q : Nat} (h1 : 1 ≤ q) (h2 : q ≤ 8) : M.wokB (q : Int) [0] = true := by
  refine M.wok_of h1 h2 (by simp) (by simp) (fun k hk => ?_) (by simp)
  obtain rfl : k = 0 := by simpa using hk
  have := M.two_pow_pos q
  exact ⟨Int.le_refl _, this⟩

set_option maxHeartbeats 1000000 in
theorem FnWordsOk_w (w : World) (A : Option Addr) (n c : Nat) (h : RdY w A n c) :
    Calls Try.prog 11 #[.slice A n c] w fun e w' => e = .returned (.bool true) ∧ Below w.heap.size w w' := by
  have hbig := h.big
  by_cases hn : 1048576 < n
  · go_enter Try.func11, Try.ntmps11
    go_wp2
    go_ret
    exact ⟨rfl, Below.refl _ _⟩
  · go_enter Try.func11, Try.ntmps11
    go_wp2_with fail
    refine (DrawWordsOk_c A n c _ h).mono ?_
    rintro e w1 ⟨⟨b, A', m, c', xs, rfl, hb1, hb8, hm, ho⟩, hbel⟩
    have hcap := own_cap ho
    have hlen := ho.1
    go_wp2_with fail
    refine (iWordsOk_c A' m c' xs b _ ho.rd (by omega)).mono ?_
    rintro e w2 ⟨rfl, hb2⟩
    have b2 := bt hbel hb2
    go_wp2_with fail
    refine (sWordsOk_c A' m c' xs b _ (ho.below hb2).rd).mono ?_
    rintro e w3 ⟨rfl, hq3⟩
    have b3 := Below.quiet b2 hq3
    have ho3 := (ho.below hb2).quiet hq3
    have hlit := ownI_lit w3 w3.heap.size #[.int .i64 0] 1 [0] (Nat.le_refl _) (by omega) rfl rfl
    have hbl : Below w3.heap.size w3 (w3.alloc (.cells #[.int .i64 0] 3)) := (Below.refl _ _).alloc (Nat.le_refl _) _
    have hz := M.wok_zero hb1 hb8
    have ht := fun hj : 2 ≤ m => M.wok_take (b := (b : Int)) (xs := xs) (m := m - 1)
    have Ht := Lib.hid ht
    clear ht
    go_wp2_with fail
    refine (iWordsOk_c (some ⟨w3.heap.size, 0, none⟩) 1 1 [0] b _ hlit.rd (by omega)).mono ?_
    rintro e w4 ⟨rfl, hb4⟩
    have b4 := bt b3 (bt hbl hb4)
    have ho4 := (ho3.below hbl).below hb4
    cases hok : M.wokB (b : Int) xs with
    | false =>
      go_wp2_with fail
      refine (alive_c _).mono ?_
      rintro e w' ⟨rfl, rfl⟩
      go_wp2
      go_ret
      exact ⟨rfl, b4⟩
    | true =>
      by_cases hm2 : m < 2
      · go_wp2_with fail
        refine (alive_c _).mono ?_
        rintro e w' ⟨rfl, rfl⟩
        go_wp2
        go_ret
        exact ⟨rfl, b4⟩
      · have htk := Ht.out (by omega) hok (by omega)
        obtain ⟨k, rfl⟩ : ∃ k, m = k + 1 := ⟨m - 1, by omega⟩
        rw [Nat.add_sub_cancel] at htk
        obtain ⟨g, rfl, _, _⟩ := ho4.at0 (by omega)
        go_wp2_with fail
        refine (iWordsOk_c (some ⟨g, 0, none⟩) k c' (xs.take k) b _ (ho4.rd.take (by omega)) (by omega)).mono ?_
        rintro e w5 ⟨rfl, hb5⟩
        go_wp2_with fail
        refine (alive_c _).mono ?_
        rintro e w' ⟨rfl, rfl⟩
        go_wp2
        go_ret
        exact ⟨rfl, bt b4 hb5⟩

set_option maxHeartbeats 1000000 in
theorem FnSurePast_w (w : World) (A : Option Addr) (n c : Nat) (h : RdY w A n c) :
    Calls Try.prog 9 #[.slice A n c] w fun e w' => e = .returned (.bool true) ∧ Below w.heap.size w w' := by
  have hbig := h.big
  by_cases hn : 1048576 < n
  · go_enter Try.func9, Try.ntmps9
    go_wp2
    go_ret
    exact ⟨rfl, Below.refl _ _⟩
  · go_enter Try.func9, Try.ntmps9
    go_wp2_with fail
    refine (DrawSurePast_c A n c _ h).mono ?_
    rintro e w1 ⟨⟨b, A', m, c', xs, y, rfl, hb1, hb8, hm, ho⟩, hbel⟩
    have hcap := own_cap ho
    have hlen := ho.1
    go_wp2_with fail
    refine (iSurePast_c A' m c' xs b y _ ho.rd (by omega)).mono ?_
    rintro e w2 ⟨rfl, hb2⟩
    have b2 := bt hbel hb2
    go_wp2_with fail
    refine (sSurePast_c A' m c' xs b y _ (ho.below hb2).rd).mono ?_
    rintro e w3 ⟨rfl, hq3⟩
    have b3 := Below.quiet b2 hq3
    have ho3 := (ho.below hb2).quiet hq3
    cases hok : M.wokB (b : Int) xs with
    | false =>
      have hs := M.sure_no1 (l := y) hok
      rw [hs]
      go_wp2_with fail
      refine (sWordsOk_c A' m c' xs b _ ho3.rd).mono ?_
      rintro e w4 ⟨rfl, hq4⟩
      rw [hok]
      go_wp2_with fail
      refine (alive_c _).mono ?_
      rintro e w' ⟨rfl, rfl⟩
      go_wp2
      go_ret
      exact ⟨rfl, Below.quiet b3 hq4⟩
    | true =>
      by_cases hy0 : y < 0
      · have hs := M.sure_no2 (b := (b : Int)) (l := y) (xs := xs) (M.inB_false.2 (by omega))
        rw [hs]
        go_wp2_with fail
        refine (sWordsOk_c A' m c' xs b _ ho3.rd).mono ?_
        rintro e w4 ⟨rfl, hq4⟩
        rw [hok]
        go_wp2_with fail
        refine (alive_c _).mono ?_
        rintro e w' ⟨rfl, rfl⟩
        go_wp2
        go_ret
        exact ⟨rfl, Below.quiet b3 hq4⟩
      · by_cases hyb : (b : Int) < y
        · have hs := M.sure_no2 (b := (b : Int)) (l := y) (xs := xs) (M.inB_false.2 (by omega))
          rw [hs]
          go_wp2_with fail
          refine (sWordsOk_c A' m c' xs b _ ho3.rd).mono ?_
          rintro e w4 ⟨rfl, hq4⟩
          rw [hok]
          go_wp2_with fail
          refine (alive_c _).mono ?_
          rintro e w' ⟨rfl, rfl⟩
          go_wp2
          go_ret
          exact ⟨rfl, Below.quiet b3 hq4⟩
        · obtain ⟨l, rfl⟩ : ∃ l : Nat, y = (l : Int) := ⟨y.toNat, by omega⟩
          have hiff := M.sure_iff hok (l := l) (by omega)
          have hlo := M.least_ok hok
          have hle := M.lall_le b xs xs.length
          rw [hlen] at hiff hlo hle
          generalize hv : M.sureB (b : Int) xs (l : Int) = v at *
          clear hv
          have Hiff := Lib.hid hiff
          have Hlo := Lib.hid hlo
          clear hiff hlo
          generalize M.lall b xs m = L at *
          go_wp2_with fail
          refine (sWordsOk_c A' m c' xs b _ ho3.rd).mono ?_
          rintro e w4 ⟨rfl, hq4⟩
          rw [hok]
          have ho4 := ho3.quiet hq4
          have b4 := Below.quiet b3 hq4
          by_cases hm1 : m = 1
          · subst hm1
            obtain rfl : v = true := Hiff.out.2 (.inl rfl)
            go_wp2
            go_ret
            exact ⟨rfl, b4⟩
          · have hm1' : ((m : Int) == 1) = false := by simp; omega
            go_wp2_with fail
            refine (iLeastFar_c A' m c' xs b _ ho4.rd (by omega) hcap).mono ?_
            rintro e w5 ⟨rfl, hb5⟩
            rw [Hlo.out]
            by_cases hL : 2 * l < L
            · obtain rfl : v = true := Hiff.out.2 (.inr hL)
              have d1 : decide (2 * (l : Int) < L) = true := by simp; omega
              go_wp2
              go_ret
              exact ⟨rfl, bt b4 hb5⟩
            · obtain rfl : v = false := by
                cases v with
                | false => rfl
                | true => rcases Hiff.out.1 rfl with e | e <;> omega
              have d1 : decide (2 * (l : Int) < L) = false := by simp; omega
              go_wp2
              go_ret
              exact ⟨rfl, bt b4 hb5⟩

end Go.Proofs.Ytebjhdipdffkgaa
