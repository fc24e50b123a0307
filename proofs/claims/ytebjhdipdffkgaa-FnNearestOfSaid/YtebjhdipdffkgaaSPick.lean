/- The reference's picked words. -/
import Derived.Test.YtebjhdipdffkgaaWPick
import Derived.WalkMore
import Derived.Deep.LoopGhost
namespace Go.Proofs.Ytebjhdipdffkgaa
open Go Go.RowKit
open M (nth)

set_option maxHeartbeats 1000000 in
theorem sWordsPicked_c (b f : Int) (w : World) : Calls Try.prog 25 #[.int .i64 b, .int .i64 f] w (RetI w (M.picked b f)) := by
  obtain ⟨i0, hi, hz0, hz1, hz2⟩ := info_parts Try.infoInt
  have hb0 : Below w.heap.size w (w.alloc (.cells #[] 3)) := (Below.refl _ _).alloc (Nat.le_refl _) _
  have ho1 := ownI_lit0 w w.heap.size (Nat.le_refl _)
  go_enter Try.func25, Try.ntmps25
  go_wp2_with fail
  go_step3
  go_wp2_with fail
  refine (l1In_c _ _ _ _).mono ?_
  rintro e w1 ⟨rfl, rfl⟩
  cases h1 : M.inB b 1 8 with
  | false =>
    have Hg := Lib.hid (show M.picked b f = [] by simp [M.picked, h1])
    go_wp2
    try rw [Exit.noGoto_ret]
    go_ret
    exact ⟨_, _, _, rfl, by rw [Hg.out]; exact ho1, hb0⟩
  | true =>
    go_wp2_with fail
    refine (l1In_c _ _ _ _).mono ?_
    rintro e w1 ⟨rfl, rfl⟩
    cases h2 : M.inB f 1 b with
    | false =>
      have Hg := Lib.hid (show M.picked b f = [] by simp [M.picked, h2])
      go_wp2
      try rw [Exit.noGoto_ret]
      go_ret
      exact ⟨_, _, _, rfl, by rw [Hg.out]; exact ho1, hb0⟩
    | true =>
      have h1' := M.inB_true.1 h1
      have h2' := M.inB_true.1 h2
      obtain ⟨b', rfl⟩ : ∃ b' : Nat, b = (b' : Int) := ⟨b.toNat, by omega⟩
      obtain ⟨f', rfl⟩ : ∃ f' : Nat, f = (f' : Int) := ⟨f.toNat, by omega⟩
      have Hg := Lib.hid (M.picked_ok h1 h2)
      have h256 := M.pow8 (q := b') (by omega)
      have hw2 : wrap64 ((2 : Int) ^ b') = 2 ^ b' := M.wrap_pow b' (by omega)
      obtain ⟨M0, hM0⟩ : ∃ M0 : Nat, M0 = 2 ^ b' := ⟨_, rfl⟩
      have eM : ((2 : Int) ^ b') = (M0 : Int) := by rw [hM0]; simp
      rw [← hM0] at h256
      replace hw2 := hw2.trans eM
      have HM0 := Lib.hid hM0
      clear hM0 eM
      go_wp2_with fail
      go_step3
      go_wp2_with fail
      go_loopg [5, 6] M0 (fun g v i wr => ∃ (k : Nat) (B : Option Addr) (m d : Nat), k + g = M0 ∧ i = .int .i64 k ∧ v = .slice B m d ∧ OwnI wr w.heap.size B m d (M.pk f' k) ∧ Below w.heap.size w wr)
      case atStart => exact ⟨0, _, _, _, by omega, rfl, rfl, ho1, hb0⟩
      case round =>
        obtain ⟨k, B, m, d, hk, rfl, rfl, hor, hbr⟩ := hrel
        have hlen := hor.1
        have hm16 := M.pk_len f' k
        rw [hlen] at hm16
        have hin := M.pk_nth f' k
        rw [hlen] at hin
        by_cases hlt : k < M0
        · by_cases h16 : m < 16
          · obtain ⟨g, rfl⟩ : ∃ g, gk = g + 1 := ⟨gk - 1, by omega⟩
            have Hin := Lib.hid hin
            clear hin
            have d1 : decide ((m : Int) < 16) = true := by simp; omega
            have d2 : decide (m < 16) = true := by simp; omega
            go_wp2_with fail
            try rw [hw2]
            clear d1 d2 hw2
            go_loopg [7] m (fun g2 i wy => ∃ j : Nat, j + g2 = m ∧ i = .int .i64 j ∧ (Hid (∀ i, i < j → f' ≤ M.farN (nth (M.pk f' k) i).toNat k)) ∧ OwnI wy w.heap.size B m d (M.pk f' k) ∧ Below w.heap.size w wy)
            case atStart => exact ⟨0, by omega, rfl, Lib.hid fun i hi => absurd hi (by omega), hor, hbr⟩
            case round =>
              obtain ⟨j, hj, rfl, Hall, hoy, hby⟩ := hrel
              by_cases hjm : j < m
              · obtain ⟨ad, rfl, _, hcell⟩ := hoy.rd.at_ hjm
                have hi := Hin.out j hjm
                obtain ⟨y, hy⟩ : ∃ y : Nat, nth (M.pk f' k) j = (y : Int) := ⟨(nth (M.pk f' k) j).toNat, by omega⟩
                have hty : (nth (M.pk f' k) j).toNat = y := by rw [hy]; rfl
                have Hty := Lib.hid hty
                rw [hy] at hcell hi
                have Hy := Lib.hid hy
                clear hy hty
                have hfo := M.farOf_ok (a := y) (b := k) (by omega) (by omega)
                go_wp2_with fail
                refine (sFarOf_c y k _).mono ?_
                rintro e w5 ⟨rfl, hq5⟩
                rw [hfo]
                by_cases hf : M.farN y k < f'
                · have Hs := Lib.hid (M.pk_no (f := f') (n := k) (M.okP_near (k := j) (by omega) (by rw [Hty.out]; exact hf)))
                  go_wp2
                  go_roundg g
                  case measure => omega
                  case rel => exact ⟨k + 1, _, _, _, by omega, by go_num, rfl, by rw [Hs.out]; exact hoy.quiet hq5, Below.quiet hby hq5⟩
                · go_wp2
                  go_roundg (m - (j + 1))
                  case measure => omega
                  case rel => exact ⟨j + 1, by omega, by go_num, Lib.hid fun i hi => by
                    by_cases e : i = j
                    · subst e; rw [Hty.out]; omega
                    · exact Hall.out i (by omega), hoy.quiet hq5, Below.quiet hby hq5⟩
              · obtain rfl : j = m := by omega
                have Hs := Lib.hid (M.pk_yes (f := f') (n := k) (M.okP_yes (by omega) fun i hi => Hall.out i (by omega)))
                go_wp2_with (at_builtin; refine wpList_append_own _ rfl _ _ 28 rfl w.heap.size 3 i0 (.int .i64 0) 1 8 Try.underlying28 hi hz0 hz1 hz2 rfl (by decide) _ _ _ rfl (hoy.2.alloc _) ⟨_, 0, none⟩ 1 1 [.int .i64 _] rfl rfl (cell_one_new _ _ _) (by simp [Value.oneCell']) (by unfold maxLen; omega) (by omega) (by have := hby.size; simp; omega) ?_; intro v' w4 hown4 hgrow4 _)
                obtain ⟨g', cap', rfl, ho4, hg4, hg4'⟩ := OwnI.appended hoy.1 hown4
                have hB4 : Below w.heap.size w w4 := (hby.alloc hby.size _).grown hgrow4 (by have := hby.size; simp; omega) (fun j hj => by
                  cases B with
                  | none => cases hj
                  | some ad => cases hj; exact hoy.lt.1)
                rw [← Hs.out] at ho4
                go_roundg g
                case measure => omega
                case rel => exact ⟨k + 1, _, _, _, by omega, by go_num, rfl, ho4, hB4⟩
          · have Hs := Lib.hid (show M.pk f' M0 = M.pk f' k by
              have := M.pk_full (f := f') (k := k) (by omega) (M0 - k)
              rwa [show k + (M0 - k) = M0 by omega] at this)
            go_wp2
            try rw [Exit.noGoto_ret]
            go_ret
            exact ⟨_, _, _, rfl, by rw [Hg.out, ← HM0.out, Hs.out]; exact hor, hbr⟩
        · obtain rfl : k = M0 := by omega
          go_wp2
          try rw [Exit.noGoto_ret]
          go_ret
          exact ⟨_, _, _, rfl, by rw [Hg.out, ← HM0.out]; exact hor, hbr⟩

end Go.Proofs.Ytebjhdipdffkgaa
