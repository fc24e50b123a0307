/- The contract of the reference's AllHats. No condition. -/
import Derived.Test.YtacnngbjcchamaaRoR
import Derived.Test.YtacnngbjcchamaaHRowsM
namespace Go.Proofs.Ytacnngbjcchamaa
open Go Go.RowKit
open M (nth)

namespace M
/-- The first n rows by their digits. -/
def dgR (C P n : Nat) : List (List Int) := (List.range n).map fun j => digs C P j P
theorem dgR_zero (C P : Nat) : dgR C P 0 = [] := rfl
theorem dgR_succ (C P n : Nat) : dgR C P (n + 1) = dgR C P n ++ [digs C P n P] := by simp [dgR, List.range_succ]
theorem length_dgR (C P n : Nat) : (dgR C P n).length = n := by simp [dgR]
theorem length_digs (C P n : Nat) : ∀ k, (digs C P n k).length = k
  | 0 => rfl
  | k + 1 => by simp [digs, length_digs C P n k]
theorem powN_pos {C : Nat} (h : 1 ≤ C) : ∀ k, 1 ≤ powN C k
  | 0 => Nat.le_refl _
  | k + 1 => Nat.mul_pos (powN_pos h k) h
theorem powN_mono {C : Nat} (h : 1 ≤ C) {j k : Nat} (hjk : j ≤ k) : powN C j ≤ powN C k := by
  rw [powN_eq, powN_eq]; exact Nat.pow_le_pow_right h hjk
theorem rest_step {C P k : Nat} : powN C P / powN C k / C = powN C P / powN C (k + 1) := by
  rw [Nat.div_div_eq_div_mul]; rfl
theorem rest_pos {C P k : Nat} (h : 1 ≤ C) (hk : k ≤ P) : 1 ≤ powN C P / powN C k := Nat.div_pos (powN_mono h hk) (powN_pos h k)
end M

theorem own_free (v : Value) : v.ownBlock = none ∨ v.ownBlock ≠ none := by cases h : v.ownBlock <;> simp

set_option maxHeartbeats 1000000 in
theorem sAllHats_c (p c : Int) (w : World) : Calls Try.prog 39 #[.int .i64 p, .int .i64 c] w (RetR w (M.waysL p c)) := by
  obtain ⟨i0, hi, hz0, hz1, hz2⟩ := info_parts Try.infoInt
  obtain ⟨i1, hj, hy0, hy1, hy2⟩ := info_parts Try.infoRow
  have hb1 : Below w.heap.size w (w.alloc (.cells #[] 22)) := (Below.refl _ _).alloc (Nat.le_refl _) _
  have ho1 := ownR_lit0 w w.heap.size (Nat.le_refl _)
  cases hp : M.inB p 1 5 with
  | false =>
    have Hg := Lib.hid (M.ways_no (p := p) (c := c) (by simp [M.waysOk, hp]))
    go_enter Try.func39, Try.ntmps39
    go_wp2_with fail
    refine (l1In_c _ _ _ _).mono ?_
    rintro e w' ⟨rfl, rfl⟩
    go_wp2
    go_ret
    exact ⟨_, _, _, rfl, by rw [Hg.out]; exact ho1, hb1⟩
  | true =>
    cases hc : M.inB c 1 5 with
    | false =>
      have Hg := Lib.hid (M.ways_no (p := p) (c := c) (by simp [M.waysOk, hc]))
      go_enter Try.func39, Try.ntmps39
      go_wp2_with fail
      refine (l1In_c _ _ _ _).mono ?_
      rintro e w' ⟨rfl, rfl⟩
      go_wp2_with fail
      refine (l1In_c _ _ _ _).mono ?_
      rintro e w' ⟨rfl, rfl⟩
      go_wp2
      go_ret
      exact ⟨_, _, _, rfl, by rw [Hg.out]; exact ho1, hb1⟩
    | true =>
      have hp' := M.inB_true.1 hp
      have hc' := M.inB_true.1 hc
      obtain ⟨P, rfl⟩ := Int.eq_ofNat_of_zero_le (show 0 ≤ p by omega)
      obtain ⟨C, rfl⟩ := Int.eq_ofNat_of_zero_le (show 0 ≤ c by omega)
      have hle := fun k (hk : k ≤ 6) => M.powN_le (c := C) (by omega) k hk
      have Hle := Lib.hid hle
      clear hle
      go_enter Try.func39, Try.ntmps39
      go_wp2_with fail
      refine (l1In_c _ _ _ _).mono ?_
      rintro e w' ⟨rfl, rfl⟩
      go_wp2_with fail
      refine (l1In_c _ _ _ _).mono ?_
      rintro e w' ⟨rfl, rfl⟩
      go_wp2_with fail
      go_loop [6, 7] (fun s i => ∃ k : Nat, k ≤ P ∧ i = .int .i64 k ∧ s = .int .i64 (M.powN C k : Nat)) (fun _ i => P - (intOf i).toNat)
      case atStart => exact ⟨0, Nat.zero_le _, rfl, rfl⟩
      case round =>
        obtain ⟨k, hk, rfl, rfl⟩ := hrel
        have h1 := Hle.out k (by omega)
        by_cases hlt : k < P
        · have h2 := Hle.out (k + 1) (by omega)
          have Hs := Lib.hid (show ((M.powN C (k + 1) : Nat) : Int) = ((M.powN C k : Nat) : Int) * (C : Int) by simp [M.powN])
          have Hw := Lib.hid (show wrap64 (((M.powN C k : Nat) : Int) * (C : Int)) = ((M.powN C k : Nat) : Int) * (C : Int) by rw [← Hs.out, wrap64]; omega)
          go_wp2
          go_round
          case rel => exact ⟨k + 1, by omega, by go_num, by rw [Hs.out, Hw.out]⟩
          case measure => simp [intOf]; omega
        · obtain rfl : k = P := by omega
          obtain ⟨T, hT⟩ : ∃ T, T = M.powN C k := ⟨_, rfl⟩
          rw [← hT] at h1 ⊢
          have hT1 : 1 ≤ T := by rw [hT]; exact M.powN_pos (by omega) k
          by_cases hbig : 1000 < T
          · have Hg := Lib.hid (M.ways_no (p := (k : Int)) (c := (C : Int)) (by
              have : ¬ M.powN C k ≤ 1000 := by omega
              simp [M.waysOk, this]))
            have HT := Lib.hid hT
            clear hT
            go_wp2_with fail
            refine wp_loop_rounds 1 ?_
            rw [rounds_succ]
            go_wp2
            go_ret
            exact ⟨_, _, _, rfl, by rw [Hg.out]; exact ho1, hb1⟩
          · have hok : M.waysOk (k : Int) (C : Int) = true := by
              have : M.powN C k ≤ 1000 := by omega
              simp [M.waysOk, this, hp, hc]
            have Hg := Lib.hid (M.ways_digs hok)
            clear hok
            have HT := Lib.hid hT
            clear hT
            have dT : decide ((T : Int) ≤ 1000) = true := decide_eq_true (by omega)
            go_wp2_with fail
            go_loopg [5, 8, 9, 10, 11] T (fun g v i r1 r2 r3 wr => ∃ (n : Nat) (A : Option Addr) (N c2 : Nat), n + g = T ∧ i = .int .i64 n ∧ v = .slice A N c2 ∧ OwnR wr w.heap.size A N c2 (M.dgR C k n) ∧ Below w.heap.size w wr)
            case atStart => exact ⟨0, _, _, _, by omega, rfl, rfl, ho1, hb1⟩
            case round =>
              obtain ⟨n, A, N, c2, hng, rfl, rfl, hor, hbr⟩ := hrel
              clear ho1 hb1
              have hN : N = n := by have := hor.len; rw [M.length_dgR] at this; omega
              by_cases hlt : n < T
              · obtain ⟨g, rfl⟩ : ∃ g, gk = g + 1 := ⟨gk - 1, by omega⟩
                have hbz : Below wr.heap.size wr (wr.alloc (.cells #[] 3)) := (Below.refl _ _).alloc (Nat.le_refl _) _
                have hoz := ownI_lit0 wr wr.heap.size (Nat.le_refl _)
                have HN := Lib.hid hN
                have hN5 : N ≤ 1000 := by omega
                clear hN
                go_wp2_with fail
                obtain ⟨wo, hwo⟩ : ∃ wo : World, wo = wr := ⟨_, rfl⟩
                subst hwo
                go_loopg [9, 10, 11] k (fun g v r i wy => ∃ (j : Nat) (B : Option Addr) (m d : Nat), j + g = k ∧ i = .int .i64 j ∧ r = .int .i64 (T / M.powN C j : Nat) ∧ v = .slice B m d ∧ OwnI wy wo.heap.size B m d (M.digs C k n j) ∧ Below wo.heap.size wo wy)
                case atStart => exact ⟨0, _, _, _, by omega, rfl, by simp [M.powN], rfl, hoz, hbz⟩
                case round =>
                  obtain ⟨j, B, m, d, hjg, rfl, rfl, rfl, hoy, hby⟩ := hrel
                  clear hoz hbz
                  have hm : m = j := by have := hoy.1; rw [M.length_digs] at this; omega
                  by_cases hj3 : j < k
                  · obtain ⟨g2, rfl⟩ : ∃ g2, gk = g2 + 1 := ⟨gk - 1, by omega⟩
                    have hst : T / M.powN C j / C = T / M.powN C (j + 1) := by rw [HT.out]; exact M.rest_step
                    have hpos : 1 ≤ T / M.powN C (j + 1) := by rw [HT.out]; exact M.rest_pos (by omega) (by omega)
                    have hle1 : T / M.powN C j ≤ T := Nat.div_le_self _ _
                    have hle2 : T / M.powN C (j + 1) ≤ T := Nat.div_le_self _ _
                    have hs : M.digs C k n (j + 1) = M.digs C k n j ++ [(((n : Int) / ((T / M.powN C (j + 1) : Nat) : Int)) % (C : Int))] := by
                      simp only [M.digs]; rw [← HT.out]; push_cast; rfl
                    have Hs := Lib.hid hs
                    clear hs
                    generalize hR2 : T / M.powN C (j + 1) = R2 at *
                    have HR2 := Lib.hid hR2
                    clear hR2
                    generalize T / M.powN C j = R1 at *
                    have hdv : (R1 : Int) / (C : Int) = (R2 : Int) := by rw [← hst]; rfl
                    have hd0 : 0 ≤ (n : Int) / (R2 : Int) := Int.ediv_nonneg (by omega) (by omega)
                    have hd1 : (n : Int) / (R2 : Int) ≤ (n : Int) := Int.ediv_le_self _ (by omega)
                    have hmB : m ≤ 5 := by omega
                    have Hm := Lib.hid hm
                    clear hst hm
                    go_wp2_with (at_builtin; refine wpList_append_own _ rfl _ _ 22 rfl wo.heap.size 3 i0 (.int .i64 0) 1 8 Try.underlying22 hi hz0 hz1 hz2 rfl (by decide) _ _ _ rfl (hoy.2.alloc _) ⟨_, 0, none⟩ 1 1 [.int .i64 _] rfl rfl (cell_one_new _ _ _) (by simp [Value.oneCell']) (by unfold maxLen; omega) (by omega) (by have := hby.size; simp; omega) ?_; intro v' w4 hown4 hgrow4 _)
                    obtain ⟨g', cap', rfl, ho4, hg4, hg4'⟩ := OwnI.appended hoy.1 hown4
                    have hB4 : Below wo.heap.size wo w4 := (hby.alloc hby.size _).grown hgrow4 (by have := hby.size; simp; omega) (fun j hj => by
                      cases B with
                      | none => cases hj
                      | some ad => cases hj; exact hoy.lt.1)
                    rw [← Hs.out] at ho4
                    go_roundg g2
                    case measure => omega
                    case rel => exact ⟨j + 1, _, _, _, by omega, by go_num, by rw [HR2.out], rfl, ho4, hB4⟩
                  · obtain rfl : j = k := by omega
                    clear hm
                    obtain ⟨vs, hl1, hr1, hR1⟩ := hor
                    have hr2 := hr1.kept (grown_of_below hby) (own_free _)
                    have hbs := hby.size
                    have hbs2 := hbr.size
                    go_wp2_with (at_builtin; refine wpList_append_own _ rfl _ _ 35 rfl w.heap.size 22 i1 (.slice none 0 0) 1 24 Try.underlying35 hj hy0 hy1 hy2 rfl (by decide) _ _ _ rfl (hr2.alloc _) ⟨_, 0, none⟩ 1 1 [.slice B m d] rfl rfl (cell_one_new _ _ _) (by simp [Value.oneCell']) (by unfold maxLen; omega) (by omega) (by simp; omega) ?_; intro v' w5 hown5 hgrow5 _)
                    obtain ⟨g', c', rfl, hO5⟩ := OwnR.appended hl1 hr2 hR1 hby hoy hbs2 hown5 hgrow5
                    have hB5 : Below w.heap.size w w5 := ((hbr.trans (hby.mono hbs2)).alloc (by omega) _).grown hgrow5 (by simp; omega) (rows_block hr1)
                    rw [← M.dgR_succ] at hO5
                    go_roundg g
                    case measure => omega
                    case rel => exact ⟨n + 1, _, _, _, by omega, by go_num, rfl, hO5, hB5⟩
              · obtain rfl : n = T := by omega
                obtain rfl : gk = 0 := by omega
                go_wp2
                go_ret
                refine ⟨_, _, _, rfl, ?_, hbr⟩
                rw [Hg.out]
                have := HT.out
                simp only [Int.toNat_natCast]
                rw [← this]
                exact hor

end Go.Proofs.Ytacnngbjcchamaa
