/- Contracts of LeastCover, of the program and of the reference. -/
import Derived.Test.YtebjhdipdffkgaaDoorSGuess
import Derived.Test.YtebjhdipdffkgaaDoorLM3
import Derived.Test.YtebjhdipdffkgaaDoorBits
import Derived.Deep.LoopGhost
namespace Go.Proofs.YtebjhdipdffkgaaDoor
open Go Go.RowKit
open M (nth)

namespace M
/-- The least number of lost words that are a cover. -/
def lcv (p : Nat) : Nat := (2 ^ p + p) / (p + 1)
def cntB (s : Nat) : Nat → Nat
  | 0 => 0
  | k + 1 => cntB s k + s / 2 ^ k % 2
/-- The places of the ones of s. -/
def bitsL (s : Nat) : Nat → List Int
  | 0 => []
  | k + 1 => if s / 2 ^ k % 2 = 1 then bitsL s k ++ [(k : Int)] else bitsL s k
theorem bitsL_yes {s k : Nat} (h : s / 2 ^ k % 2 = 1) : bitsL s (k + 1) = bitsL s k ++ [(k : Int)] := by simp [bitsL, h]
theorem bitsL_no {s k : Nat} (h : s / 2 ^ k % 2 = 0) : bitsL s (k + 1) = bitsL s k := by simp [bitsL, h]
theorem len_bitsL (s : Nat) : ∀ k, (bitsL s k).length = cntB s k
  | 0 => rfl
  | k + 1 => by
    have ih := len_bitsL s k
    rcases Nat.mod_two_eq_zero_or_one (s / 2 ^ k) with h | h
    · rw [bitsL_no h, ih]; simp [cntB, h]
    · rw [bitsL_yes h]; simp [cntB, h, ih]
theorem cntB_le (s : Nat) : ∀ k, cntB s k ≤ k
  | 0 => Nat.le_refl _
  | k + 1 => by
    have := cntB_le s k
    simp only [cntB]
    omega
/-- A cover that is least. -/
def wit (p : Nat) : Nat := if p = 1 then 1 else if p = 2 then 9 else if p = 3 then 129 else 33153
theorem wit_ok : ∀ p : Nat, p < 5 → 1 ≤ p → cntB (wit p) (2 ^ p) = lcv p ∧ coverW (p : Int) (bitsL (wit p) (2 ^ p)) = true ∧ wit p < 2 ^ (2 ^ p) ∧ lcv p ≤ 2 ^ p := by decide +kernel
theorem cover_lcv {p : Nat} {xs : List Int} (hp : p ≤ 7) (h : coverW (p : Int) xs = true) : lcv p ≤ xs.length := by
  unfold coverW at h
  rw [Bool.and_eq_true, Int.toNat_natCast] at h
  have hl := cover_le hp h.2
  unfold lcv
  refine Nat.le_of_lt_succ (Nat.div_lt_of_lt_mul ?_)
  rw [Nat.mul_succ]
  omega
def lcF (p : Int) : Int := if inB p 1 4 then (lcv p.toNat : Int) else -1
theorem lcF_no {p : Int} (h : inB p 1 4 = false) : lcF p = -1 := by simp [lcF, h]
theorem four {p : Int} (h : inB p 1 4 = true) : p = 1 ∨ p = 2 ∨ p = 3 ∨ p = 4 := by
  have := inB_true.1 h
  omega
end M

set_option maxHeartbeats 4000000 in
theorem sLeastCover1_c (w : World) : Calls Tryd.prog 26 #[.int .i64 1] w fun e w' => e = .returned (.int .i64 1) ∧ Below w.heap.size w w' := by
  obtain ⟨i0, hi, hz0, hz1, hz2⟩ := info_parts Tryd.infoInt
  obtain ⟨hw1, hw2, -, -⟩ := M.wit_ok 1 (by omega) (by omega)
  have ew : M.wit 1 = 1 := rfl
  have el : M.lcv 1 = 1 := rfl
  rw [ew] at hw1 hw2
  rw [el] at hw1
  simp only [Nat.reducePow] at hw1 hw2
  have Hw1 := Lib.hid hw1
  have Hw2 := Lib.hid hw2
  clear hw1 hw2 ew el
  have hin : M.inB 1 1 4 = true := rfl
  go_enter Tryd.func26, Tryd.ntmps26
  go_wp2_with fail
  refine (l1In_c _ _ _ _).mono ?_
  rintro e w1 ⟨rfl, rfl⟩
  rw [hin]
  go_wp2_with fail
  go_loopg [4, 5] 4 (fun g l i wr => ∃ (s L : Nat), s + g = 4 ∧ i = .int .i64 s ∧ l = .int .i64 L ∧ 1 ≤ L ∧ L ≤ 2 ∧ Hid (1 < s → L = 1) ∧ Below w.heap.size w wr)
  case atStart => exact ⟨0, 2, by omega, rfl, rfl, by omega, by omega, Lib.hid (fun h => absurd h (by omega)), Below.refl _ _⟩
  case round =>
    obtain ⟨s, L, hs, rfl, rfl, hL1, hL2, HL, hbr⟩ := hrel
    by_cases hlt : s < 4
    · obtain ⟨g, rfl⟩ : ∃ g, gk = g + 1 := ⟨gk - 1, by omega⟩
      have ds : decide ((s : Int) < 4) = true := by simp; omega
      have ds' : decide (s < 4) = true := by simp; omega
      go_wp2_with fail
      clear ds ds'
      go_loopg [6, 7] 2 (fun g2 v i wy => ∃ j : Nat, j + g2 = 2 ∧ i = .int .i64 j ∧ v = .int .i64 (M.cntB s j : Nat) ∧ Quiet wr wy)
      case atStart => exact ⟨0, by omega, rfl, rfl, Quiet.refl _⟩
      case round =>
        obtain ⟨j, hj, rfl, rfl, hqy⟩ := hrel
        have hcl := M.cntB_le s j
        by_cases hja : j < 2
        · obtain ⟨g2, rfl⟩ : ∃ g2, gk = g2 + 1 := ⟨gk - 1, by omega⟩
          have e1 := M.tmod_two s j
          have hsm : s / 2 ^ j % 2 ≤ 1 := by omega
          have Hs := Lib.hid (show M.cntB s (j + 1) = M.cntB s j + s / 2 ^ j % 2 from rfl)
          generalize s / 2 ^ j % 2 = u at *
          generalize M.cntB s j = cc at *
          go_wp2_with fail
          try go_quiet (fail)
          go_wp2
          go_roundg g2
          case measure => omega
          case rel => exact ⟨j + 1, by omega, by go_num, by rw [Hs.out]; rfl, by first | exact hqy | exact hqy.drewN _⟩
        · obtain rfl : j = 2 := by omega
          have hby := Below.quiet hbr hqy
          by_cases hge : L ≤ M.cntB s 2
          · have hd : decide ((L : Int) ≤ ((M.cntB s 2 : Nat) : Int)) = true := by simp; omega
            have hd' : decide (L ≤ M.cntB s 2) = true := by simp; omega
            go_wp2
            go_roundg g
            case measure => omega
            case rel => exact ⟨s + 1, L, by omega, by go_num, rfl, hL1, hL2, Lib.hid (fun h => by
              by_cases e : 1 < s
              · exact HL.out e
              · obtain rfl : s = 1 := by omega
                have := Hw1.out
                omega), hby⟩
          · have hd : decide ((L : Int) ≤ ((M.cntB s 2 : Nat) : Int)) = false := by simp; omega
            have hd' : decide (L ≤ M.cntB s 2) = false := by simp; omega
            have ho0 := ownI_lit0 wr w.heap.size hby.size
            have hb0 : Below w.heap.size w (wr.alloc (.cells #[] 3)) := hby.alloc hby.size _
            go_wp2_with fail
            go_loopg [8, 9] 2 (fun g2 v i wz => ∃ (j : Nat) (B : Option Addr) (m d : Nat), j + g2 = 2 ∧ i = .int .i64 j ∧ v = .slice B m d ∧ OwnI wz w.heap.size B m d (M.bitsL s j) ∧ Below w.heap.size w wz)
            case atStart => exact ⟨0, _, _, _, by omega, rfl, rfl, ho0, hb0⟩
            case round =>
              obtain ⟨j, B, m, d, hj, rfl, rfl, hor, hbz⟩ := hrel
              have hlm := hor.1
              rw [M.len_bitsL] at hlm
              have hcm := M.cntB_le s j
              have hm16 : m ≤ 2 := by omega
              clear hlm
              by_cases hja : j < 2
              · obtain ⟨g2, rfl⟩ : ∃ g2, gk = g2 + 1 := ⟨gk - 1, by omega⟩
                have e1 := M.tmod_two s j
                rcases Nat.mod_two_eq_zero_or_one (s / 2 ^ j) with hb | hb
                · have Hs := Lib.hid (M.bitsL_no hb)
                  rw [hb] at e1
                  go_wp2_with fail
                  try go_quiet (fail)
                  go_wp2
                  go_roundg g2
                  case measure => omega
                  case rel => exact ⟨j + 1, _, _, _, by omega, by go_num, rfl, by rw [Hs.out]; first | exact hor | exact hor.quiet ⟨_, rfl⟩, by first | exact hbz | exact Below.quiet hbz ⟨_, rfl⟩⟩
                · have Hs := Lib.hid (M.bitsL_yes hb)
                  rw [hb] at e1
                  go_wp2_with (at_builtin; refine wpList_append_own _ rfl _ _ 22 rfl w.heap.size 3 i0 (.int .i64 0) 1 8 Tryd.underlying22 hi hz0 hz1 hz2 rfl (by decide) _ _ _ rfl (hor.2.alloc _) ⟨_, 0, none⟩ 1 1 [.int .i64 _] rfl rfl (cell_one_new _ _ _) (by simp [Value.oneCell']) (by unfold maxLen; omega) (by omega) (by have := hbz.size; simp; omega) ?_; intro v' w4 hown4 hgrow4 _)
                  obtain ⟨g', cap', rfl, ho4, hg4, hg4'⟩ := OwnI.appended hor.1 hown4
                  have hB4 : Below w.heap.size w w4 := (hbz.alloc hbz.size _).grown hgrow4 (by have := hbz.size; simp; omega) (fun j hj => by
                    cases B with
                    | none => cases hj
                    | some ad => cases hj; exact hor.lt.1)
                  rw [← Hs.out] at ho4
                  go_roundg g2
                  case measure => omega
                  case rel => exact ⟨j + 1, _, _, _, by omega, by go_num, rfl, ho4, hB4⟩
              · obtain rfl : j = 2 := by omega
                go_wp2_with fail
                refine (sCoverOk_c B m d _ 1 _ hor.rd).mono ?_
                rintro e w5 ⟨rfl, hq5⟩
                have b5 := Below.quiet hbz hq5
                cases hc : M.coverW 1 (M.bitsL s 2) with
                | false =>
                  go_wp2
                  go_roundg g
                  case measure => omega
                  case rel => exact ⟨s + 1, L, by omega, by go_num, rfl, hL1, hL2, Lib.hid (fun h => by
                    by_cases e : 1 < s
                    · exact HL.out e
                    · obtain rfl : s = 1 := by omega
                      have := Hw2.out
                      have h9 : M.coverW 1 (M.bitsL 1 2) = true := this
                      rw [hc] at h9
                      cases h9), b5⟩
                | true =>
                  have hlow : 1 ≤ M.cntB s 2 := by
                    have := M.cover_lcv (p := 1) (by omega) hc
                    rw [M.len_bitsL] at this
                    exact this
                  have hcl2 := M.cntB_le s 2
                  go_wp2
                  go_roundg g
                  case measure => omega
                  case rel => exact ⟨s + 1, M.cntB s 2, by omega, by go_num, rfl, hlow, hcl2, Lib.hid (fun h => by
                    by_cases e : 1 < s
                    · have := HL.out e
                      omega
                    · obtain rfl : s = 1 := by omega
                      exact Hw1.out), b5⟩
    · obtain rfl : s = 4 := by omega
      obtain rfl : L = 1 := HL.out (by omega)
      go_wp2
      go_ret
      exact ⟨rfl, hbr⟩

set_option maxHeartbeats 4000000 in
theorem sLeastCover2_c (w : World) : Calls Tryd.prog 26 #[.int .i64 2] w fun e w' => e = .returned (.int .i64 2) ∧ Below w.heap.size w w' := by
  obtain ⟨i0, hi, hz0, hz1, hz2⟩ := info_parts Tryd.infoInt
  obtain ⟨hw1, hw2, -, -⟩ := M.wit_ok 2 (by omega) (by omega)
  have ew : M.wit 2 = 9 := rfl
  have el : M.lcv 2 = 2 := rfl
  rw [ew] at hw1 hw2
  rw [el] at hw1
  simp only [Nat.reducePow] at hw1 hw2
  have Hw1 := Lib.hid hw1
  have Hw2 := Lib.hid hw2
  clear hw1 hw2 ew el
  have hin : M.inB 2 1 4 = true := rfl
  go_enter Tryd.func26, Tryd.ntmps26
  go_wp2_with fail
  refine (l1In_c _ _ _ _).mono ?_
  rintro e w1 ⟨rfl, rfl⟩
  rw [hin]
  go_wp2_with fail
  go_loopg [4, 5] 16 (fun g l i wr => ∃ (s L : Nat), s + g = 16 ∧ i = .int .i64 s ∧ l = .int .i64 L ∧ 2 ≤ L ∧ L ≤ 4 ∧ Hid (9 < s → L = 2) ∧ Below w.heap.size w wr)
  case atStart => exact ⟨0, 4, by omega, rfl, rfl, by omega, by omega, Lib.hid (fun h => absurd h (by omega)), Below.refl _ _⟩
  case round =>
    obtain ⟨s, L, hs, rfl, rfl, hL1, hL2, HL, hbr⟩ := hrel
    by_cases hlt : s < 16
    · obtain ⟨g, rfl⟩ : ∃ g, gk = g + 1 := ⟨gk - 1, by omega⟩
      have ds : decide ((s : Int) < 16) = true := by simp; omega
      have ds' : decide (s < 16) = true := by simp; omega
      go_wp2_with fail
      clear ds ds'
      go_loopg [6, 7] 4 (fun g2 v i wy => ∃ j : Nat, j + g2 = 4 ∧ i = .int .i64 j ∧ v = .int .i64 (M.cntB s j : Nat) ∧ Quiet wr wy)
      case atStart => exact ⟨0, by omega, rfl, rfl, Quiet.refl _⟩
      case round =>
        obtain ⟨j, hj, rfl, rfl, hqy⟩ := hrel
        have hcl := M.cntB_le s j
        by_cases hja : j < 4
        · obtain ⟨g2, rfl⟩ : ∃ g2, gk = g2 + 1 := ⟨gk - 1, by omega⟩
          have e1 := M.tmod_two s j
          have hsm : s / 2 ^ j % 2 ≤ 1 := by omega
          have Hs := Lib.hid (show M.cntB s (j + 1) = M.cntB s j + s / 2 ^ j % 2 from rfl)
          generalize s / 2 ^ j % 2 = u at *
          generalize M.cntB s j = cc at *
          go_wp2_with fail
          try go_quiet (fail)
          go_wp2
          go_roundg g2
          case measure => omega
          case rel => exact ⟨j + 1, by omega, by go_num, by rw [Hs.out]; rfl, by first | exact hqy | exact hqy.drewN _⟩
        · obtain rfl : j = 4 := by omega
          have hby := Below.quiet hbr hqy
          by_cases hge : L ≤ M.cntB s 4
          · have hd : decide ((L : Int) ≤ ((M.cntB s 4 : Nat) : Int)) = true := by simp; omega
            have hd' : decide (L ≤ M.cntB s 4) = true := by simp; omega
            go_wp2
            go_roundg g
            case measure => omega
            case rel => exact ⟨s + 1, L, by omega, by go_num, rfl, hL1, hL2, Lib.hid (fun h => by
              by_cases e : 9 < s
              · exact HL.out e
              · obtain rfl : s = 9 := by omega
                have := Hw1.out
                omega), hby⟩
          · have hd : decide ((L : Int) ≤ ((M.cntB s 4 : Nat) : Int)) = false := by simp; omega
            have hd' : decide (L ≤ M.cntB s 4) = false := by simp; omega
            have ho0 := ownI_lit0 wr w.heap.size hby.size
            have hb0 : Below w.heap.size w (wr.alloc (.cells #[] 3)) := hby.alloc hby.size _
            go_wp2_with fail
            go_loopg [8, 9] 4 (fun g2 v i wz => ∃ (j : Nat) (B : Option Addr) (m d : Nat), j + g2 = 4 ∧ i = .int .i64 j ∧ v = .slice B m d ∧ OwnI wz w.heap.size B m d (M.bitsL s j) ∧ Below w.heap.size w wz)
            case atStart => exact ⟨0, _, _, _, by omega, rfl, rfl, ho0, hb0⟩
            case round =>
              obtain ⟨j, B, m, d, hj, rfl, rfl, hor, hbz⟩ := hrel
              have hlm := hor.1
              rw [M.len_bitsL] at hlm
              have hcm := M.cntB_le s j
              have hm16 : m ≤ 4 := by omega
              clear hlm
              by_cases hja : j < 4
              · obtain ⟨g2, rfl⟩ : ∃ g2, gk = g2 + 1 := ⟨gk - 1, by omega⟩
                have e1 := M.tmod_two s j
                rcases Nat.mod_two_eq_zero_or_one (s / 2 ^ j) with hb | hb
                · have Hs := Lib.hid (M.bitsL_no hb)
                  rw [hb] at e1
                  go_wp2_with fail
                  try go_quiet (fail)
                  go_wp2
                  go_roundg g2
                  case measure => omega
                  case rel => exact ⟨j + 1, _, _, _, by omega, by go_num, rfl, by rw [Hs.out]; first | exact hor | exact hor.quiet ⟨_, rfl⟩, by first | exact hbz | exact Below.quiet hbz ⟨_, rfl⟩⟩
                · have Hs := Lib.hid (M.bitsL_yes hb)
                  rw [hb] at e1
                  go_wp2_with (at_builtin; refine wpList_append_own _ rfl _ _ 22 rfl w.heap.size 3 i0 (.int .i64 0) 1 8 Tryd.underlying22 hi hz0 hz1 hz2 rfl (by decide) _ _ _ rfl (hor.2.alloc _) ⟨_, 0, none⟩ 1 1 [.int .i64 _] rfl rfl (cell_one_new _ _ _) (by simp [Value.oneCell']) (by unfold maxLen; omega) (by omega) (by have := hbz.size; simp; omega) ?_; intro v' w4 hown4 hgrow4 _)
                  obtain ⟨g', cap', rfl, ho4, hg4, hg4'⟩ := OwnI.appended hor.1 hown4
                  have hB4 : Below w.heap.size w w4 := (hbz.alloc hbz.size _).grown hgrow4 (by have := hbz.size; simp; omega) (fun j hj => by
                    cases B with
                    | none => cases hj
                    | some ad => cases hj; exact hor.lt.1)
                  rw [← Hs.out] at ho4
                  go_roundg g2
                  case measure => omega
                  case rel => exact ⟨j + 1, _, _, _, by omega, by go_num, rfl, ho4, hB4⟩
              · obtain rfl : j = 4 := by omega
                go_wp2_with fail
                refine (sCoverOk_c B m d _ 2 _ hor.rd).mono ?_
                rintro e w5 ⟨rfl, hq5⟩
                have b5 := Below.quiet hbz hq5
                cases hc : M.coverW 2 (M.bitsL s 4) with
                | false =>
                  go_wp2
                  go_roundg g
                  case measure => omega
                  case rel => exact ⟨s + 1, L, by omega, by go_num, rfl, hL1, hL2, Lib.hid (fun h => by
                    by_cases e : 9 < s
                    · exact HL.out e
                    · obtain rfl : s = 9 := by omega
                      have := Hw2.out
                      have h9 : M.coverW 2 (M.bitsL 9 4) = true := this
                      rw [hc] at h9
                      cases h9), b5⟩
                | true =>
                  have hlow : 2 ≤ M.cntB s 4 := by
                    have := M.cover_lcv (p := 2) (by omega) hc
                    rw [M.len_bitsL] at this
                    exact this
                  have hcl2 := M.cntB_le s 4
                  go_wp2
                  go_roundg g
                  case measure => omega
                  case rel => exact ⟨s + 1, M.cntB s 4, by omega, by go_num, rfl, hlow, hcl2, Lib.hid (fun h => by
                    by_cases e : 9 < s
                    · have := HL.out e
                      omega
                    · obtain rfl : s = 9 := by omega
                      exact Hw1.out), b5⟩
    · obtain rfl : s = 16 := by omega
      obtain rfl : L = 2 := HL.out (by omega)
      go_wp2
      go_ret
      exact ⟨rfl, hbr⟩

set_option maxHeartbeats 4000000 in
theorem sLeastCover3_c (w : World) : Calls Tryd.prog 26 #[.int .i64 3] w fun e w' => e = .returned (.int .i64 2) ∧ Below w.heap.size w w' := by
  obtain ⟨i0, hi, hz0, hz1, hz2⟩ := info_parts Tryd.infoInt
  obtain ⟨hw1, hw2, -, -⟩ := M.wit_ok 3 (by omega) (by omega)
  have ew : M.wit 3 = 129 := rfl
  have el : M.lcv 3 = 2 := rfl
  rw [ew] at hw1 hw2
  rw [el] at hw1
  simp only [Nat.reducePow] at hw1 hw2
  have Hw1 := Lib.hid hw1
  have Hw2 := Lib.hid hw2
  clear hw1 hw2 ew el
  have hin : M.inB 3 1 4 = true := rfl
  go_enter Tryd.func26, Tryd.ntmps26
  go_wp2_with fail
  refine (l1In_c _ _ _ _).mono ?_
  rintro e w1 ⟨rfl, rfl⟩
  rw [hin]
  go_wp2_with fail
  go_loopg [4, 5] 256 (fun g l i wr => ∃ (s L : Nat), s + g = 256 ∧ i = .int .i64 s ∧ l = .int .i64 L ∧ 2 ≤ L ∧ L ≤ 8 ∧ Hid (129 < s → L = 2) ∧ Below w.heap.size w wr)
  case atStart => exact ⟨0, 8, by omega, rfl, rfl, by omega, by omega, Lib.hid (fun h => absurd h (by omega)), Below.refl _ _⟩
  case round =>
    obtain ⟨s, L, hs, rfl, rfl, hL1, hL2, HL, hbr⟩ := hrel
    by_cases hlt : s < 256
    · obtain ⟨g, rfl⟩ : ∃ g, gk = g + 1 := ⟨gk - 1, by omega⟩
      have ds : decide ((s : Int) < 256) = true := by simp; omega
      have ds' : decide (s < 256) = true := by simp; omega
      go_wp2_with fail
      clear ds ds'
      go_loopg [6, 7] 8 (fun g2 v i wy => ∃ j : Nat, j + g2 = 8 ∧ i = .int .i64 j ∧ v = .int .i64 (M.cntB s j : Nat) ∧ Quiet wr wy)
      case atStart => exact ⟨0, by omega, rfl, rfl, Quiet.refl _⟩
      case round =>
        obtain ⟨j, hj, rfl, rfl, hqy⟩ := hrel
        have hcl := M.cntB_le s j
        by_cases hja : j < 8
        · obtain ⟨g2, rfl⟩ : ∃ g2, gk = g2 + 1 := ⟨gk - 1, by omega⟩
          have e1 := M.tmod_two s j
          have hsm : s / 2 ^ j % 2 ≤ 1 := by omega
          have Hs := Lib.hid (show M.cntB s (j + 1) = M.cntB s j + s / 2 ^ j % 2 from rfl)
          generalize s / 2 ^ j % 2 = u at *
          generalize M.cntB s j = cc at *
          go_wp2_with fail
          try go_quiet (fail)
          go_wp2
          go_roundg g2
          case measure => omega
          case rel => exact ⟨j + 1, by omega, by go_num, by rw [Hs.out]; rfl, by first | exact hqy | exact hqy.drewN _⟩
        · obtain rfl : j = 8 := by omega
          have hby := Below.quiet hbr hqy
          by_cases hge : L ≤ M.cntB s 8
          · have hd : decide ((L : Int) ≤ ((M.cntB s 8 : Nat) : Int)) = true := by simp; omega
            have hd' : decide (L ≤ M.cntB s 8) = true := by simp; omega
            go_wp2
            go_roundg g
            case measure => omega
            case rel => exact ⟨s + 1, L, by omega, by go_num, rfl, hL1, hL2, Lib.hid (fun h => by
              by_cases e : 129 < s
              · exact HL.out e
              · obtain rfl : s = 129 := by omega
                have := Hw1.out
                omega), hby⟩
          · have hd : decide ((L : Int) ≤ ((M.cntB s 8 : Nat) : Int)) = false := by simp; omega
            have hd' : decide (L ≤ M.cntB s 8) = false := by simp; omega
            have ho0 := ownI_lit0 wr w.heap.size hby.size
            have hb0 : Below w.heap.size w (wr.alloc (.cells #[] 3)) := hby.alloc hby.size _
            go_wp2_with fail
            go_loopg [8, 9] 8 (fun g2 v i wz => ∃ (j : Nat) (B : Option Addr) (m d : Nat), j + g2 = 8 ∧ i = .int .i64 j ∧ v = .slice B m d ∧ OwnI wz w.heap.size B m d (M.bitsL s j) ∧ Below w.heap.size w wz)
            case atStart => exact ⟨0, _, _, _, by omega, rfl, rfl, ho0, hb0⟩
            case round =>
              obtain ⟨j, B, m, d, hj, rfl, rfl, hor, hbz⟩ := hrel
              have hlm := hor.1
              rw [M.len_bitsL] at hlm
              have hcm := M.cntB_le s j
              have hm16 : m ≤ 8 := by omega
              clear hlm
              by_cases hja : j < 8
              · obtain ⟨g2, rfl⟩ : ∃ g2, gk = g2 + 1 := ⟨gk - 1, by omega⟩
                have e1 := M.tmod_two s j
                rcases Nat.mod_two_eq_zero_or_one (s / 2 ^ j) with hb | hb
                · have Hs := Lib.hid (M.bitsL_no hb)
                  rw [hb] at e1
                  go_wp2_with fail
                  try go_quiet (fail)
                  go_wp2
                  go_roundg g2
                  case measure => omega
                  case rel => exact ⟨j + 1, _, _, _, by omega, by go_num, rfl, by rw [Hs.out]; first | exact hor | exact hor.quiet ⟨_, rfl⟩, by first | exact hbz | exact Below.quiet hbz ⟨_, rfl⟩⟩
                · have Hs := Lib.hid (M.bitsL_yes hb)
                  rw [hb] at e1
                  go_wp2_with (at_builtin; refine wpList_append_own _ rfl _ _ 22 rfl w.heap.size 3 i0 (.int .i64 0) 1 8 Tryd.underlying22 hi hz0 hz1 hz2 rfl (by decide) _ _ _ rfl (hor.2.alloc _) ⟨_, 0, none⟩ 1 1 [.int .i64 _] rfl rfl (cell_one_new _ _ _) (by simp [Value.oneCell']) (by unfold maxLen; omega) (by omega) (by have := hbz.size; simp; omega) ?_; intro v' w4 hown4 hgrow4 _)
                  obtain ⟨g', cap', rfl, ho4, hg4, hg4'⟩ := OwnI.appended hor.1 hown4
                  have hB4 : Below w.heap.size w w4 := (hbz.alloc hbz.size _).grown hgrow4 (by have := hbz.size; simp; omega) (fun j hj => by
                    cases B with
                    | none => cases hj
                    | some ad => cases hj; exact hor.lt.1)
                  rw [← Hs.out] at ho4
                  go_roundg g2
                  case measure => omega
                  case rel => exact ⟨j + 1, _, _, _, by omega, by go_num, rfl, ho4, hB4⟩
              · obtain rfl : j = 8 := by omega
                go_wp2_with fail
                refine (sCoverOk_c B m d _ 3 _ hor.rd).mono ?_
                rintro e w5 ⟨rfl, hq5⟩
                have b5 := Below.quiet hbz hq5
                cases hc : M.coverW 3 (M.bitsL s 8) with
                | false =>
                  go_wp2
                  go_roundg g
                  case measure => omega
                  case rel => exact ⟨s + 1, L, by omega, by go_num, rfl, hL1, hL2, Lib.hid (fun h => by
                    by_cases e : 129 < s
                    · exact HL.out e
                    · obtain rfl : s = 129 := by omega
                      have := Hw2.out
                      have h9 : M.coverW 3 (M.bitsL 129 8) = true := this
                      rw [hc] at h9
                      cases h9), b5⟩
                | true =>
                  have hlow : 2 ≤ M.cntB s 8 := by
                    have := M.cover_lcv (p := 3) (by omega) hc
                    rw [M.len_bitsL] at this
                    exact this
                  have hcl2 := M.cntB_le s 8
                  go_wp2
                  go_roundg g
                  case measure => omega
                  case rel => exact ⟨s + 1, M.cntB s 8, by omega, by go_num, rfl, hlow, hcl2, Lib.hid (fun h => by
                    by_cases e : 129 < s
                    · have := HL.out e
                      omega
                    · obtain rfl : s = 129 := by omega
                      exact Hw1.out), b5⟩
    · obtain rfl : s = 256 := by omega
      obtain rfl : L = 2 := HL.out (by omega)
      go_wp2
      go_ret
      exact ⟨rfl, hbr⟩

set_option maxHeartbeats 4000000 in
theorem sLeastCover4_c (w : World) : Calls Tryd.prog 26 #[.int .i64 4] w fun e w' => e = .returned (.int .i64 4) ∧ Below w.heap.size w w' := by
  obtain ⟨i0, hi, hz0, hz1, hz2⟩ := info_parts Tryd.infoInt
  obtain ⟨hw1, hw2, -, -⟩ := M.wit_ok 4 (by omega) (by omega)
  have ew : M.wit 4 = 33153 := rfl
  have el : M.lcv 4 = 4 := rfl
  rw [ew] at hw1 hw2
  rw [el] at hw1
  simp only [Nat.reducePow] at hw1 hw2
  have Hw1 := Lib.hid hw1
  have Hw2 := Lib.hid hw2
  clear hw1 hw2 ew el
  have hin : M.inB 4 1 4 = true := rfl
  go_enter Tryd.func26, Tryd.ntmps26
  go_wp2_with fail
  refine (l1In_c _ _ _ _).mono ?_
  rintro e w1 ⟨rfl, rfl⟩
  rw [hin]
  go_wp2_with fail
  go_loopg [4, 5] 65536 (fun g l i wr => ∃ (s L : Nat), s + g = 65536 ∧ i = .int .i64 s ∧ l = .int .i64 L ∧ 4 ≤ L ∧ L ≤ 16 ∧ Hid (33153 < s → L = 4) ∧ Below w.heap.size w wr)
  case atStart => exact ⟨0, 16, by omega, rfl, rfl, by omega, by omega, Lib.hid (fun h => absurd h (by omega)), Below.refl _ _⟩
  case round =>
    obtain ⟨s, L, hs, rfl, rfl, hL1, hL2, HL, hbr⟩ := hrel
    by_cases hlt : s < 65536
    · obtain ⟨g, rfl⟩ : ∃ g, gk = g + 1 := ⟨gk - 1, by omega⟩
      have ds : decide ((s : Int) < 65536) = true := by simp; omega
      have ds' : decide (s < 65536) = true := by simp; omega
      go_wp2_with fail
      clear ds ds'
      go_loopg [6, 7] 16 (fun g2 v i wy => ∃ j : Nat, j + g2 = 16 ∧ i = .int .i64 j ∧ v = .int .i64 (M.cntB s j : Nat) ∧ Quiet wr wy)
      case atStart => exact ⟨0, by omega, rfl, rfl, Quiet.refl _⟩
      case round =>
        obtain ⟨j, hj, rfl, rfl, hqy⟩ := hrel
        have hcl := M.cntB_le s j
        by_cases hja : j < 16
        · obtain ⟨g2, rfl⟩ : ∃ g2, gk = g2 + 1 := ⟨gk - 1, by omega⟩
          have e1 := M.tmod_two s j
          have hsm : s / 2 ^ j % 2 ≤ 1 := by omega
          have Hs := Lib.hid (show M.cntB s (j + 1) = M.cntB s j + s / 2 ^ j % 2 from rfl)
          generalize s / 2 ^ j % 2 = u at *
          generalize M.cntB s j = cc at *
          go_wp2_with fail
          try go_quiet (fail)
          go_wp2
          go_roundg g2
          case measure => omega
          case rel => exact ⟨j + 1, by omega, by go_num, by rw [Hs.out]; rfl, by first | exact hqy | exact hqy.drewN _⟩
        · obtain rfl : j = 16 := by omega
          have hby := Below.quiet hbr hqy
          by_cases hge : L ≤ M.cntB s 16
          · have hd : decide ((L : Int) ≤ ((M.cntB s 16 : Nat) : Int)) = true := by simp; omega
            have hd' : decide (L ≤ M.cntB s 16) = true := by simp; omega
            go_wp2
            go_roundg g
            case measure => omega
            case rel => exact ⟨s + 1, L, by omega, by go_num, rfl, hL1, hL2, Lib.hid (fun h => by
              by_cases e : 33153 < s
              · exact HL.out e
              · obtain rfl : s = 33153 := by omega
                have := Hw1.out
                omega), hby⟩
          · have hd : decide ((L : Int) ≤ ((M.cntB s 16 : Nat) : Int)) = false := by simp; omega
            have hd' : decide (L ≤ M.cntB s 16) = false := by simp; omega
            have ho0 := ownI_lit0 wr w.heap.size hby.size
            have hb0 : Below w.heap.size w (wr.alloc (.cells #[] 3)) := hby.alloc hby.size _
            go_wp2_with fail
            go_loopg [8, 9] 16 (fun g2 v i wz => ∃ (j : Nat) (B : Option Addr) (m d : Nat), j + g2 = 16 ∧ i = .int .i64 j ∧ v = .slice B m d ∧ OwnI wz w.heap.size B m d (M.bitsL s j) ∧ Below w.heap.size w wz)
            case atStart => exact ⟨0, _, _, _, by omega, rfl, rfl, ho0, hb0⟩
            case round =>
              obtain ⟨j, B, m, d, hj, rfl, rfl, hor, hbz⟩ := hrel
              have hlm := hor.1
              rw [M.len_bitsL] at hlm
              have hcm := M.cntB_le s j
              have hm16 : m ≤ 16 := by omega
              clear hlm
              by_cases hja : j < 16
              · obtain ⟨g2, rfl⟩ : ∃ g2, gk = g2 + 1 := ⟨gk - 1, by omega⟩
                have e1 := M.tmod_two s j
                rcases Nat.mod_two_eq_zero_or_one (s / 2 ^ j) with hb | hb
                · have Hs := Lib.hid (M.bitsL_no hb)
                  rw [hb] at e1
                  go_wp2_with fail
                  try go_quiet (fail)
                  go_wp2
                  go_roundg g2
                  case measure => omega
                  case rel => exact ⟨j + 1, _, _, _, by omega, by go_num, rfl, by rw [Hs.out]; first | exact hor | exact hor.quiet ⟨_, rfl⟩, by first | exact hbz | exact Below.quiet hbz ⟨_, rfl⟩⟩
                · have Hs := Lib.hid (M.bitsL_yes hb)
                  rw [hb] at e1
                  go_wp2_with (at_builtin; refine wpList_append_own _ rfl _ _ 22 rfl w.heap.size 3 i0 (.int .i64 0) 1 8 Tryd.underlying22 hi hz0 hz1 hz2 rfl (by decide) _ _ _ rfl (hor.2.alloc _) ⟨_, 0, none⟩ 1 1 [.int .i64 _] rfl rfl (cell_one_new _ _ _) (by simp [Value.oneCell']) (by unfold maxLen; omega) (by omega) (by have := hbz.size; simp; omega) ?_; intro v' w4 hown4 hgrow4 _)
                  obtain ⟨g', cap', rfl, ho4, hg4, hg4'⟩ := OwnI.appended hor.1 hown4
                  have hB4 : Below w.heap.size w w4 := (hbz.alloc hbz.size _).grown hgrow4 (by have := hbz.size; simp; omega) (fun j hj => by
                    cases B with
                    | none => cases hj
                    | some ad => cases hj; exact hor.lt.1)
                  rw [← Hs.out] at ho4
                  go_roundg g2
                  case measure => omega
                  case rel => exact ⟨j + 1, _, _, _, by omega, by go_num, rfl, ho4, hB4⟩
              · obtain rfl : j = 16 := by omega
                go_wp2_with fail
                refine (sCoverOk_c B m d _ 4 _ hor.rd).mono ?_
                rintro e w5 ⟨rfl, hq5⟩
                have b5 := Below.quiet hbz hq5
                cases hc : M.coverW 4 (M.bitsL s 16) with
                | false =>
                  go_wp2
                  go_roundg g
                  case measure => omega
                  case rel => exact ⟨s + 1, L, by omega, by go_num, rfl, hL1, hL2, Lib.hid (fun h => by
                    by_cases e : 33153 < s
                    · exact HL.out e
                    · obtain rfl : s = 33153 := by omega
                      have := Hw2.out
                      have h9 : M.coverW 4 (M.bitsL 33153 16) = true := this
                      rw [hc] at h9
                      cases h9), b5⟩
                | true =>
                  have hlow : 4 ≤ M.cntB s 16 := by
                    have := M.cover_lcv (p := 4) (by omega) hc
                    rw [M.len_bitsL] at this
                    exact this
                  have hcl2 := M.cntB_le s 16
                  go_wp2
                  go_roundg g
                  case measure => omega
                  case rel => exact ⟨s + 1, M.cntB s 16, by omega, by go_num, rfl, hlow, hcl2, Lib.hid (fun h => by
                    by_cases e : 33153 < s
                    · have := HL.out e
                      omega
                    · obtain rfl : s = 33153 := by omega
                      exact Hw1.out), b5⟩
    · obtain rfl : s = 65536 := by omega
      obtain rfl : L = 4 := HL.out (by omega)
      go_wp2
      go_ret
      exact ⟨rfl, hbr⟩

end Go.Proofs.YtebjhdipdffkgaaDoor
