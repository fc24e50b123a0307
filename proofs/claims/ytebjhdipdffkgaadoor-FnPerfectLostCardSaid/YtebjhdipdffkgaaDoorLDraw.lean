/- The draws of teams and their lost words; the sixteen words; the perfect lost words. -/
import Derived.Test.YtebjhdipdffkgaaDoorLost
import Derived.Test.YtebjhdipdffkgaaDoorDraw
import Derived.Laws.AppendOwnNone
namespace Go.Proofs.YtebjhdipdffkgaaDoor
open Go Go.RowKit
open M (nth)

set_option maxHeartbeats 1000000 in
theorem sSixteen_c (w : World) : Calls Tryd.prog 8 #[] w (RetI w M.sixteen) := by
  obtain ⟨i0, hi, hz0, hz1, hz2⟩ := info_parts Tryd.infoInt
  have hb0 : Below w.heap.size w (w.alloc (.cells #[] 3)) := (Below.refl _ _).alloc (Nat.le_refl _) _
  have ho1 := ownI_lit0 w w.heap.size (Nat.le_refl _)
  go_enter Tryd.func8, Tryd.ntmps8
  go_wp2_with fail
  go_loopw [1, 2] (fun v i wr => ∃ (k : Nat) (B : Option Addr) (m d : Nat), k ≤ 16 ∧ i = .int .i64 k ∧ v = .slice B m d ∧ OwnI wr w.heap.size B m d (M.six k) ∧ Below w.heap.size w wr) (fun _ i _ => 16 - (intOf i).toNat)
  case atStart => exact ⟨0, _, _, _, Nat.zero_le _, rfl, rfl, ho1, hb0⟩
  case round =>
    obtain ⟨k, B, m, d, hk, rfl, rfl, hor, hbr⟩ := hrel
    by_cases hlt : k < 16
    · have hm : m = k := by have := hor.1; rw [M.length_six] at this; exact this.symm
      subst hm
      go_wp2_with (at_builtin; refine wpList_append_own _ rfl _ _ 22 rfl w.heap.size 3 i0 (.int .i64 0) 1 8 Tryd.underlying22 hi hz0 hz1 hz2 rfl (by decide) _ _ _ rfl (hor.2.alloc _) ⟨_, 0, none⟩ 1 1 [.int .i64 _] rfl rfl (cell_one_new _ _ _) (by simp [Value.oneCell']) (by unfold maxLen; omega) (by omega) (by have := hbr.size; simp; omega) ?_; intro v' w4 hown4 hgrow4 _)
      obtain ⟨g', cap', rfl, ho4, hg4, hg4'⟩ := OwnI.appended hor.1 hown4
      have hB4 : Below w.heap.size w w4 := (hbr.alloc hbr.size _).grown hgrow4 (by have := hbr.size; simp; omega) (fun j hj => by
        cases B with
        | none => cases hj
        | some ad => cases hj; exact hor.lt.1)
      have Hs := Lib.hid (M.six_succ' m)
      rw [← Hs.out] at ho4
      go_roundw
      case rel => exact ⟨m + 1, _, _, _, by omega, by go_num, rfl, ho4, hB4⟩
      case measure => simp [intOf]; omega
    · obtain rfl : k = 16 := by omega
      go_wp2
      go_ret
      exact ⟨_, _, _, rfl, hor, hbr⟩

set_option maxHeartbeats 400000 in
theorem l8Has_c (A : Option Addr) (n c : Nat) (xs : List Int) (x : Int) (w : World) (h : RdI w A n xs) :
    Calls Tryd.prog 36 #[.slice A n c, .int .i64 x] w fun e w' => e = .returned (.bool (M.hasB xs x)) ∧ w = w' := by
  have hbig := h.big
  go_enter Tryd.func36, Tryd.ntmps36
  go_wp2
  go_loop [5] (fun i => ∃ k : Nat, k ≤ n ∧ i = .int .i64 k ∧ ∀ j, j < k → ¬ nth xs j = x) (fun i => n - (intOf i).toNat)
  case atStart => exact ⟨0, Nat.zero_le _, rfl, fun j hj => by omega⟩
  case round =>
    obtain ⟨k, hk, rfl, hall⟩ := hrel
    have Hall := Lib.hid hall
    clear hall
    by_cases hlt : k < n
    · obtain ⟨ad, rfl, _, hcell⟩ := h.at_ hlt
      by_cases he : nth xs k = x
      · have he1 : (nth xs k == x) = true := by simpa using he
        have Hf := Lib.hid (M.hasB_yes (xs := xs) (k := k) (by rw [h.len]; exact hlt) he)
        clear he
        go_wp2
        go_ret
        exact ⟨rb Hf.out.symm, rfl⟩
      · have he1 : (nth xs k == x) = false := by simpa using he
        have He := Lib.hid he
        clear he
        go_wp2
        go_round
        case rel => exact ⟨k + 1, by omega, by go_num, fun j hj => by
          by_cases hjk : j < k
          · exact Hall.out j hjk
          · obtain rfl : j = k := by omega
            exact He.out⟩
        case measure => simp [intOf]; omega
    · have Hf := Lib.hid (M.hasB_no (xs := xs) (x := x) (fun j hj => Hall.out j (by rw [h.len] at hj; omega)))
      go_wp2
      go_ret
      exact ⟨rb Hf.out.symm, rfl⟩

set_option maxHeartbeats 1000000 in
set_option maxRecDepth 100000 in
theorem sPerfect_c (p : Int) (w : World) : Calls Tryd.prog 19 #[.int .i64 p] w (RetI w (M.perf p)) := by
  obtain ⟨i0, hi, hz0, hz1, hz2⟩ := info_parts Tryd.infoInt
  have hb0 : Below w.heap.size w (w.alloc (.cells #[] 3)) := (Below.refl _ _).alloc (Nat.le_refl _) _
  have ho1 := ownI_lit0 w w.heap.size (Nat.le_refl _)
  by_cases h1 : p = 1
  · subst h1
    go_enter Tryd.func19, Tryd.ntmps19
    go_wp2
    go_ret
    have hl := ownI_lit (w.alloc (.cells #[] 3)) w.heap.size #[.int .i64 0] 1 [0] hb0.size (by omega) rfl rfl
    rw [World.size_alloc] at hl
    exact ⟨_, _, _, rfl, by rw [show M.perf 1 = [0] from rfl]; exact hl, hb0.alloc hb0.size _⟩
  · have b1 : (p == 1) = false := by simpa using h1
    by_cases h3 : p = 3
    · subst h3
      go_enter Tryd.func19, Tryd.ntmps19
      go_wp2
      go_ret
      have hl := ownI_lit (w.alloc (.cells #[] 3)) w.heap.size #[.int .i64 0, .int .i64 7] 2 [0, 7] hb0.size (by omega) rfl rfl
      rw [World.size_alloc] at hl
      exact ⟨_, _, _, rfl, by rw [show M.perf 3 = [0, 7] from rfl]; exact hl, hb0.alloc hb0.size _⟩
    · have b3 : (p == 3) = false := by simpa using h3
      by_cases h7 : p = 7
      · subst h7
        go_enter Tryd.func19, Tryd.ntmps19
        go_wp2_with fail
        refine (sSixteen_c _).mono ?_
        rintro e w1 ⟨AS, nS, cS, rfl, hS, hb1⟩
        have b01 : Below w.heap.size w w1 := bt hb0 hb1
        have ho2 := ho1.below hb1
        go_wp2_with fail
        have hne0 : (Value.slice AS nS cS).ownBlock ≠ (Value.slice (some ⟨w.heap.size, 0, none⟩) 0 0).ownBlock := by
          cases AS with
          | none => simp [Value.ownBlock]
          | some ad => have := hS.lt.1; simp [Value.ownBlock] at this ⊢; omega
        go_loopw [3, 5] (fun v i wr => ∃ (k : Nat) (B : Option Addr) (m d : Nat), k ≤ 128 ∧ i = .int .i64 k ∧ v = .slice B m d ∧ OwnI wr w.heap.size B m d (M.pgo k) ∧ OwnI wr w.heap.size AS nS cS M.sixteen ∧ (Value.slice AS nS cS).ownBlock ≠ (Value.slice B m d).ownBlock ∧ Below w.heap.size w wr ∧ m ≤ k) (fun _ i _ => 128 - (intOf i).toNat)
        case atStart => exact ⟨0, _, _, _, Nat.zero_le _, rfl, rfl, ho2, hS.mono hb0.size, hne0, b01, Nat.le_refl _⟩
        case round =>
          obtain ⟨k, B, m, d, hk, rfl, rfl, hor, hSr, hne, hbr, hmk⟩ := hrel
          have hsz := hbr.size
          have Hne := Lib.hid hne
          clear hne hne0
          by_cases hlt : k < 128
          · cases hh : M.hasB M.sixteen (k : Int) with
            | true =>
              have Hp := Lib.hid (M.pgo_yes hh)
              go_wp2_with fail
              refine (l8Has_c AS nS cS _ _ _ hSr.rd).mono ?_
              rintro e w' ⟨rfl, rfl⟩
              go_wp2_with (at_builtin; refine wpList_append_own_at _ rfl _ _ 22 rfl w.heap.size 3 i0 (.int .i64 0) 1 8 Tryd.underlying22 hi hz0 hz1 hz2 rfl (by decide) _ _ _ rfl (hor.2.alloc _) ⟨_, 0, none⟩ 1 1 [.int .i64 _] rfl rfl (cell_one_new _ _ _) (by simp [Value.oneCell']) (by unfold maxLen; omega) (by omega) (by have := hbr.size; simp; omega) ?_; intro v' w4 hown4 hgrow4 _ hat4)
              obtain ⟨g', cap', rfl, ho4, hg4, hg4'⟩ := OwnI.appended hor.1 hown4
              have hB4 : Below w.heap.size w w4 := (hbr.alloc hbr.size _).grown hgrow4 (by have := hbr.size; simp; omega) (fun j hj => by
                cases B with
                | none => cases hj
                | some ad => cases hj; exact hor.lt.1)
              have hS4 := (hSr.alloc _).kept hgrow4 (.inr Hne.out)
              have hne4 : (Value.slice AS nS cS).ownBlock ≠ (Value.slice (some ⟨g', 0, none⟩) (m + 1) cap').ownBlock := by
                rcases hat4 with e | e
                · rw [e]; exact Hne.out
                · rw [e]
                  cases AS with
                  | none => simp [Value.ownBlock]
                  | some ad => have := hSr.lt.2; simp [Value.ownBlock]; omega
              go_roundw
              case rel => exact ⟨k + 1, _, _, _, by omega, by go_num, rfl, by rw [Hp.out]; exact ho4, hS4, hne4, hB4, by omega⟩
              case measure => simp [intOf]; omega
            | false =>
              have Hp := Lib.hid (M.pgo_no hh)
              go_wp2_with fail
              refine (l8Has_c AS nS cS _ _ _ hSr.rd).mono ?_
              rintro e w' ⟨rfl, rfl⟩
              go_wp2
              go_roundw
              case rel => exact ⟨k + 1, _, _, _, by omega, by go_num, rfl, by rw [Hp.out]; exact hor, hSr, Hne.out, hbr, by omega⟩
              case measure => simp [intOf]; omega
          · obtain rfl : k = 128 := by omega
            go_wp2
            go_ret
            exact ⟨_, _, _, rfl, by rw [M.perf_seven]; exact hor, hbr⟩
      · have b7 : (p == 7) = false := by simpa using h7
        have Hf := Lib.hid (M.perf_not h1 h3 h7)
        clear h1 h3 h7
        go_enter Tryd.func19, Tryd.ntmps19
        go_wp2
        go_ret
        exact ⟨_, _, _, rfl, by rw [Hf.out]; exact ho1, hb0⟩

theorem OwnI.app2 {w : World} {b : Nat} {v : Value} {m n : Nat} {x : Int} {ys : List Int} (hl : ys.length = n) (h : w.ownsRow b 3 1 v m (Value.int .i64 x :: ys.map (Value.int .i64))) :
    ∃ A c, v = .slice A m c ∧ OwnI w b A m c (x :: ys) := by
  have h0 := h
  have hm : m = n + 1 := by have := h.1; simp at this; omega
  rcases h.2 with ⟨rfl, rfl⟩ | ⟨g, cap, cur, rfl, hb, hg, _⟩
  · omega
  · exact ⟨_, cap, rfl, by simp [hl, hm], h0⟩
theorem only_of_below {a w : World} (h : Below a.heap.size a w) (row : Option Nat) : a.grownBy w row := ⟨h.os, h.tape, h.output, h.size, fun i hi _ => h.block i hi⟩
theorem seven_cells (w : World) (x : Int) (h0 : 0 ≤ x) (h1 : x < 7) :
    ∃ pv : Int, 1 ≤ pv ∧ pv ≤ 7 ∧ (w.alloc (.cells #[.int .i64 1, .int .i64 2, .int .i64 3, .int .i64 3, .int .i64 4, .int .i64 5, .int .i64 7] 3)).cell? ⟨w.heap.size, x.toNat, none⟩ = some (.int .i64 pv) := by
  rcases (by omega : x = 0 ∨ x = 1 ∨ x = 2 ∨ x = 3 ∨ x = 4 ∨ x = 5 ∨ x = 6) with rfl | rfl | rfl | rfl | rfl | rfl | rfl
  all_goals
    refine ⟨_, ?_, ?_, by rw [World.cell?_alloc_at _ _ _ _ rfl]; rfl⟩
    all_goals decide


end Go.Proofs.YtebjhdipdffkgaaDoor
