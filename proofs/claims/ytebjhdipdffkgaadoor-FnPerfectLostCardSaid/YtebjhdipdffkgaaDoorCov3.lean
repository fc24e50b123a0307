/- The contract of the program's LeastCover. -/
import Derived.Test.YtebjhdipdffkgaaDoorCov2
import Derived.Deep.RegionHeld
import Derived.Laws.EntriesVeiled
namespace Go.Proofs.YtebjhdipdffkgaaDoor
open Go Go.RowKit
open M (nth)

theorem M.pow16 {k : Nat} (h : k < 16) : 1 ≤ (2 : Int) ^ k ∧ (2 : Int) ^ k ≤ 32768 ∧ 2 ^ k ≤ 32768 := by
  have := Nat.pow_le_pow_right (n := 2) (by omega) (show k ≤ 15 by omega)
  have h0 := M.pow_pos' k
  have e := M.nat_pow k
  omega
theorem M.rch_succ (a k : Nat) : M.rch a (k + 1) = M.rch a k ||| 2 ^ (a ^^^ 2 ^ k) := rfl

set_option maxHeartbeats 4000000 in
theorem iLeastCover1_c (w : World) : Calls Tryd.prog 25 #[.int .i64 1] w fun e w' => e = .returned (.int .i64 (M.lcv 1 : Nat)) ∧ Below w.heap.size w w' := by
  have hin : M.inB 1 1 4 = true := rfl
  have hmk : ∀ W : World, (Instr.makeSlice 22 (.int .i64 2) (.int .i64 2)).run Tryd.prog W = .ok (.slice (some ⟨W.heap.size, 0, none⟩) 2 2) (W.alloc (.cells (zer 2) 3)) := mk_run 2 (by omega)
  have Hcf := Lib.hid (M.cov_fact 1 (by omega) (by omega))
  simp only [Nat.reducePow, Nat.reduceSub] at Hcf
  go_enter Tryd.func25, Tryd.ntmps25
  go_wp2_with fail
  refine (in_c _ _ _ _).mono ?_
  rintro e w1 ⟨rfl, rfl⟩
  rw [hin]
  go_wp2_with fail
  go_loopg [18] 2 (fun g i wr => ∃ k : Nat, k + g = 2 ∧ i = .int .i64 k ∧ wr.cell? ⟨w.heap.size, 0, none⟩ = some (.int .i64 2) ∧ wr.cell? ⟨w.heap.size + 1 + 1, 0, none⟩ = some (.slice (some ⟨w.heap.size + 1, 0, none⟩) 2 2) ∧ wr.heap.size = w.heap.size + 3 ∧ OwnI wr (w.heap.size + 1) (some ⟨w.heap.size + 1, 0, none⟩) 2 2 (M.rls 1 2 k 0) ∧ Below w.heap.size w wr)
  case atStart =>
    have hb1 : Below w.heap.size w (w.alloc (.cells #[.int .i64 2] 3)) := (Below.refl _ _).alloc (Nat.le_refl _) _
    have hb2 := hb1.alloc hb1.size (.cells (zer 2) 3)
    have hb3 := hb2.alloc hb2.size (.cells #[.slice (some ⟨w.heap.size + 1, 0, none⟩) 2 2] 22)
    have ho := ownI_zer (w.alloc (.cells #[.int .i64 2] 3)) (w.heap.size + 1) 2 (by simp) (by omega)
    refine ⟨0, rfl, rfl, by simp [go_sem], by simp [go_sem], by simp [go_sem], ?_, hb3⟩
    rw [M.rls_zero]
    have e : (w.alloc (.cells #[.int .i64 2] 3)).heap.size = w.heap.size + 1 := by simp [go_sem]
    rw [e] at ho
    exact ho.alloc _
  case round =>
    obtain ⟨k, hk, rfl, cb, cs, hsz, hor, hbr⟩ := hrel
    by_cases hlt : k < 2
    · obtain ⟨g, rfl⟩ : ∃ g, gk = g + 1 := ⟨gk - 1, by omega⟩
      obtain ⟨p1, p2, p3⟩ := M.pow16 (k := k) (by omega)
      have dk : decide ((k : Int) < 2) = true := decide_eq_true (by omega)
      have s1 : IntKind.i64.wrap ((2 : Int) ^ k) = 2 ^ k := by rw [IntKind.wrap_i64]; omega
      have s1' : wrap64 ((2 : Int) ^ k) = 2 ^ k := M.wrap_small (by omega) (by omega)
      have mk : min k 64 = k := by omega
      have hc1 := hor.cell hlt
      have hf1 := hor.free k
      go_wp2_with fail
      go_region
      have hor1 := (hor.stored k ((2 : Int) ^ k)).1
      rw [M.nat_pow k, M.rls_set] at hor1
      rw [← M.nat_pow k] at hor1
      have cb1 := (World.cell?_setCell_far wr ⟨w.heap.size + 1, k, none⟩ ⟨w.heap.size, 0, none⟩ (.int .i64 ((2 : Int) ^ k)) (by simp)).trans cb
      have cs1 := (World.cell?_setCell_far wr ⟨w.heap.size + 1, k, none⟩ ⟨w.heap.size + 1 + 1, 0, none⟩ (.int .i64 ((2 : Int) ^ k)) (by simp)).trans cs
      have hbr1 := hbr.setCell (p := ⟨w.heap.size + 1, k, none⟩) (by simp) (.int .i64 ((2 : Int) ^ k))
      have hsz1 : (wr.setCell ⟨w.heap.size + 1, k, none⟩ (.int .i64 ((2 : Int) ^ k))).heap.size = w.heap.size + 3 := by simp [go_sem, hsz]
      clear s1 s1' mk hc1 hf1 hor cb cs hbr hsz
      generalize wr.setCell ⟨w.heap.size + 1, k, none⟩ (.int .i64 ((2 : Int) ^ k)) = wr1 at *
      go_wp2_with fail
      go_loopg [27] 1 (fun g i wr => ∃ j : Nat, j + g = 1 ∧ i = .int .i64 j ∧ wr.cell? ⟨w.heap.size, 0, none⟩ = some (.int .i64 2) ∧ wr.cell? ⟨w.heap.size + 1 + 1, 0, none⟩ = some (.slice (some ⟨w.heap.size + 1, 0, none⟩) 2 2) ∧ wr.heap.size = w.heap.size + 3 ∧ OwnI wr (w.heap.size + 1) (some ⟨w.heap.size + 1, 0, none⟩) 2 2 (M.rls 1 2 k (M.rch k j)) ∧ Below w.heap.size w wr)
      case atStart => exact ⟨0, by omega, rfl, cb1, cs1, hsz1, hor1, Below.drew hbr1⟩
      case round =>
        obtain ⟨j, hj, rfl, cb, cs, hsz, hor, hbr⟩ := hrel
        clear cb1 cs1 hsz1 hor1 hbr1
        by_cases hjp : j < 1
        · obtain ⟨g2, rfl⟩ : ∃ g2, gk = g2 + 1 := ⟨gk - 1, by omega⟩
          obtain ⟨q1, q2, q3⟩ := M.pow16 (k := j) (by omega)
          have dj : decide ((j : Int) < 1) = true := decide_eq_true (by omega)
          have r1 := M.rch_lt 1 (by omega) k (by simpa using hlt) j (by omega)
          have r3 := r1.2 hjp
          have r2 := r1.1
          simp only [Nat.reducePow] at r2 r3
          have hrs := M.rch_succ k j
          have s1 : IntKind.i64.wrap ((2 : Int) ^ j) = 2 ^ j := by rw [IntKind.wrap_i64]; omega
          have s1' : wrap64 ((2 : Int) ^ j) = 2 ^ j := M.wrap_small (by omega) (by omega)
          have mj : min j 64 = j := by omega
          have bx := M.bxor k (2 ^ j) (by omega) (by omega)
          rw [← M.nat_pow j] at bx
          obtain ⟨u, hu⟩ : ∃ u, u = k ^^^ 2 ^ j := ⟨_, rfl⟩
          rw [← hu] at r3 hrs bx
          obtain ⟨u1, u2, u3⟩ := M.pow16 (k := u) (by omega)
          have t1 : IntKind.i64.wrap ((2 : Int) ^ u) = 2 ^ u := by rw [IntKind.wrap_i64]; omega
          have t1' : wrap64 ((2 : Int) ^ u) = 2 ^ u := M.wrap_small (by omega) (by omega)
          have mu : min u 64 = u := by omega
          have hc1 := hor.cell hlt
          have hf1 := hor.free k
          rw [M.nth_rls hlt, if_neg (Nat.lt_irrefl k), if_pos rfl] at hc1
          have bo := M.bor (M.rch k j) (2 ^ u) (by omega) (by omega)
          rw [← M.nat_pow u, ← hrs] at bo
          have Hrs := Lib.hid hrs
          clear hrs hu r1 r2
          have nz : ∀ v : Nat, ¬ ((v : Int) < 0) := fun v => by omega
          go_wp2_with fail
          go_region
          have hor1 := (hor.stored k (M.rch k (j + 1) : Nat)).1
          rw [M.rls_set] at hor1
          have cb1 := (World.cell?_setCell_far wr ⟨w.heap.size + 1, k, none⟩ ⟨w.heap.size, 0, none⟩ (.int .i64 (M.rch k (j + 1) : Nat)) (by simp)).trans cb
          have cs1 := (World.cell?_setCell_far wr ⟨w.heap.size + 1, k, none⟩ ⟨w.heap.size + 1 + 1, 0, none⟩ (.int .i64 (M.rch k (j + 1) : Nat)) (by simp)).trans cs
          have hbr1 := hbr.setCell (p := ⟨w.heap.size + 1, k, none⟩) (by simp) (.int .i64 (M.rch k (j + 1) : Nat))
          have hsz1 : (wr.setCell ⟨w.heap.size + 1, k, none⟩ (.int .i64 (M.rch k (j + 1) : Nat))).heap.size = w.heap.size + 3 := by simp [go_sem, hsz]
          clear s1 s1' mj t1 t1' mu bx bo hc1 hf1 hor cb cs hbr hsz
          generalize wr.setCell ⟨w.heap.size + 1, k, none⟩ (.int .i64 (M.rch k (j + 1) : Nat)) = wr1 at *
          go_wp2_with fail
          go_roundg g2
          case measure => omega
          case rel => exact ⟨j + 1, by omega, by go_num, cb1, cs1, hsz1, hor1, Below.drew hbr1⟩
        · obtain rfl : j = 1 := by omega
          rw [M.rls_next] at hor
          go_wp2_with fail
          go_roundg g
          case measure => omega
          case rel => exact ⟨k + 1, by omega, by go_num, cb, cs, hsz, hor, hbr⟩
    · obtain rfl : k = 2 := by omega
      have hcg := fun (j : Nat) (hj : j < 2) => (hor.cell hj).trans (by rw [M.nth_rls hj, if_pos hj])
      have hal := fun (o : Obj) => (Below.refl wr.heap.size wr).alloc (Nat.le_refl _) o
      have Hcg := Lib.hid hcg
      have Hal := Lib.hid hal
      have Hcb := Lib.hid cb
      have Hcs := Lib.hid cs
      have Hbr := Lib.hid hbr
      have Hsz := Lib.hid hsz
      clear hcg hal cb cs hbr hor hmk hsz
      go_wp2_with fail
      go_loopg [8] (1 - 1) (fun g i wy => ∃ m : Nat, m + g = M.lcv 1 ∧ 1 ≤ m ∧ i = .int .i64 m ∧ CovAt wy w.heap.size wr.heap.size (w.heap.size + 1 + 1) (w.heap.size + 1) 1 2 ∧ Below w.heap.size w wy)
      case atStart =>
        have hz := Hsz.out
        refine ⟨1, by simp [M.lcv], by omega, rfl, ⟨?_, ?_, ?_, fun j hj => ?_⟩, Hbr.out.alloc (by omega) _⟩
        · exact ((Hal.out _).cell (p := ⟨w.heap.size, 0, none⟩) (by show w.heap.size < wr.heap.size; omega)).trans Hcb.out
        · simp [go_sem]
        · exact ((Hal.out _).cell (p := ⟨w.heap.size + 1 + 1, 0, none⟩) (by show w.heap.size + 1 + 1 < wr.heap.size; omega)).trans Hcs.out
        · exact ((Hal.out _).cell (p := ⟨w.heap.size + 1, j, none⟩) (by show w.heap.size + 1 < wr.heap.size; omega)).trans (Hcg.out j hj)
      case round =>
        obtain ⟨m, hm, hm1, rfl, hC, hby⟩ := hrel
        have hl : M.lcv 1 = 1 := rfl
        have hC' := hC
        obtain ⟨c3, c7, c4, -⟩ := hC
        by_cases hlt : m < M.lcv 1
        · have hv := Hcf.out.1 m hlt hm1
          rw [hl] at hlt hm
          obtain ⟨g, rfl⟩ : ∃ g, gk = g + 1 := ⟨gk - 1, by omega⟩
          have Hcc := Lib.hid (cov1_c _ _ _ _ m 0 0 _ hC' (by omega) (by omega) (by omega))
          rw [hv] at Hcc
          have HC := Lib.hid hC'
          clear hv hC'
          go_wp2_with fail
          refine Hcc.out.mono ?_
          rintro e w' ⟨rfl, hq⟩
          have hC2 := HC.out.quiet hq
          have hb2 := Below.quiet hby hq
          go_wp2_with fail
          go_roundg g
          case measure => omega
          case rel => exact ⟨m + 1, by omega, by omega, by go_num, hC2, hb2⟩
        · obtain rfl : gk = 0 := by omega
          obtain rfl : m = M.lcv 1 := by omega
          have hv := Hcf.out.2
          have Hcc := Lib.hid (cov1_c _ _ _ _ (M.lcv 1) 0 0 _ hC' (by omega) (by omega) (by omega))
          rw [hv] at Hcc
          clear hv hC'
          go_wp2_with fail
          refine Hcc.out.mono ?_
          rintro e w' ⟨rfl, hq⟩
          have hb2 := Below.quiet hby hq
          go_wp2_with fail
          go_ret
          exact ⟨rfl, hb2⟩

set_option maxHeartbeats 4000000 in
theorem iLeastCover2_c (w : World) : Calls Tryd.prog 25 #[.int .i64 2] w fun e w' => e = .returned (.int .i64 (M.lcv 2 : Nat)) ∧ Below w.heap.size w w' := by
  have hin : M.inB 2 1 4 = true := rfl
  have hmk : ∀ W : World, (Instr.makeSlice 22 (.int .i64 4) (.int .i64 4)).run Tryd.prog W = .ok (.slice (some ⟨W.heap.size, 0, none⟩) 4 4) (W.alloc (.cells (zer 4) 3)) := mk_run 4 (by omega)
  have Hcf := Lib.hid (M.cov_fact 2 (by omega) (by omega))
  simp only [Nat.reducePow, Nat.reduceSub] at Hcf
  go_enter Tryd.func25, Tryd.ntmps25
  go_wp2_with fail
  refine (in_c _ _ _ _).mono ?_
  rintro e w1 ⟨rfl, rfl⟩
  rw [hin]
  go_wp2_with fail
  go_loopg [18] 4 (fun g i wr => ∃ k : Nat, k + g = 4 ∧ i = .int .i64 k ∧ wr.cell? ⟨w.heap.size, 0, none⟩ = some (.int .i64 4) ∧ wr.cell? ⟨w.heap.size + 1 + 1, 0, none⟩ = some (.slice (some ⟨w.heap.size + 1, 0, none⟩) 4 4) ∧ wr.heap.size = w.heap.size + 3 ∧ OwnI wr (w.heap.size + 1) (some ⟨w.heap.size + 1, 0, none⟩) 4 4 (M.rls 2 4 k 0) ∧ Below w.heap.size w wr)
  case atStart =>
    have hb1 : Below w.heap.size w (w.alloc (.cells #[.int .i64 4] 3)) := (Below.refl _ _).alloc (Nat.le_refl _) _
    have hb2 := hb1.alloc hb1.size (.cells (zer 4) 3)
    have hb3 := hb2.alloc hb2.size (.cells #[.slice (some ⟨w.heap.size + 1, 0, none⟩) 4 4] 22)
    have ho := ownI_zer (w.alloc (.cells #[.int .i64 4] 3)) (w.heap.size + 1) 4 (by simp) (by omega)
    refine ⟨0, rfl, rfl, by simp [go_sem], by simp [go_sem], by simp [go_sem], ?_, hb3⟩
    rw [M.rls_zero]
    have e : (w.alloc (.cells #[.int .i64 4] 3)).heap.size = w.heap.size + 1 := by simp [go_sem]
    rw [e] at ho
    exact ho.alloc _
  case round =>
    obtain ⟨k, hk, rfl, cb, cs, hsz, hor, hbr⟩ := hrel
    by_cases hlt : k < 4
    · obtain ⟨g, rfl⟩ : ∃ g, gk = g + 1 := ⟨gk - 1, by omega⟩
      obtain ⟨p1, p2, p3⟩ := M.pow16 (k := k) (by omega)
      have dk : decide ((k : Int) < 4) = true := decide_eq_true (by omega)
      have s1 : IntKind.i64.wrap ((2 : Int) ^ k) = 2 ^ k := by rw [IntKind.wrap_i64]; omega
      have s1' : wrap64 ((2 : Int) ^ k) = 2 ^ k := M.wrap_small (by omega) (by omega)
      have mk : min k 64 = k := by omega
      have hc1 := hor.cell hlt
      have hf1 := hor.free k
      go_wp2_with fail
      go_region
      have hor1 := (hor.stored k ((2 : Int) ^ k)).1
      rw [M.nat_pow k, M.rls_set] at hor1
      rw [← M.nat_pow k] at hor1
      have cb1 := (World.cell?_setCell_far wr ⟨w.heap.size + 1, k, none⟩ ⟨w.heap.size, 0, none⟩ (.int .i64 ((2 : Int) ^ k)) (by simp)).trans cb
      have cs1 := (World.cell?_setCell_far wr ⟨w.heap.size + 1, k, none⟩ ⟨w.heap.size + 1 + 1, 0, none⟩ (.int .i64 ((2 : Int) ^ k)) (by simp)).trans cs
      have hbr1 := hbr.setCell (p := ⟨w.heap.size + 1, k, none⟩) (by simp) (.int .i64 ((2 : Int) ^ k))
      have hsz1 : (wr.setCell ⟨w.heap.size + 1, k, none⟩ (.int .i64 ((2 : Int) ^ k))).heap.size = w.heap.size + 3 := by simp [go_sem, hsz]
      clear s1 s1' mk hc1 hf1 hor cb cs hbr hsz
      generalize wr.setCell ⟨w.heap.size + 1, k, none⟩ (.int .i64 ((2 : Int) ^ k)) = wr1 at *
      go_wp2_with fail
      go_loopg [27] 2 (fun g i wr => ∃ j : Nat, j + g = 2 ∧ i = .int .i64 j ∧ wr.cell? ⟨w.heap.size, 0, none⟩ = some (.int .i64 4) ∧ wr.cell? ⟨w.heap.size + 1 + 1, 0, none⟩ = some (.slice (some ⟨w.heap.size + 1, 0, none⟩) 4 4) ∧ wr.heap.size = w.heap.size + 3 ∧ OwnI wr (w.heap.size + 1) (some ⟨w.heap.size + 1, 0, none⟩) 4 4 (M.rls 2 4 k (M.rch k j)) ∧ Below w.heap.size w wr)
      case atStart => exact ⟨0, by omega, rfl, cb1, cs1, hsz1, hor1, Below.drew hbr1⟩
      case round =>
        obtain ⟨j, hj, rfl, cb, cs, hsz, hor, hbr⟩ := hrel
        clear cb1 cs1 hsz1 hor1 hbr1
        by_cases hjp : j < 2
        · obtain ⟨g2, rfl⟩ : ∃ g2, gk = g2 + 1 := ⟨gk - 1, by omega⟩
          obtain ⟨q1, q2, q3⟩ := M.pow16 (k := j) (by omega)
          have dj : decide ((j : Int) < 2) = true := decide_eq_true (by omega)
          have r1 := M.rch_lt 2 (by omega) k (by simpa using hlt) j (by omega)
          have r3 := r1.2 hjp
          have r2 := r1.1
          simp only [Nat.reducePow] at r2 r3
          have hrs := M.rch_succ k j
          have s1 : IntKind.i64.wrap ((2 : Int) ^ j) = 2 ^ j := by rw [IntKind.wrap_i64]; omega
          have s1' : wrap64 ((2 : Int) ^ j) = 2 ^ j := M.wrap_small (by omega) (by omega)
          have mj : min j 64 = j := by omega
          have bx := M.bxor k (2 ^ j) (by omega) (by omega)
          rw [← M.nat_pow j] at bx
          obtain ⟨u, hu⟩ : ∃ u, u = k ^^^ 2 ^ j := ⟨_, rfl⟩
          rw [← hu] at r3 hrs bx
          obtain ⟨u1, u2, u3⟩ := M.pow16 (k := u) (by omega)
          have t1 : IntKind.i64.wrap ((2 : Int) ^ u) = 2 ^ u := by rw [IntKind.wrap_i64]; omega
          have t1' : wrap64 ((2 : Int) ^ u) = 2 ^ u := M.wrap_small (by omega) (by omega)
          have mu : min u 64 = u := by omega
          have hc1 := hor.cell hlt
          have hf1 := hor.free k
          rw [M.nth_rls hlt, if_neg (Nat.lt_irrefl k), if_pos rfl] at hc1
          have bo := M.bor (M.rch k j) (2 ^ u) (by omega) (by omega)
          rw [← M.nat_pow u, ← hrs] at bo
          have Hrs := Lib.hid hrs
          clear hrs hu r1 r2
          have nz : ∀ v : Nat, ¬ ((v : Int) < 0) := fun v => by omega
          go_wp2_with fail
          go_region
          have hor1 := (hor.stored k (M.rch k (j + 1) : Nat)).1
          rw [M.rls_set] at hor1
          have cb1 := (World.cell?_setCell_far wr ⟨w.heap.size + 1, k, none⟩ ⟨w.heap.size, 0, none⟩ (.int .i64 (M.rch k (j + 1) : Nat)) (by simp)).trans cb
          have cs1 := (World.cell?_setCell_far wr ⟨w.heap.size + 1, k, none⟩ ⟨w.heap.size + 1 + 1, 0, none⟩ (.int .i64 (M.rch k (j + 1) : Nat)) (by simp)).trans cs
          have hbr1 := hbr.setCell (p := ⟨w.heap.size + 1, k, none⟩) (by simp) (.int .i64 (M.rch k (j + 1) : Nat))
          have hsz1 : (wr.setCell ⟨w.heap.size + 1, k, none⟩ (.int .i64 (M.rch k (j + 1) : Nat))).heap.size = w.heap.size + 3 := by simp [go_sem, hsz]
          clear s1 s1' mj t1 t1' mu bx bo hc1 hf1 hor cb cs hbr hsz
          generalize wr.setCell ⟨w.heap.size + 1, k, none⟩ (.int .i64 (M.rch k (j + 1) : Nat)) = wr1 at *
          go_wp2_with fail
          go_roundg g2
          case measure => omega
          case rel => exact ⟨j + 1, by omega, by go_num, cb1, cs1, hsz1, hor1, Below.drew hbr1⟩
        · obtain rfl : j = 2 := by omega
          rw [M.rls_next] at hor
          go_wp2_with fail
          go_roundg g
          case measure => omega
          case rel => exact ⟨k + 1, by omega, by go_num, cb, cs, hsz, hor, hbr⟩
    · obtain rfl : k = 4 := by omega
      have hcg := fun (j : Nat) (hj : j < 4) => (hor.cell hj).trans (by rw [M.nth_rls hj, if_pos hj])
      have hal := fun (o : Obj) => (Below.refl wr.heap.size wr).alloc (Nat.le_refl _) o
      have Hcg := Lib.hid hcg
      have Hal := Lib.hid hal
      have Hcb := Lib.hid cb
      have Hcs := Lib.hid cs
      have Hbr := Lib.hid hbr
      have Hsz := Lib.hid hsz
      clear hcg hal cb cs hbr hor hmk hsz
      go_wp2_with fail
      go_loopg [8] (2 - 1) (fun g i wy => ∃ m : Nat, m + g = M.lcv 2 ∧ 1 ≤ m ∧ i = .int .i64 m ∧ CovAt wy w.heap.size wr.heap.size (w.heap.size + 1 + 1) (w.heap.size + 1) 2 4 ∧ Below w.heap.size w wy)
      case atStart =>
        have hz := Hsz.out
        refine ⟨1, by simp [M.lcv], by omega, rfl, ⟨?_, ?_, ?_, fun j hj => ?_⟩, Hbr.out.alloc (by omega) _⟩
        · exact ((Hal.out _).cell (p := ⟨w.heap.size, 0, none⟩) (by show w.heap.size < wr.heap.size; omega)).trans Hcb.out
        · simp [go_sem]
        · exact ((Hal.out _).cell (p := ⟨w.heap.size + 1 + 1, 0, none⟩) (by show w.heap.size + 1 + 1 < wr.heap.size; omega)).trans Hcs.out
        · exact ((Hal.out _).cell (p := ⟨w.heap.size + 1, j, none⟩) (by show w.heap.size + 1 < wr.heap.size; omega)).trans (Hcg.out j hj)
      case round =>
        obtain ⟨m, hm, hm1, rfl, hC, hby⟩ := hrel
        have hl : M.lcv 2 = 2 := rfl
        have hC' := hC
        obtain ⟨c3, c7, c4, -⟩ := hC
        by_cases hlt : m < M.lcv 2
        · have hv := Hcf.out.1 m hlt hm1
          rw [hl] at hlt hm
          obtain ⟨g, rfl⟩ : ∃ g, gk = g + 1 := ⟨gk - 1, by omega⟩
          have Hcc := Lib.hid (cov2_c _ _ _ _ m 0 0 _ hC' (by omega) (by omega) (by omega))
          rw [hv] at Hcc
          have HC := Lib.hid hC'
          clear hv hC'
          go_wp2_with fail
          refine Hcc.out.mono ?_
          rintro e w' ⟨rfl, hq⟩
          have hC2 := HC.out.quiet hq
          have hb2 := Below.quiet hby hq
          go_wp2_with fail
          go_roundg g
          case measure => omega
          case rel => exact ⟨m + 1, by omega, by omega, by go_num, hC2, hb2⟩
        · obtain rfl : gk = 0 := by omega
          obtain rfl : m = M.lcv 2 := by omega
          have hv := Hcf.out.2
          have Hcc := Lib.hid (cov2_c _ _ _ _ (M.lcv 2) 0 0 _ hC' (by omega) (by omega) (by omega))
          rw [hv] at Hcc
          clear hv hC'
          go_wp2_with fail
          refine Hcc.out.mono ?_
          rintro e w' ⟨rfl, hq⟩
          have hb2 := Below.quiet hby hq
          go_wp2_with fail
          go_ret
          exact ⟨rfl, hb2⟩

set_option maxHeartbeats 4000000 in
theorem iLeastCover3_c (w : World) : Calls Tryd.prog 25 #[.int .i64 3] w fun e w' => e = .returned (.int .i64 (M.lcv 3 : Nat)) ∧ Below w.heap.size w w' := by
  have hin : M.inB 3 1 4 = true := rfl
  have hmk : ∀ W : World, (Instr.makeSlice 22 (.int .i64 8) (.int .i64 8)).run Tryd.prog W = .ok (.slice (some ⟨W.heap.size, 0, none⟩) 8 8) (W.alloc (.cells (zer 8) 3)) := mk_run 8 (by omega)
  have Hcf := Lib.hid (M.cov_fact 3 (by omega) (by omega))
  simp only [Nat.reducePow, Nat.reduceSub] at Hcf
  go_enter Tryd.func25, Tryd.ntmps25
  go_wp2_with fail
  refine (in_c _ _ _ _).mono ?_
  rintro e w1 ⟨rfl, rfl⟩
  rw [hin]
  go_wp2_with fail
  go_loopg [18] 8 (fun g i wr => ∃ k : Nat, k + g = 8 ∧ i = .int .i64 k ∧ wr.cell? ⟨w.heap.size, 0, none⟩ = some (.int .i64 8) ∧ wr.cell? ⟨w.heap.size + 1 + 1, 0, none⟩ = some (.slice (some ⟨w.heap.size + 1, 0, none⟩) 8 8) ∧ wr.heap.size = w.heap.size + 3 ∧ OwnI wr (w.heap.size + 1) (some ⟨w.heap.size + 1, 0, none⟩) 8 8 (M.rls 3 8 k 0) ∧ Below w.heap.size w wr)
  case atStart =>
    have hb1 : Below w.heap.size w (w.alloc (.cells #[.int .i64 8] 3)) := (Below.refl _ _).alloc (Nat.le_refl _) _
    have hb2 := hb1.alloc hb1.size (.cells (zer 8) 3)
    have hb3 := hb2.alloc hb2.size (.cells #[.slice (some ⟨w.heap.size + 1, 0, none⟩) 8 8] 22)
    have ho := ownI_zer (w.alloc (.cells #[.int .i64 8] 3)) (w.heap.size + 1) 8 (by simp) (by omega)
    refine ⟨0, rfl, rfl, by simp [go_sem], by simp [go_sem], by simp [go_sem], ?_, hb3⟩
    rw [M.rls_zero]
    have e : (w.alloc (.cells #[.int .i64 8] 3)).heap.size = w.heap.size + 1 := by simp [go_sem]
    rw [e] at ho
    exact ho.alloc _
  case round =>
    obtain ⟨k, hk, rfl, cb, cs, hsz, hor, hbr⟩ := hrel
    by_cases hlt : k < 8
    · obtain ⟨g, rfl⟩ : ∃ g, gk = g + 1 := ⟨gk - 1, by omega⟩
      obtain ⟨p1, p2, p3⟩ := M.pow16 (k := k) (by omega)
      have dk : decide ((k : Int) < 8) = true := decide_eq_true (by omega)
      have s1 : IntKind.i64.wrap ((2 : Int) ^ k) = 2 ^ k := by rw [IntKind.wrap_i64]; omega
      have s1' : wrap64 ((2 : Int) ^ k) = 2 ^ k := M.wrap_small (by omega) (by omega)
      have mk : min k 64 = k := by omega
      have hc1 := hor.cell hlt
      have hf1 := hor.free k
      go_wp2_with fail
      go_region
      have hor1 := (hor.stored k ((2 : Int) ^ k)).1
      rw [M.nat_pow k, M.rls_set] at hor1
      rw [← M.nat_pow k] at hor1
      have cb1 := (World.cell?_setCell_far wr ⟨w.heap.size + 1, k, none⟩ ⟨w.heap.size, 0, none⟩ (.int .i64 ((2 : Int) ^ k)) (by simp)).trans cb
      have cs1 := (World.cell?_setCell_far wr ⟨w.heap.size + 1, k, none⟩ ⟨w.heap.size + 1 + 1, 0, none⟩ (.int .i64 ((2 : Int) ^ k)) (by simp)).trans cs
      have hbr1 := hbr.setCell (p := ⟨w.heap.size + 1, k, none⟩) (by simp) (.int .i64 ((2 : Int) ^ k))
      have hsz1 : (wr.setCell ⟨w.heap.size + 1, k, none⟩ (.int .i64 ((2 : Int) ^ k))).heap.size = w.heap.size + 3 := by simp [go_sem, hsz]
      clear s1 s1' mk hc1 hf1 hor cb cs hbr hsz
      generalize wr.setCell ⟨w.heap.size + 1, k, none⟩ (.int .i64 ((2 : Int) ^ k)) = wr1 at *
      go_wp2_with fail
      go_loopg [27] 3 (fun g i wr => ∃ j : Nat, j + g = 3 ∧ i = .int .i64 j ∧ wr.cell? ⟨w.heap.size, 0, none⟩ = some (.int .i64 8) ∧ wr.cell? ⟨w.heap.size + 1 + 1, 0, none⟩ = some (.slice (some ⟨w.heap.size + 1, 0, none⟩) 8 8) ∧ wr.heap.size = w.heap.size + 3 ∧ OwnI wr (w.heap.size + 1) (some ⟨w.heap.size + 1, 0, none⟩) 8 8 (M.rls 3 8 k (M.rch k j)) ∧ Below w.heap.size w wr)
      case atStart => exact ⟨0, by omega, rfl, cb1, cs1, hsz1, hor1, Below.drew hbr1⟩
      case round =>
        obtain ⟨j, hj, rfl, cb, cs, hsz, hor, hbr⟩ := hrel
        clear cb1 cs1 hsz1 hor1 hbr1
        by_cases hjp : j < 3
        · obtain ⟨g2, rfl⟩ : ∃ g2, gk = g2 + 1 := ⟨gk - 1, by omega⟩
          obtain ⟨q1, q2, q3⟩ := M.pow16 (k := j) (by omega)
          have dj : decide ((j : Int) < 3) = true := decide_eq_true (by omega)
          have r1 := M.rch_lt 3 (by omega) k (by simpa using hlt) j (by omega)
          have r3 := r1.2 hjp
          have r2 := r1.1
          simp only [Nat.reducePow] at r2 r3
          have hrs := M.rch_succ k j
          have s1 : IntKind.i64.wrap ((2 : Int) ^ j) = 2 ^ j := by rw [IntKind.wrap_i64]; omega
          have s1' : wrap64 ((2 : Int) ^ j) = 2 ^ j := M.wrap_small (by omega) (by omega)
          have mj : min j 64 = j := by omega
          have bx := M.bxor k (2 ^ j) (by omega) (by omega)
          rw [← M.nat_pow j] at bx
          obtain ⟨u, hu⟩ : ∃ u, u = k ^^^ 2 ^ j := ⟨_, rfl⟩
          rw [← hu] at r3 hrs bx
          obtain ⟨u1, u2, u3⟩ := M.pow16 (k := u) (by omega)
          have t1 : IntKind.i64.wrap ((2 : Int) ^ u) = 2 ^ u := by rw [IntKind.wrap_i64]; omega
          have t1' : wrap64 ((2 : Int) ^ u) = 2 ^ u := M.wrap_small (by omega) (by omega)
          have mu : min u 64 = u := by omega
          have hc1 := hor.cell hlt
          have hf1 := hor.free k
          rw [M.nth_rls hlt, if_neg (Nat.lt_irrefl k), if_pos rfl] at hc1
          have bo := M.bor (M.rch k j) (2 ^ u) (by omega) (by omega)
          rw [← M.nat_pow u, ← hrs] at bo
          have Hrs := Lib.hid hrs
          clear hrs hu r1 r2
          have nz : ∀ v : Nat, ¬ ((v : Int) < 0) := fun v => by omega
          go_wp2_with fail
          go_region
          have hor1 := (hor.stored k (M.rch k (j + 1) : Nat)).1
          rw [M.rls_set] at hor1
          have cb1 := (World.cell?_setCell_far wr ⟨w.heap.size + 1, k, none⟩ ⟨w.heap.size, 0, none⟩ (.int .i64 (M.rch k (j + 1) : Nat)) (by simp)).trans cb
          have cs1 := (World.cell?_setCell_far wr ⟨w.heap.size + 1, k, none⟩ ⟨w.heap.size + 1 + 1, 0, none⟩ (.int .i64 (M.rch k (j + 1) : Nat)) (by simp)).trans cs
          have hbr1 := hbr.setCell (p := ⟨w.heap.size + 1, k, none⟩) (by simp) (.int .i64 (M.rch k (j + 1) : Nat))
          have hsz1 : (wr.setCell ⟨w.heap.size + 1, k, none⟩ (.int .i64 (M.rch k (j + 1) : Nat))).heap.size = w.heap.size + 3 := by simp [go_sem, hsz]
          clear s1 s1' mj t1 t1' mu bx bo hc1 hf1 hor cb cs hbr hsz
          generalize wr.setCell ⟨w.heap.size + 1, k, none⟩ (.int .i64 (M.rch k (j + 1) : Nat)) = wr1 at *
          go_wp2_with fail
          go_roundg g2
          case measure => omega
          case rel => exact ⟨j + 1, by omega, by go_num, cb1, cs1, hsz1, hor1, Below.drew hbr1⟩
        · obtain rfl : j = 3 := by omega
          rw [M.rls_next] at hor
          go_wp2_with fail
          go_roundg g
          case measure => omega
          case rel => exact ⟨k + 1, by omega, by go_num, cb, cs, hsz, hor, hbr⟩
    · obtain rfl : k = 8 := by omega
      have hcg := fun (j : Nat) (hj : j < 8) => (hor.cell hj).trans (by rw [M.nth_rls hj, if_pos hj])
      have hal := fun (o : Obj) => (Below.refl wr.heap.size wr).alloc (Nat.le_refl _) o
      have Hcg := Lib.hid hcg
      have Hal := Lib.hid hal
      have Hcb := Lib.hid cb
      have Hcs := Lib.hid cs
      have Hbr := Lib.hid hbr
      have Hsz := Lib.hid hsz
      clear hcg hal cb cs hbr hor hmk hsz
      go_wp2_with fail
      go_loopg [8] (2 - 1) (fun g i wy => ∃ m : Nat, m + g = M.lcv 3 ∧ 1 ≤ m ∧ i = .int .i64 m ∧ CovAt wy w.heap.size wr.heap.size (w.heap.size + 1 + 1) (w.heap.size + 1) 3 8 ∧ Below w.heap.size w wy)
      case atStart =>
        have hz := Hsz.out
        refine ⟨1, by simp [M.lcv], by omega, rfl, ⟨?_, ?_, ?_, fun j hj => ?_⟩, Hbr.out.alloc (by omega) _⟩
        · exact ((Hal.out _).cell (p := ⟨w.heap.size, 0, none⟩) (by show w.heap.size < wr.heap.size; omega)).trans Hcb.out
        · simp [go_sem]
        · exact ((Hal.out _).cell (p := ⟨w.heap.size + 1 + 1, 0, none⟩) (by show w.heap.size + 1 + 1 < wr.heap.size; omega)).trans Hcs.out
        · exact ((Hal.out _).cell (p := ⟨w.heap.size + 1, j, none⟩) (by show w.heap.size + 1 < wr.heap.size; omega)).trans (Hcg.out j hj)
      case round =>
        obtain ⟨m, hm, hm1, rfl, hC, hby⟩ := hrel
        have hl : M.lcv 3 = 2 := rfl
        have hC' := hC
        obtain ⟨c3, c7, c4, -⟩ := hC
        by_cases hlt : m < M.lcv 3
        · have hv := Hcf.out.1 m hlt hm1
          rw [hl] at hlt hm
          obtain ⟨g, rfl⟩ : ∃ g, gk = g + 1 := ⟨gk - 1, by omega⟩
          have Hcc := Lib.hid (cov3_c _ _ _ _ m 0 0 _ hC' (by omega) (by omega) (by omega))
          rw [hv] at Hcc
          have HC := Lib.hid hC'
          clear hv hC'
          go_wp2_with fail
          refine Hcc.out.mono ?_
          rintro e w' ⟨rfl, hq⟩
          have hC2 := HC.out.quiet hq
          have hb2 := Below.quiet hby hq
          go_wp2_with fail
          go_roundg g
          case measure => omega
          case rel => exact ⟨m + 1, by omega, by omega, by go_num, hC2, hb2⟩
        · obtain rfl : gk = 0 := by omega
          obtain rfl : m = M.lcv 3 := by omega
          have hv := Hcf.out.2
          have Hcc := Lib.hid (cov3_c _ _ _ _ (M.lcv 3) 0 0 _ hC' (by omega) (by omega) (by omega))
          rw [hv] at Hcc
          clear hv hC'
          go_wp2_with fail
          refine Hcc.out.mono ?_
          rintro e w' ⟨rfl, hq⟩
          have hb2 := Below.quiet hby hq
          go_wp2_with fail
          go_ret
          exact ⟨rfl, hb2⟩

set_option maxHeartbeats 4000000 in
theorem iLeastCover4_c (w : World) : Calls Tryd.prog 25 #[.int .i64 4] w fun e w' => e = .returned (.int .i64 (M.lcv 4 : Nat)) ∧ Below w.heap.size w w' := by
  have hin : M.inB 4 1 4 = true := rfl
  have hmk : ∀ W : World, (Instr.makeSlice 22 (.int .i64 16) (.int .i64 16)).run Tryd.prog W = .ok (.slice (some ⟨W.heap.size, 0, none⟩) 16 16) (W.alloc (.cells (zer 16) 3)) := mk_run 16 (by omega)
  have Hcf := Lib.hid (M.cov_fact 4 (by omega) (by omega))
  simp only [Nat.reducePow, Nat.reduceSub] at Hcf
  go_enter Tryd.func25, Tryd.ntmps25
  go_wp2_with fail
  refine (in_c _ _ _ _).mono ?_
  rintro e w1 ⟨rfl, rfl⟩
  rw [hin]
  go_wp2_with fail
  go_loopg [18] 16 (fun g i wr => ∃ k : Nat, k + g = 16 ∧ i = .int .i64 k ∧ wr.cell? ⟨w.heap.size, 0, none⟩ = some (.int .i64 16) ∧ wr.cell? ⟨w.heap.size + 1 + 1, 0, none⟩ = some (.slice (some ⟨w.heap.size + 1, 0, none⟩) 16 16) ∧ wr.heap.size = w.heap.size + 3 ∧ OwnI wr (w.heap.size + 1) (some ⟨w.heap.size + 1, 0, none⟩) 16 16 (M.rls 4 16 k 0) ∧ Below w.heap.size w wr)
  case atStart =>
    have hb1 : Below w.heap.size w (w.alloc (.cells #[.int .i64 16] 3)) := (Below.refl _ _).alloc (Nat.le_refl _) _
    have hb2 := hb1.alloc hb1.size (.cells (zer 16) 3)
    have hb3 := hb2.alloc hb2.size (.cells #[.slice (some ⟨w.heap.size + 1, 0, none⟩) 16 16] 22)
    have ho := ownI_zer (w.alloc (.cells #[.int .i64 16] 3)) (w.heap.size + 1) 16 (by simp) (by omega)
    refine ⟨0, rfl, rfl, by simp [go_sem], by simp [go_sem], by simp [go_sem], ?_, hb3⟩
    rw [M.rls_zero]
    have e : (w.alloc (.cells #[.int .i64 16] 3)).heap.size = w.heap.size + 1 := by simp [go_sem]
    rw [e] at ho
    exact ho.alloc _
  case round =>
    obtain ⟨k, hk, rfl, cb, cs, hsz, hor, hbr⟩ := hrel
    by_cases hlt : k < 16
    · obtain ⟨g, rfl⟩ : ∃ g, gk = g + 1 := ⟨gk - 1, by omega⟩
      obtain ⟨p1, p2, p3⟩ := M.pow16 (k := k) (by omega)
      have dk : decide ((k : Int) < 16) = true := decide_eq_true (by omega)
      have s1 : IntKind.i64.wrap ((2 : Int) ^ k) = 2 ^ k := by rw [IntKind.wrap_i64]; omega
      have s1' : wrap64 ((2 : Int) ^ k) = 2 ^ k := M.wrap_small (by omega) (by omega)
      have mk : min k 64 = k := by omega
      have hc1 := hor.cell hlt
      have hf1 := hor.free k
      go_wp2_with fail
      go_region
      have hor1 := (hor.stored k ((2 : Int) ^ k)).1
      rw [M.nat_pow k, M.rls_set] at hor1
      rw [← M.nat_pow k] at hor1
      have cb1 := (World.cell?_setCell_far wr ⟨w.heap.size + 1, k, none⟩ ⟨w.heap.size, 0, none⟩ (.int .i64 ((2 : Int) ^ k)) (by simp)).trans cb
      have cs1 := (World.cell?_setCell_far wr ⟨w.heap.size + 1, k, none⟩ ⟨w.heap.size + 1 + 1, 0, none⟩ (.int .i64 ((2 : Int) ^ k)) (by simp)).trans cs
      have hbr1 := hbr.setCell (p := ⟨w.heap.size + 1, k, none⟩) (by simp) (.int .i64 ((2 : Int) ^ k))
      have hsz1 : (wr.setCell ⟨w.heap.size + 1, k, none⟩ (.int .i64 ((2 : Int) ^ k))).heap.size = w.heap.size + 3 := by simp [go_sem, hsz]
      clear s1 s1' mk hc1 hf1 hor cb cs hbr hsz
      generalize wr.setCell ⟨w.heap.size + 1, k, none⟩ (.int .i64 ((2 : Int) ^ k)) = wr1 at *
      go_wp2_with fail
      go_loopg [27] 4 (fun g i wr => ∃ j : Nat, j + g = 4 ∧ i = .int .i64 j ∧ wr.cell? ⟨w.heap.size, 0, none⟩ = some (.int .i64 16) ∧ wr.cell? ⟨w.heap.size + 1 + 1, 0, none⟩ = some (.slice (some ⟨w.heap.size + 1, 0, none⟩) 16 16) ∧ wr.heap.size = w.heap.size + 3 ∧ OwnI wr (w.heap.size + 1) (some ⟨w.heap.size + 1, 0, none⟩) 16 16 (M.rls 4 16 k (M.rch k j)) ∧ Below w.heap.size w wr)
      case atStart => exact ⟨0, by omega, rfl, cb1, cs1, hsz1, hor1, Below.drew hbr1⟩
      case round =>
        obtain ⟨j, hj, rfl, cb, cs, hsz, hor, hbr⟩ := hrel
        clear cb1 cs1 hsz1 hor1 hbr1
        by_cases hjp : j < 4
        · obtain ⟨g2, rfl⟩ : ∃ g2, gk = g2 + 1 := ⟨gk - 1, by omega⟩
          obtain ⟨q1, q2, q3⟩ := M.pow16 (k := j) (by omega)
          have dj : decide ((j : Int) < 4) = true := decide_eq_true (by omega)
          have r1 := M.rch_lt 4 (by omega) k (by simpa using hlt) j (by omega)
          have r3 := r1.2 hjp
          have r2 := r1.1
          simp only [Nat.reducePow] at r2 r3
          have hrs := M.rch_succ k j
          have s1 : IntKind.i64.wrap ((2 : Int) ^ j) = 2 ^ j := by rw [IntKind.wrap_i64]; omega
          have s1' : wrap64 ((2 : Int) ^ j) = 2 ^ j := M.wrap_small (by omega) (by omega)
          have mj : min j 64 = j := by omega
          have bx := M.bxor k (2 ^ j) (by omega) (by omega)
          rw [← M.nat_pow j] at bx
          obtain ⟨u, hu⟩ : ∃ u, u = k ^^^ 2 ^ j := ⟨_, rfl⟩
          rw [← hu] at r3 hrs bx
          obtain ⟨u1, u2, u3⟩ := M.pow16 (k := u) (by omega)
          have t1 : IntKind.i64.wrap ((2 : Int) ^ u) = 2 ^ u := by rw [IntKind.wrap_i64]; omega
          have t1' : wrap64 ((2 : Int) ^ u) = 2 ^ u := M.wrap_small (by omega) (by omega)
          have mu : min u 64 = u := by omega
          have hc1 := hor.cell hlt
          have hf1 := hor.free k
          rw [M.nth_rls hlt, if_neg (Nat.lt_irrefl k), if_pos rfl] at hc1
          have bo := M.bor (M.rch k j) (2 ^ u) (by omega) (by omega)
          rw [← M.nat_pow u, ← hrs] at bo
          have Hrs := Lib.hid hrs
          clear hrs hu r1 r2
          have nz : ∀ v : Nat, ¬ ((v : Int) < 0) := fun v => by omega
          go_wp2_with fail
          go_region
          have hor1 := (hor.stored k (M.rch k (j + 1) : Nat)).1
          rw [M.rls_set] at hor1
          have cb1 := (World.cell?_setCell_far wr ⟨w.heap.size + 1, k, none⟩ ⟨w.heap.size, 0, none⟩ (.int .i64 (M.rch k (j + 1) : Nat)) (by simp)).trans cb
          have cs1 := (World.cell?_setCell_far wr ⟨w.heap.size + 1, k, none⟩ ⟨w.heap.size + 1 + 1, 0, none⟩ (.int .i64 (M.rch k (j + 1) : Nat)) (by simp)).trans cs
          have hbr1 := hbr.setCell (p := ⟨w.heap.size + 1, k, none⟩) (by simp) (.int .i64 (M.rch k (j + 1) : Nat))
          have hsz1 : (wr.setCell ⟨w.heap.size + 1, k, none⟩ (.int .i64 (M.rch k (j + 1) : Nat))).heap.size = w.heap.size + 3 := by simp [go_sem, hsz]
          clear s1 s1' mj t1 t1' mu bx bo hc1 hf1 hor cb cs hbr hsz
          generalize wr.setCell ⟨w.heap.size + 1, k, none⟩ (.int .i64 (M.rch k (j + 1) : Nat)) = wr1 at *
          go_wp2_with fail
          go_roundg g2
          case measure => omega
          case rel => exact ⟨j + 1, by omega, by go_num, cb1, cs1, hsz1, hor1, Below.drew hbr1⟩
        · obtain rfl : j = 4 := by omega
          rw [M.rls_next] at hor
          go_wp2_with fail
          go_roundg g
          case measure => omega
          case rel => exact ⟨k + 1, by omega, by go_num, cb, cs, hsz, hor, hbr⟩
    · obtain rfl : k = 16 := by omega
      have hcg := fun (j : Nat) (hj : j < 16) => (hor.cell hj).trans (by rw [M.nth_rls hj, if_pos hj])
      have hal := fun (o : Obj) => (Below.refl wr.heap.size wr).alloc (Nat.le_refl _) o
      have Hcg := Lib.hid hcg
      have Hal := Lib.hid hal
      have Hcb := Lib.hid cb
      have Hcs := Lib.hid cs
      have Hbr := Lib.hid hbr
      have Hsz := Lib.hid hsz
      clear hcg hal cb cs hbr hor hmk hsz
      go_wp2_with fail
      go_loopg [8] (4 - 1) (fun g i wy => ∃ m : Nat, m + g = M.lcv 4 ∧ 1 ≤ m ∧ i = .int .i64 m ∧ CovAt wy w.heap.size wr.heap.size (w.heap.size + 1 + 1) (w.heap.size + 1) 4 16 ∧ Below w.heap.size w wy)
      case atStart =>
        have hz := Hsz.out
        refine ⟨1, by simp [M.lcv], by omega, rfl, ⟨?_, ?_, ?_, fun j hj => ?_⟩, Hbr.out.alloc (by omega) _⟩
        · exact ((Hal.out _).cell (p := ⟨w.heap.size, 0, none⟩) (by show w.heap.size < wr.heap.size; omega)).trans Hcb.out
        · simp [go_sem]
        · exact ((Hal.out _).cell (p := ⟨w.heap.size + 1 + 1, 0, none⟩) (by show w.heap.size + 1 + 1 < wr.heap.size; omega)).trans Hcs.out
        · exact ((Hal.out _).cell (p := ⟨w.heap.size + 1, j, none⟩) (by show w.heap.size + 1 < wr.heap.size; omega)).trans (Hcg.out j hj)
      case round =>
        obtain ⟨m, hm, hm1, rfl, hC, hby⟩ := hrel
        have hl : M.lcv 4 = 4 := rfl
        have hC' := hC
        obtain ⟨c3, c7, c4, -⟩ := hC
        by_cases hlt : m < M.lcv 4
        · have hv := Hcf.out.1 m hlt hm1
          rw [hl] at hlt hm
          obtain ⟨g, rfl⟩ : ∃ g, gk = g + 1 := ⟨gk - 1, by omega⟩
          have Hcc := Lib.hid (cov4_c _ _ _ _ m 0 0 _ hC' (by omega) (by omega) (by omega))
          rw [hv] at Hcc
          have HC := Lib.hid hC'
          clear hv hC'
          go_wp2_with fail
          refine Hcc.out.mono ?_
          rintro e w' ⟨rfl, hq⟩
          have hC2 := HC.out.quiet hq
          have hb2 := Below.quiet hby hq
          go_wp2_with fail
          go_roundg g
          case measure => omega
          case rel => exact ⟨m + 1, by omega, by omega, by go_num, hC2, hb2⟩
        · obtain rfl : gk = 0 := by omega
          obtain rfl : m = M.lcv 4 := by omega
          have hv := Hcf.out.2
          have Hcc := Lib.hid (cov4_c _ _ _ _ (M.lcv 4) 0 0 _ hC' (by omega) (by omega) (by omega))
          rw [hv] at Hcc
          clear hv hC'
          go_wp2_with fail
          refine Hcc.out.mono ?_
          rintro e w' ⟨rfl, hq⟩
          have hb2 := Below.quiet hby hq
          go_wp2_with fail
          go_ret
          exact ⟨rfl, hb2⟩

set_option maxHeartbeats 1000000 in
theorem iLeastCover_c (b : Int) (w : World) : Calls Tryd.prog 25 #[.int .i64 b] w fun e w' => e = .returned (.int .i64 (M.lcF b)) ∧ Below w.heap.size w w' := by
  cases h : M.inB b 1 4 with
  | false =>
    have Hf := Lib.hid (M.lcF_no h)
    go_enter Tryd.func25, Tryd.ntmps25
    go_wp2_with fail
    refine (in_c _ _ _ _).mono ?_
    rintro e w1 ⟨rfl, rfl⟩
    rw [h]
    go_wp2
    go_ret
    exact ⟨by rw [Hf.out]; rfl, Below.refl _ _⟩
  | true =>
    rcases M.four h with rfl | rfl | rfl | rfl
    · exact iLeastCover1_c w
    · exact iLeastCover2_c w
    · exact iLeastCover3_c w
    · exact iLeastCover4_c w

set_option maxHeartbeats 1000000 in
theorem sLeastCover_c (b : Int) (w : World) : Calls Tryd.prog 26 #[.int .i64 b] w fun e w' => e = .returned (.int .i64 (M.lcF b)) ∧ Below w.heap.size w w' := by
  cases h : M.inB b 1 4 with
  | false =>
    have Hf := Lib.hid (M.lcF_no h)
    go_enter Tryd.func26, Tryd.ntmps26
    go_wp2_with fail
    refine (l1In_c _ _ _ _).mono ?_
    rintro e w1 ⟨rfl, rfl⟩
    rw [h]
    go_wp2
    go_ret
    exact ⟨by rw [Hf.out]; rfl, Below.refl _ _⟩
  | true =>
    rcases M.four h with rfl | rfl | rfl | rfl
    · exact sLeastCover1_c w
    · exact sLeastCover2_c w
    · exact sLeastCover3_c w
    · exact sLeastCover4_c w

end Go.Proofs.YtebjhdipdffkgaaDoor
