/- The contract of the program's SixteenWords. -/
import Derived.Test.YtebjhdipdffkgaaDoorCov2
import Derived.Test.YtebjhdipdffkgaaDoorWBits
import Derived.Test.YtebjhdipdffkgaaDoorDoor
import Derived.Deep.RegionHeld
import Derived.Deep.RegionHeld3
import Derived.StillTailTactics
namespace Go.Proofs.YtebjhdipdffkgaaDoor
open Go Go.RowKit
open M (nth)

namespace M
def chk : Nat → Nat
  | 0 => 11
  | 1 => 13
  | _ => 14
/-- The word of the number a behind k checks. -/
def sv (a : Nat) : Nat → Nat
  | 0 => a
  | k + 1 => sv a k ||| (pop (a &&& chk k) % 2) * 2 ^ (4 + k)
theorem sv_lt : ∀ a : Nat, a < 16 → ∀ k : Nat, k < 4 → sv a k < 128 := by decide +kernel
def sls (a v : Nat) : List Int := (List.range 16).map fun j => if j < a then (sv j 3 : Int) else if j = a then (v : Int) else 0
theorem nth_sls {a v j : Nat} (h : j < 16) : nth (sls a v) j = if j < a then (sv j 3 : Int) else if j = a then (v : Int) else 0 := by simp [nth, sls, h]
theorem sls_zero : sls 0 0 = List.replicate 16 0 := by decide +kernel
theorem sls_set {a v u : Nat} : (sls a v).set a (u : Int) = sls a u := by
  apply List.ext_getElem
  · simp [sls]
  · intro i h1 h2
    rw [List.getElem_set]
    by_cases e : a = i
    · subst e; simp [sls]
    · have e' : ¬ i = a := fun x => e x.symm
      simp [sls, e, e']
theorem sls_next (a : Nat) : sls a (sv a 3) = sls (a + 1) 0 := by
  unfold sls
  apply List.map_congr_left
  intro j _
  by_cases h1 : j < a
  · simp [h1, show j < a + 1 by omega]
  · by_cases h2 : j = a
    · subst h2; simp
    · simp [h1, h2, show ¬ j < a + 1 by omega]
theorem sls_all : sls 16 0 = sixteen := by decide +kernel
end M

set_option maxHeartbeats 2000000 in
theorem iSixteen_c (w : World) (hsz : 0 < w.heap.size) (hc0 : w.cell? ⟨0, 0, none⟩ = some (.int .i64 11)) (hc1 : w.cell? ⟨0, 1, none⟩ = some (.int .i64 13)) (hc2 : w.cell? ⟨0, 2, none⟩ = some (.int .i64 14)) :
    Calls Tryd.prog 9 #[] w (RetI w M.sixteen) := by
  have hmk : ∀ W : World, (Instr.makeSlice 22 (.int .i64 16) (.int .i64 16)).run Tryd.prog W = .ok (.slice (some ⟨W.heap.size, 0, none⟩) 16 16) (W.alloc (.cells (zer 16) 3)) := mk_run 16 (by omega)
  have hb1 : Below w.heap.size w (w.alloc (.cells (zer 16) 3)) := (Below.refl _ _).alloc (Nat.le_refl _) _
  have ho1 := ownI_zer w w.heap.size 16 (Nat.le_refl _) (by omega)
  rw [← M.sls_zero] at ho1
  have H0 := Lib.hid hc0
  have H1 := Lib.hid hc1
  have H2 := Lib.hid hc2
  have Hsz := Lib.hid hsz
  clear hc0 hc1 hc2 hsz
  go_enter Tryd.func9, Tryd.ntmps9
  go_wp2_with fail
  clear hmk
  go_loopg [8] 16 (fun g i wr => ∃ a : Nat, a + g = 16 ∧ i = .int .i64 a ∧ OwnI wr w.heap.size (some ⟨w.heap.size, 0, none⟩) 16 16 (M.sls a 0) ∧ Below w.heap.size w wr)
  case atStart => exact ⟨0, rfl, rfl, ho1, hb1⟩
  case round =>
    obtain ⟨a, ha, rfl, hor, hbr⟩ := hrel
    clear ho1 hb1
    by_cases hlt : a < 16
    · obtain ⟨g, rfl⟩ : ∃ g, gk = g + 1 := ⟨gk - 1, by omega⟩
      have dk : decide ((a : Int) < 16) = true := decide_eq_true (by omega)
      have hc := hor.cell hlt
      have hf := hor.free a
      have hor1 := (hor.stored a ((a : Nat) : Int)).1
      rw [M.sls_set] at hor1
      have hbr1 := hbr.setCell (p := ⟨w.heap.size, a, none⟩) (Nat.le_refl _) (.int .i64 ((a : Nat) : Int))
      have g0 := (hbr1.cell (p := ⟨0, 0, none⟩) Hsz.out).trans H0.out
      have g1 := (hbr1.cell (p := ⟨0, 1, none⟩) Hsz.out).trans H1.out
      have g2 := (hbr1.cell (p := ⟨0, 2, none⟩) Hsz.out).trans H2.out
      go_wp2_with fail
      generalize wr.setCell ⟨w.heap.size, a, none⟩ (.int .i64 ((a : Nat) : Int)) = wr1 at *
      clear hc hf hor hbr g0 g1 g2
      go_loopg [16] 3 (fun g i wy => ∃ j : Nat, j + g = 3 ∧ i = .int .i64 j ∧ OwnI wy w.heap.size (some ⟨w.heap.size, 0, none⟩) 16 16 (M.sls a (M.sv a j)) ∧ Below w.heap.size w wy)
      case atStart => exact ⟨0, rfl, rfl, hor1, hbr1⟩
      case round =>
        obtain ⟨j, hj, rfl, hoy, hby⟩ := hrel
        clear hor1 hbr1
        by_cases hj3 : j < 3
        · obtain ⟨g2, rfl⟩ : ∃ g2, gk = g2 + 1 := ⟨gk - 1, by omega⟩
          obtain rfl | rfl | rfl : j = 0 ∨ j = 1 ∨ j = 2 := by omega
          · obtain rfl : g2 = 2 := by omega
            have hs : M.sv a 1 = M.sv a 0 ||| (M.pop (a &&& 11) % 2) * 2 ^ 4 := rfl
            have hv := M.sv_lt a hlt 0 (by omega)
            have hba : bits .and .i64 (a : Int) 11 = ((a &&& 11 : Nat) : Int) := M.band a 11 (by omega) (by omega)
            have hm : a &&& 11 < 16 := Nat.and_lt_two_pow (n := 4) _ (by omega)
            have hu : IntKind.u64.wrap ((a &&& 11 : Nat) : Int) = ((a &&& 11 : Nat) : Int) := by rw [IntKind.wrap_u64]; omega
            have hpp : M.pop (a &&& 11) % 2 < 2 := Nat.mod_lt _ (by omega)
            have hct : ∀ W : World, Calls Tryd.prog 27 #[.int .u64 (a &&& 11 : Nat)] W fun e w' => e = .returned (.int .i64 (M.pop (a &&& 11) : Nat)) ∧ w' = W := fun W => OnesCount_c _ W (by omega)
            have Hct := Lib.hid hct
            clear hct
            have hbo := M.bor (M.sv a 0) ((M.pop (a &&& 11) % 2) * 2 ^ 4) (by omega) (by omega)
            rw [← hs] at hbo
            have Hs := Lib.hid hs
            clear hs
            have hci := hoy.cell hlt
            have hfi := hoy.free a
            rw [M.nth_sls hlt, if_neg (Nat.lt_irrefl a), if_pos rfl] at hci
            have hix : ∀ W : World, (Instr.index 38 (.agg #[.int .i64 11, .int .i64 13, .int .i64 14]) (.int .i64 0)).run Tryd.prog W = .ok (.int .i64 11) W := fun W => by kernel_rfl
            generalize a &&& 11 = x at *
            have hlt16 : (a : Int) < 16 := by omega
            have t29 : Int.tmod ((M.pop x : Nat) : Int) 2 = ((M.pop x % 2 : Nat) : Int) := tmod_nat (M.pop x) 2
            generalize M.pop x % 2 = y at *
            have t31 : IntKind.i64.wrap 4 = 4 := by rw [IntKind.wrap_i64]; omega
            have t32 : IntKind.i64.wrap ((y : Int) * 16) = (y : Int) * 16 := by rw [IntKind.wrap_i64]; omega
            rw [show (2 : Nat) ^ 4 = 16 from rfl] at hbo
            push_cast at hbo
            have hst := (hoy.stored a ((M.sv a 1 : Nat) : Int)).1
            rw [M.sls_set] at hst
            have hbst := hby.setCell (p := ⟨w.heap.size, a, none⟩) (Nat.le_refl _) (.int .i64 ((M.sv a 1 : Nat) : Int))
            have Hst := Lib.hid hst
            clear hst
            go_wp2_with fail
            clear hix
            refine wp_region_still_tail 15 (by kernel_rfl) (by kernel_rfl) ?_
            simp only [List.take_succ_cons, List.take_zero, List.drop_succ_cons, List.drop_zero]
            repeat still_step
            still_call (Hct.out _)
            repeat still_step
            refine wpStill_nil ?_
            change wpList _ _ _ _ _ wr.drew
            go_wp2
            go_roundg 2
            case measure => omega
            case rel => exact ⟨1, by omega, by go_num, Hst.out.quiet ⟨1, rfl⟩, hbst.trans (Quiet.below ⟨1, rfl⟩ _)⟩
          · obtain rfl : g2 = 1 := by omega
            have hs : M.sv a 2 = M.sv a 1 ||| (M.pop (a &&& 13) % 2) * 2 ^ 5 := rfl
            have hv := M.sv_lt a hlt 1 (by omega)
            have hba : bits .and .i64 (a : Int) 13 = ((a &&& 13 : Nat) : Int) := M.band a 13 (by omega) (by omega)
            have hm : a &&& 13 < 16 := Nat.and_lt_two_pow (n := 4) _ (by omega)
            have hu : IntKind.u64.wrap ((a &&& 13 : Nat) : Int) = ((a &&& 13 : Nat) : Int) := by rw [IntKind.wrap_u64]; omega
            have hpp : M.pop (a &&& 13) % 2 < 2 := Nat.mod_lt _ (by omega)
            have hct : ∀ W : World, Calls Tryd.prog 27 #[.int .u64 (a &&& 13 : Nat)] W fun e w' => e = .returned (.int .i64 (M.pop (a &&& 13) : Nat)) ∧ w' = W := fun W => OnesCount_c _ W (by omega)
            have Hct := Lib.hid hct
            clear hct
            have hbo := M.bor (M.sv a 1) ((M.pop (a &&& 13) % 2) * 2 ^ 5) (by omega) (by omega)
            rw [← hs] at hbo
            have Hs := Lib.hid hs
            clear hs
            have hci := hoy.cell hlt
            have hfi := hoy.free a
            rw [M.nth_sls hlt, if_neg (Nat.lt_irrefl a), if_pos rfl] at hci
            have hix : ∀ W : World, (Instr.index 38 (.agg #[.int .i64 11, .int .i64 13, .int .i64 14]) (.int .i64 1)).run Tryd.prog W = .ok (.int .i64 13) W := fun W => by kernel_rfl
            generalize a &&& 13 = x at *
            have hlt16 : (a : Int) < 16 := by omega
            have t29 : Int.tmod ((M.pop x : Nat) : Int) 2 = ((M.pop x % 2 : Nat) : Int) := tmod_nat (M.pop x) 2
            generalize M.pop x % 2 = y at *
            have t31 : IntKind.i64.wrap 5 = 5 := by rw [IntKind.wrap_i64]; omega
            have t32 : IntKind.i64.wrap ((y : Int) * 32) = (y : Int) * 32 := by rw [IntKind.wrap_i64]; omega
            rw [show (2 : Nat) ^ 5 = 32 from rfl] at hbo
            push_cast at hbo
            have hst := (hoy.stored a ((M.sv a 2 : Nat) : Int)).1
            rw [M.sls_set] at hst
            have hbst := hby.setCell (p := ⟨w.heap.size, a, none⟩) (Nat.le_refl _) (.int .i64 ((M.sv a 2 : Nat) : Int))
            have Hst := Lib.hid hst
            clear hst
            go_wp2_with fail
            clear hix
            refine wp_region_still_tail 15 (by kernel_rfl) (by kernel_rfl) ?_
            simp only [List.take_succ_cons, List.take_zero, List.drop_succ_cons, List.drop_zero]
            repeat still_step
            still_call (Hct.out _)
            repeat still_step
            refine wpStill_nil ?_
            change wpList _ _ _ _ _ wr.drew
            go_wp2
            go_roundg 1
            case measure => omega
            case rel => exact ⟨2, by omega, by go_num, Hst.out.quiet ⟨1, rfl⟩, hbst.trans (Quiet.below ⟨1, rfl⟩ _)⟩
          · obtain rfl : g2 = 0 := by omega
            have hs : M.sv a 3 = M.sv a 2 ||| (M.pop (a &&& 14) % 2) * 2 ^ 6 := rfl
            have hv := M.sv_lt a hlt 2 (by omega)
            have hba : bits .and .i64 (a : Int) 14 = ((a &&& 14 : Nat) : Int) := M.band a 14 (by omega) (by omega)
            have hm : a &&& 14 < 16 := Nat.and_lt_two_pow (n := 4) _ (by omega)
            have hu : IntKind.u64.wrap ((a &&& 14 : Nat) : Int) = ((a &&& 14 : Nat) : Int) := by rw [IntKind.wrap_u64]; omega
            have hpp : M.pop (a &&& 14) % 2 < 2 := Nat.mod_lt _ (by omega)
            have hct : ∀ W : World, Calls Tryd.prog 27 #[.int .u64 (a &&& 14 : Nat)] W fun e w' => e = .returned (.int .i64 (M.pop (a &&& 14) : Nat)) ∧ w' = W := fun W => OnesCount_c _ W (by omega)
            have Hct := Lib.hid hct
            clear hct
            have hbo := M.bor (M.sv a 2) ((M.pop (a &&& 14) % 2) * 2 ^ 6) (by omega) (by omega)
            rw [← hs] at hbo
            have Hs := Lib.hid hs
            clear hs
            have hci := hoy.cell hlt
            have hfi := hoy.free a
            rw [M.nth_sls hlt, if_neg (Nat.lt_irrefl a), if_pos rfl] at hci
            have hix : ∀ W : World, (Instr.index 38 (.agg #[.int .i64 11, .int .i64 13, .int .i64 14]) (.int .i64 2)).run Tryd.prog W = .ok (.int .i64 14) W := fun W => by kernel_rfl
            generalize a &&& 14 = x at *
            have hlt16 : (a : Int) < 16 := by omega
            have t29 : Int.tmod ((M.pop x : Nat) : Int) 2 = ((M.pop x % 2 : Nat) : Int) := tmod_nat (M.pop x) 2
            generalize M.pop x % 2 = y at *
            have t31 : IntKind.i64.wrap 6 = 6 := by rw [IntKind.wrap_i64]; omega
            have t32 : IntKind.i64.wrap ((y : Int) * 64) = (y : Int) * 64 := by rw [IntKind.wrap_i64]; omega
            rw [show (2 : Nat) ^ 6 = 64 from rfl] at hbo
            push_cast at hbo
            have hst := (hoy.stored a ((M.sv a 3 : Nat) : Int)).1
            rw [M.sls_set] at hst
            have hbst := hby.setCell (p := ⟨w.heap.size, a, none⟩) (Nat.le_refl _) (.int .i64 ((M.sv a 3 : Nat) : Int))
            have Hst := Lib.hid hst
            clear hst
            go_wp2_with fail
            clear hix
            refine wp_region_still_tail 15 (by kernel_rfl) (by kernel_rfl) ?_
            simp only [List.take_succ_cons, List.take_zero, List.drop_succ_cons, List.drop_zero]
            repeat still_step
            still_call (Hct.out _)
            repeat still_step
            refine wpStill_nil ?_
            change wpList _ _ _ _ _ wr.drew
            go_wp2
            go_roundg 0
            case measure => omega
            case rel => exact ⟨3, by omega, by go_num, Hst.out.quiet ⟨1, rfl⟩, hbst.trans (Quiet.below ⟨1, rfl⟩ _)⟩
        · obtain rfl : j = 3 := by omega
          rw [M.sls_next] at hoy
          go_wp2_with fail
          go_roundg g
          case measure => omega
          case rel => exact ⟨a + 1, by omega, by go_num, hoy, hby⟩
    · obtain rfl : a = 16 := by omega
      rw [M.sls_all] at hor
      go_wp2
      go_ret
      exact ⟨_, _, _, rfl, hor, hbr⟩

end Go.Proofs.YtebjhdipdffkgaaDoor
