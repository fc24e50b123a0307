/- The laid variable of the door's rows: what the condition gives the walks, and a world that meets it. -/
import Derived.Test.YtebjhdipdffkgaaDoorRows
import Derived.ProofKit
import Derived.LaidMore
import Derived.OpenShut
import Derived.ChangeSame
import Derived.ChangeVars
import Derived.Stop.Joined
import Derived.Below
namespace Go.Proofs.YtebjhdipdffkgaaDoor
open Go Go.ChangeShapes Go.WideShapes Go.RowKit

abbrev laidL : List (String × DataW Unit) := [("loop.example/questiongames/impl.checked", Rows.laid_loop_example_questiongames_impl_checked)]
theorem gid : Tryd.prog.globalNamed "loop.example/questiongames/impl.checked" = some 0 := by kernel_rfl
theorem gty : (Tryd.prog.globals[0]?).map (·.type) = some 38 := by kernel_rfl
theorem cof3 : Tryd.prog.cellsOf 38 = 3 := by kernel_rfl
theorem cof1 : Tryd.prog.cellsOf 3 = 1 := by kernel_rfl
def cells3 : Array Value := #[.int .i64 11, .int .i64 13, .int .i64 14]
abbrev tableH {H : Type} : DataW H := .agg [.lit (.int .i64 11), .lit (.int .i64 13), .lit (.int .i64 14)]

theorem door_met (os : Os) (args : Array Value) : laidMetH Tryd.prog laidL ((World.doorLaid Tryd.prog 400 os).forCall (fun _ _ => 0) ⟨#[], args, []⟩).memory :=
  laidMetH_of_parts3 (fuel := 8) (laidMet_of_run' 8 (by kernel_rfl) (by kernel_rfl)) (by kernel_rfl) (by kernel_rfl)

theorem int_of_trod {H : Type} {enc : TypeId × Value → H} {P : Program} {w : World} {base : Nat} {sp : Nat → Bool} {held : Bool} {fuel : Nat} {t : TypeId} {k : IntKind} {c : Value} {y : DataW H × List MemPlace}
    (ht : P.underlying t = some (.int k)) (h : DataW.trod enc P w base sp held fuel t [c] = some y) : ∃ n, c = .int k n ∧ y = (.lit (.int k n), []) := by
  cases fuel with
  | zero => simp [DataW.trod] at h
  | succ fuel =>
    cases c <;> simp [DataW.trod, ht] at h
    rename_i k' n
    obtain ⟨⟨rfl, _⟩, rfl⟩ := h
    exact ⟨n, rfl, rfl⟩

theorem cells_of_laid {W : World} (h : laidMetH Tryd.prog laidL W) : W.var? Tryd.prog "loop.example/questiongames/impl.checked" = some cells3 := by
  rw [MakeChecks.laidMetH_plain _ _ _ (by kernel_rfl)] at h
  obtain ⟨ps, ⟨g, t, cs, fuel, p, q, hg, ht, hvar, hd, _, _⟩, _⟩ := h
  obtain rfl := Option.some.inj (gid.symm.trans hg)
  obtain rfl := Option.some.inj (gty.symm.trans ht)
  rw [hvar]
  congr 1
  obtain ⟨l⟩ := cs
  cases fuel with
  | zero => simp [DataW.trod] at hd
  | succ fuel =>
    simp only [DataW.trod, Tryd.underlying38, cof3, cof1] at hd
    split at hd
    · rename_i hl
      obtain ⟨c0, c1, c2, rfl⟩ : ∃ c0 c1 c2, l = [c0, c1, c2] := by
        match l, hl with
        | [a, b, c], _ => exact ⟨a, b, c, rfl⟩
      have e : List.range 3 = [0, 1, 2] := rfl
      rw [e] at hd
      simp only [Option.map_eq_some_iff, List.mapM_cons, List.mapM_nil, Option.bind_eq_bind, Option.bind_eq_some_iff, Option.pure_def, Option.some.injEq] at hd
      obtain ⟨xs, ⟨y0, h0, _, ⟨y1, h1, _, ⟨y2, h2, _, rfl, rfl⟩, rfl⟩, rfl⟩, hx⟩ := hd
      obtain ⟨n0, rfl, rfl⟩ := int_of_trod Tryd.underlying3 h0
      obtain ⟨n1, rfl, rfl⟩ := int_of_trod Tryd.underlying3 h1
      obtain ⟨n2, rfl, rfl⟩ := int_of_trod Tryd.underlying3 h2
      simp [Rows.laid_loop_example_questiongames_impl_checked] at hx
      obtain ⟨⟨rfl, rfl, rfl⟩, _⟩ := hx
      rfl
    · cases hd

theorem reads_table {H : Type} (enc : TypeId × Value → H) (W : World) (sp : Nat → Bool) : DataW.trod enc Tryd.prog W 0 sp true 3 38 cells3.toList = some (tableH, []) := by kernel_rfl

end Go.Proofs.YtebjhdipdffkgaaDoor
