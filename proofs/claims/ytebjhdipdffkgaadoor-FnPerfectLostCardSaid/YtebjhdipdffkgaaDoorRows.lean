/-
  NARROWER THAN 'FOR EVERY INPUT', by the rows' own cells (each row's printed sentence says how): FnExactSixteenWords: laid · FnSixteenWords: laid · FnExactPerfectLost: laid · FnPerfectLost: laid · FnLeastCover: laid.
  DERIVED. THE GIVEN ROWS OF THIS SEAT. 5 by the template 'for every input the law returns true; each argument reads behind the call as it read before'; 0 by the template 'total and deterministic' (their statements: YtebjhdipdffkgaaDoorTotals.lean).
  GIVEN WITH THE SEED: the statements are not yours to turn. If you find one false, say at which input.
  Laid BY PROGRAM, IN A SANDBOX (cutbox-rows.mjs): the forced cells as the released guide's own fill.sh prints them over the translation f792b764be29209b… (all of the seat's roots in one cut). By AI agents, Wed Nov 11 2026. No macro, syntax, notation, axiom, sorry.
-/
import Derived.Test.YtebjhdipdffkgaaDoorChecked
import GoSem.Claim
import GoSem.ClaimJoined
import GoSem.ClaimMapViews
import Derived.JoinedTies
import Derived.KernelRfl
namespace Go.Proofs.YtebjhdipdffkgaaDoor
/- THE CELL 'sum', in the pinned program and in every row, IS THE sha256 OF THE DUMP (.gsa) THAT YtebjhdipdffkgaaDoorProg.lean LOADS. Nothing in Lean hashes anything: it is a label: what it is worth is what the hold of that sum in a sandbox is worth. -/
noncomputable def Tryd.pinned : Pinned := { name := "ytebjhdipdffkgaadoor", sum := "f792b764be29209b33b5151902658f14a039788ef122ede36f4ee4d24cb43424", checked := Tryd.checked }
namespace Rows
def none {H : Type} : Left H := { results := [], args := [] }

/- WHAT THE LISTED PACKAGE-LEVEL VARIABLES READ AS WHEN THE CALL BEGINS. Each datum BY PROGRAM (the guide's laid-datum.mjs) off the statement by which the dump's own 'gosem.cut.vars' lays the variable. In a bare row this is a premise. The card (YtebjhdipdffkgaaDoorCards.lean) ties it to the program's text. -/
def laid_loop_example_questiongames_impl_checked {H : Type} : DataW H := .agg [.lit (.int .i64 11), .lit (.int .i64 13), .lit (.int .i64 14)]

/-- 'laws.FnExactSixteenWords': WHATEVER THE INPUT: true; the input reads as it did. -/
def fnExactSixteenWordsSpec : ChangeSpec := { name := "fnExactSixteenWords", vars := ["loop.example/questiongames/impl.checked"], fn := fun _ => fun
  | [g1] => { results := [.lit (.bool true)], args := [], vars := [g1] }
  | _ => none }
def fnExactSixteenWordsRow : OpenClaim := { program := "ytebjhdipdffkgaadoor", sum := "f792b764be29209b33b5151902658f14a039788ef122ede36f4ee4d24cb43424", func := "loop.example/questiongames/laws.FnExactSixteenWords", spec := "fnExactSixteenWords", named := ["loop.example/questiongames/impl.checked"], apart := false, laid := [("loop.example/questiongames/impl.checked", laid_loop_example_questiongames_impl_checked)] }
def FnExactSixteenWordsSaid : Prop := fnExactSixteenWordsRow.holds Tryd.pinned (OpenSpec.ofChange fnExactSixteenWordsSpec)

/-- ITS FALSE NEIGHBOUR: 'it returns false'. Refute it at one input. -/
def fnExactSixteenWordsWrong : ChangeSpec := { name := "fnExactSixteenWords", vars := ["loop.example/questiongames/impl.checked"], fn := fun _ => fun
  | [g1] => { results := [.lit (.bool false)], args := [], vars := [g1] }
  | _ => none }
def FnExactSixteenWordsWrongFalsely : Prop := fnExactSixteenWordsRow.holds Tryd.pinned (OpenSpec.ofChange fnExactSixteenWordsWrong)

/-- 'laws.FnSixteenWords': WHATEVER THE INPUT: true; the input reads as it did. -/
def fnSixteenWordsSpec : ChangeSpec := { name := "fnSixteenWords", vars := ["loop.example/questiongames/impl.checked"], fn := fun _ => fun
  | [d, g1] => { results := [.lit (.bool true)], args := [d], vars := [g1] }
  | _ => none }
def fnSixteenWordsRow : OpenClaim := { program := "ytebjhdipdffkgaadoor", sum := "f792b764be29209b33b5151902658f14a039788ef122ede36f4ee4d24cb43424", func := "loop.example/questiongames/laws.FnSixteenWords", spec := "fnSixteenWords", unfollowed := true, recurses := true, named := ["loop.example/questiongames/impl.checked"], apart := false, laid := [("loop.example/questiongames/impl.checked", laid_loop_example_questiongames_impl_checked)] }
def FnSixteenWordsSaid : Prop := fnSixteenWordsRow.holds Tryd.pinned (OpenSpec.ofChange fnSixteenWordsSpec)

/-- ITS FALSE NEIGHBOUR: 'it returns false'. Refute it at one input. -/
def fnSixteenWordsWrong : ChangeSpec := { name := "fnSixteenWords", vars := ["loop.example/questiongames/impl.checked"], fn := fun _ => fun
  | [d, g1] => { results := [.lit (.bool false)], args := [d], vars := [g1] }
  | _ => none }
def FnSixteenWordsWrongFalsely : Prop := fnSixteenWordsRow.holds Tryd.pinned (OpenSpec.ofChange fnSixteenWordsWrong)

/-- 'laws.FnExactPerfectLost': WHATEVER THE INPUT: true; the input reads as it did. -/
def fnExactPerfectLostSpec : ChangeSpec := { name := "fnExactPerfectLost", vars := ["loop.example/questiongames/impl.checked"], fn := fun _ => fun
  | [d, g1] => { results := [.lit (.bool true)], args := [d], vars := [g1] }
  | _ => none }
def fnExactPerfectLostRow : OpenClaim := { program := "ytebjhdipdffkgaadoor", sum := "f792b764be29209b33b5151902658f14a039788ef122ede36f4ee4d24cb43424", func := "loop.example/questiongames/laws.FnExactPerfectLost", spec := "fnExactPerfectLost", unfollowed := true, recurses := true, named := ["loop.example/questiongames/impl.checked"], apart := false, laid := [("loop.example/questiongames/impl.checked", laid_loop_example_questiongames_impl_checked)] }
def FnExactPerfectLostSaid : Prop := fnExactPerfectLostRow.holds Tryd.pinned (OpenSpec.ofChange fnExactPerfectLostSpec)

/-- ITS FALSE NEIGHBOUR: 'it returns false'. Refute it at one input. -/
def fnExactPerfectLostWrong : ChangeSpec := { name := "fnExactPerfectLost", vars := ["loop.example/questiongames/impl.checked"], fn := fun _ => fun
  | [d, g1] => { results := [.lit (.bool false)], args := [d], vars := [g1] }
  | _ => none }
def FnExactPerfectLostWrongFalsely : Prop := fnExactPerfectLostRow.holds Tryd.pinned (OpenSpec.ofChange fnExactPerfectLostWrong)

/-- 'laws.FnPerfectLost': WHATEVER THE INPUT: true; the input reads as it did. -/
def fnPerfectLostSpec : ChangeSpec := { name := "fnPerfectLost", vars := ["loop.example/questiongames/impl.checked"], fn := fun _ => fun
  | [d, g1] => { results := [.lit (.bool true)], args := [d], vars := [g1] }
  | _ => none }
def fnPerfectLostRow : OpenClaim := { program := "ytebjhdipdffkgaadoor", sum := "f792b764be29209b33b5151902658f14a039788ef122ede36f4ee4d24cb43424", func := "loop.example/questiongames/laws.FnPerfectLost", spec := "fnPerfectLost", unfollowed := true, recurses := true, named := ["loop.example/questiongames/impl.checked"], apart := false, laid := [("loop.example/questiongames/impl.checked", laid_loop_example_questiongames_impl_checked)] }
def FnPerfectLostSaid : Prop := fnPerfectLostRow.holds Tryd.pinned (OpenSpec.ofChange fnPerfectLostSpec)

/-- ITS FALSE NEIGHBOUR: 'it returns false'. Refute it at one input. -/
def fnPerfectLostWrong : ChangeSpec := { name := "fnPerfectLost", vars := ["loop.example/questiongames/impl.checked"], fn := fun _ => fun
  | [d, g1] => { results := [.lit (.bool false)], args := [d], vars := [g1] }
  | _ => none }
def FnPerfectLostWrongFalsely : Prop := fnPerfectLostRow.holds Tryd.pinned (OpenSpec.ofChange fnPerfectLostWrong)

/-- 'laws.FnLeastCover': WHATEVER THE INPUT: true; the input reads as it did. -/
def fnLeastCoverSpec : ChangeSpec := { name := "fnLeastCover", vars := ["loop.example/questiongames/impl.checked"], fn := fun _ => fun
  | [d, g1] => { results := [.lit (.bool true)], args := [d], vars := [g1] }
  | _ => none }
def fnLeastCoverRow : OpenClaim := { program := "ytebjhdipdffkgaadoor", sum := "f792b764be29209b33b5151902658f14a039788ef122ede36f4ee4d24cb43424", func := "loop.example/questiongames/laws.FnLeastCover", spec := "fnLeastCover", unfollowed := true, recurses := true, named := ["loop.example/questiongames/impl.checked"], apart := false, laid := [("loop.example/questiongames/impl.checked", laid_loop_example_questiongames_impl_checked)] }
def FnLeastCoverSaid : Prop := fnLeastCoverRow.holds Tryd.pinned (OpenSpec.ofChange fnLeastCoverSpec)

/-- ITS FALSE NEIGHBOUR: 'it returns false'. Refute it at one input. -/
def fnLeastCoverWrong : ChangeSpec := { name := "fnLeastCover", vars := ["loop.example/questiongames/impl.checked"], fn := fun _ => fun
  | [d, g1] => { results := [.lit (.bool false)], args := [d], vars := [g1] }
  | _ => none }
def FnLeastCoverWrongFalsely : Prop := fnLeastCoverRow.holds Tryd.pinned (OpenSpec.ofChange fnLeastCoverWrong)

/- THE SECOND FORM. 'bulk': how many values and letters a reading holds, each counted each time it is reached (what is shared counts as often as it is met; a slice's spare places count too). A statement '..UptoSaid' is the law's where the arguments, and the package variables that the reading takes, are together of bulk at most 1048576: NARROWER than '..Said'. Prove '..Said' where nothing that the law and all that it calls make is longer than what came in: it says more and counts as full. Else prove '..UptoSaid'. A law counts once. -/
mutual
def uptoBulk {H : Type} : DataW H → Nat
  | .lit (.string bytes) => bytes.length + 1
  | .lit _ => 1
  | .nil => 1
  | .ptr d => uptoBulk d + 1
  | .slice elems spare => uptoBulkAll elems + uptoBulkAll spare + 1
  | .agg parts => uptoBulkAll parts + 1
  | .iface _ d => uptoBulk d + 1
  | .map entries => uptoBulkEntries entries + 1
  | .held _ => 1
def uptoBulkAll {H : Type} : List (DataW H) → Nat
  | [] => 0
  | d :: r => uptoBulk d + uptoBulkAll r
def uptoBulkEntries {H : Type} : List (Lit × DataW H) → Nat
  | [] => 0
  | x :: r => uptoBulkEntry x + uptoBulkEntries r
def uptoBulkEntry {H : Type} : Lit × DataW H → Nat
  | (.string bytes, d) => bytes.length + uptoBulk d + 1
  | (_, d) => uptoBulk d + 1
 end
def uptoSmall : (H : Type) → List (DataW H) → Bool := fun _ ds => decide (uptoBulkAll ds ≤ 1048576)
def OpenSpec.upto (s : _root_.Go.ChangeSpec) : _root_.Go.OpenSpec := { _root_.Go.OpenSpec.ofChange s with cond := some uptoSmall }

/-- 'laws.FnExactSixteenWords', WHERE WHAT IT READS IS OF BULK AT MOST 1048576: true; the input reads as it did. -/
def fnExactSixteenWordsUptoRow : OpenClaim := { program := "ytebjhdipdffkgaadoor", sum := "f792b764be29209b33b5151902658f14a039788ef122ede36f4ee4d24cb43424", func := "loop.example/questiongames/laws.FnExactSixteenWords", spec := "fnExactSixteenWords", named := ["loop.example/questiongames/impl.checked"], apart := false, laid := [("loop.example/questiongames/impl.checked", laid_loop_example_questiongames_impl_checked)], narrowed := true }
def FnExactSixteenWordsUptoSaid : Prop := fnExactSixteenWordsUptoRow.holds Tryd.pinned (OpenSpec.upto fnExactSixteenWordsSpec)

/-- 'laws.FnSixteenWords', WHERE WHAT IT READS IS OF BULK AT MOST 1048576: true; the input reads as it did. -/
def fnSixteenWordsUptoRow : OpenClaim := { program := "ytebjhdipdffkgaadoor", sum := "f792b764be29209b33b5151902658f14a039788ef122ede36f4ee4d24cb43424", func := "loop.example/questiongames/laws.FnSixteenWords", spec := "fnSixteenWords", unfollowed := true, recurses := true, named := ["loop.example/questiongames/impl.checked"], apart := false, laid := [("loop.example/questiongames/impl.checked", laid_loop_example_questiongames_impl_checked)], narrowed := true }
def FnSixteenWordsUptoSaid : Prop := fnSixteenWordsUptoRow.holds Tryd.pinned (OpenSpec.upto fnSixteenWordsSpec)

/-- 'laws.FnExactPerfectLost', WHERE WHAT IT READS IS OF BULK AT MOST 1048576: true; the input reads as it did. -/
def fnExactPerfectLostUptoRow : OpenClaim := { program := "ytebjhdipdffkgaadoor", sum := "f792b764be29209b33b5151902658f14a039788ef122ede36f4ee4d24cb43424", func := "loop.example/questiongames/laws.FnExactPerfectLost", spec := "fnExactPerfectLost", unfollowed := true, recurses := true, named := ["loop.example/questiongames/impl.checked"], apart := false, laid := [("loop.example/questiongames/impl.checked", laid_loop_example_questiongames_impl_checked)], narrowed := true }
def FnExactPerfectLostUptoSaid : Prop := fnExactPerfectLostUptoRow.holds Tryd.pinned (OpenSpec.upto fnExactPerfectLostSpec)

/-- 'laws.FnPerfectLost', WHERE WHAT IT READS IS OF BULK AT MOST 1048576: true; the input reads as it did. -/
def fnPerfectLostUptoRow : OpenClaim := { program := "ytebjhdipdffkgaadoor", sum := "f792b764be29209b33b5151902658f14a039788ef122ede36f4ee4d24cb43424", func := "loop.example/questiongames/laws.FnPerfectLost", spec := "fnPerfectLost", unfollowed := true, recurses := true, named := ["loop.example/questiongames/impl.checked"], apart := false, laid := [("loop.example/questiongames/impl.checked", laid_loop_example_questiongames_impl_checked)], narrowed := true }
def FnPerfectLostUptoSaid : Prop := fnPerfectLostUptoRow.holds Tryd.pinned (OpenSpec.upto fnPerfectLostSpec)

/-- 'laws.FnLeastCover', WHERE WHAT IT READS IS OF BULK AT MOST 1048576: true; the input reads as it did. -/
def fnLeastCoverUptoRow : OpenClaim := { program := "ytebjhdipdffkgaadoor", sum := "f792b764be29209b33b5151902658f14a039788ef122ede36f4ee4d24cb43424", func := "loop.example/questiongames/laws.FnLeastCover", spec := "fnLeastCover", unfollowed := true, recurses := true, named := ["loop.example/questiongames/impl.checked"], apart := false, laid := [("loop.example/questiongames/impl.checked", laid_loop_example_questiongames_impl_checked)], narrowed := true }
def FnLeastCoverUptoSaid : Prop := fnLeastCoverUptoRow.holds Tryd.pinned (OpenSpec.upto fnLeastCoverSpec)

end Rows
end Go.Proofs.YtebjhdipdffkgaaDoor
