/-
  No cell of these rows narrows 'for every input' (looked for: loops, veiled, ifaces, maps, wideKeys, modest, calm, conditions, laid).
  DERIVED. THE GIVEN ROWS OF THIS SEAT. 5 by the template 'for every input the law returns true; each argument reads behind the call as it read before'; 0 by the template 'total and deterministic' (their statements: YtbhpponandmgnaaTotals.lean).
  GIVEN WITH THE SEED: the statements are not yours to turn. If you find one false, say at which input.
  Laid BY PROGRAM, IN A SANDBOX (cutbox-rows.mjs): the forced cells as the released guide's own fill.sh prints them over the translation fcd2767e5303c6b9… (all of the seat's roots in one cut). By AI agents, Wed Nov 11 2026. No macro, syntax, notation, axiom, sorry.
-/
import Derived.Test.YtbhpponandmgnaaChecked
import GoSem.Claim
import GoSem.ClaimJoined
import GoSem.ClaimMapViews
import Derived.JoinedTies
import Derived.KernelRfl
namespace Go.Proofs.Ytbhpponandmgnaa
/- THE CELL 'sum', in the pinned program and in every row, IS THE sha256 OF THE DUMP (.gsa) THAT YtbhpponandmgnaaProg.lean LOADS. Nothing in Lean hashes anything: it is a label: what it is worth is what the hold of that sum in a sandbox is worth. -/
noncomputable def Try.pinned : Pinned := { name := "ytbhpponandmgnaa", sum := "fcd2767e5303c6b97d7e7614937a6d8add4b041eed2b4f673aa495202515465a", checked := Try.checked }
namespace Rows
def none {H : Type} : Left H := { results := [], args := [] }

/-- 'laws.FnExactTextOk': WHATEVER THE INPUT: true; the input reads as it did. -/
def fnExactTextOkSpec : ChangeSpec := { name := "fnExactTextOk", fn := fun _ => fun
  | [d1, d2] => { results := [.lit (.bool true)], args := [d1, d2] }
  | _ => none }
def fnExactTextOkRow : OpenClaim := { program := "ytbhpponandmgnaa", sum := "fcd2767e5303c6b97d7e7614937a6d8add4b041eed2b4f673aa495202515465a", func := "loop.example/questiongames/laws.FnExactTextOk", spec := "fnExactTextOk", unfollowed := true, recurses := true, apart := false }
def FnExactTextOkSaid : Prop := fnExactTextOkRow.holds Try.pinned (OpenSpec.ofChange fnExactTextOkSpec)

/-- ITS FALSE NEIGHBOUR: 'it returns false'. Refute it at one input. -/
def fnExactTextOkWrong : ChangeSpec := { name := "fnExactTextOk", fn := fun _ => fun
  | [d1, d2] => { results := [.lit (.bool false)], args := [d1, d2] }
  | _ => none }
def FnExactTextOkWrongFalsely : Prop := fnExactTextOkRow.holds Try.pinned (OpenSpec.ofChange fnExactTextOkWrong)

/-- 'laws.FnTextOk': WHATEVER THE INPUT: true; the input reads as it did. -/
def fnTextOkSpec : ChangeSpec := { name := "fnTextOk", fn := fun _ => fun
  | [d] => { results := [.lit (.bool true)], args := [d] }
  | _ => none }
def fnTextOkRow : OpenClaim := { program := "ytbhpponandmgnaa", sum := "fcd2767e5303c6b97d7e7614937a6d8add4b041eed2b4f673aa495202515465a", func := "loop.example/questiongames/laws.FnTextOk", spec := "fnTextOk", unfollowed := true, recurses := true, apart := false }
def FnTextOkSaid : Prop := fnTextOkRow.holds Try.pinned (OpenSpec.ofChange fnTextOkSpec)

/-- ITS FALSE NEIGHBOUR: 'it returns false'. Refute it at one input. -/
def fnTextOkWrong : ChangeSpec := { name := "fnTextOk", fn := fun _ => fun
  | [d] => { results := [.lit (.bool false)], args := [d] }
  | _ => none }
def FnTextOkWrongFalsely : Prop := fnTextOkRow.holds Try.pinned (OpenSpec.ofChange fnTextOkWrong)

/-- 'laws.FnExactSoFor': WHATEVER THE INPUT: true; the input reads as it did. -/
def fnExactSoForSpec : ChangeSpec := { name := "fnExactSoFor", fn := fun _ => fun
  | [d1, d2, d3] => { results := [.lit (.bool true)], args := [d1, d2, d3] }
  | _ => none }
def fnExactSoForRow : OpenClaim := { program := "ytbhpponandmgnaa", sum := "fcd2767e5303c6b97d7e7614937a6d8add4b041eed2b4f673aa495202515465a", func := "loop.example/questiongames/laws.FnExactSoFor", spec := "fnExactSoFor", unfollowed := true, recurses := true, apart := false }
def FnExactSoForSaid : Prop := fnExactSoForRow.holds Try.pinned (OpenSpec.ofChange fnExactSoForSpec)

/-- ITS FALSE NEIGHBOUR: 'it returns false'. Refute it at one input. -/
def fnExactSoForWrong : ChangeSpec := { name := "fnExactSoFor", fn := fun _ => fun
  | [d1, d2, d3] => { results := [.lit (.bool false)], args := [d1, d2, d3] }
  | _ => none }
def FnExactSoForWrongFalsely : Prop := fnExactSoForRow.holds Try.pinned (OpenSpec.ofChange fnExactSoForWrong)

/-- 'laws.FnSoFor': WHATEVER THE INPUT: true; the input reads as it did. -/
def fnSoForSpec : ChangeSpec := { name := "fnSoFor", fn := fun _ => fun
  | [d] => { results := [.lit (.bool true)], args := [d] }
  | _ => none }
def fnSoForRow : OpenClaim := { program := "ytbhpponandmgnaa", sum := "fcd2767e5303c6b97d7e7614937a6d8add4b041eed2b4f673aa495202515465a", func := "loop.example/questiongames/laws.FnSoFor", spec := "fnSoFor", unfollowed := true, recurses := true, apart := false }
def FnSoForSaid : Prop := fnSoForRow.holds Try.pinned (OpenSpec.ofChange fnSoForSpec)

/-- ITS FALSE NEIGHBOUR: 'it returns false'. Refute it at one input. -/
def fnSoForWrong : ChangeSpec := { name := "fnSoFor", fn := fun _ => fun
  | [d] => { results := [.lit (.bool false)], args := [d] }
  | _ => none }
def FnSoForWrongFalsely : Prop := fnSoForRow.holds Try.pinned (OpenSpec.ofChange fnSoForWrong)

/-- 'laws.FnExactSayingsOk': WHATEVER THE INPUT: true; the input reads as it did. -/
def fnExactSayingsOkSpec : ChangeSpec := { name := "fnExactSayingsOk", fn := fun _ => fun
  | [d1, d2] => { results := [.lit (.bool true)], args := [d1, d2] }
  | _ => none }
def fnExactSayingsOkRow : OpenClaim := { program := "ytbhpponandmgnaa", sum := "fcd2767e5303c6b97d7e7614937a6d8add4b041eed2b4f673aa495202515465a", func := "loop.example/questiongames/laws.FnExactSayingsOk", spec := "fnExactSayingsOk", unfollowed := true, recurses := true, apart := false }
def FnExactSayingsOkSaid : Prop := fnExactSayingsOkRow.holds Try.pinned (OpenSpec.ofChange fnExactSayingsOkSpec)

/-- ITS FALSE NEIGHBOUR: 'it returns false'. Refute it at one input. -/
def fnExactSayingsOkWrong : ChangeSpec := { name := "fnExactSayingsOk", fn := fun _ => fun
  | [d1, d2] => { results := [.lit (.bool false)], args := [d1, d2] }
  | _ => none }
def FnExactSayingsOkWrongFalsely : Prop := fnExactSayingsOkRow.holds Try.pinned (OpenSpec.ofChange fnExactSayingsOkWrong)

/- THE SECOND FORM. 'bulk': how many values and letters a reading holds, each counted each time it is reached (what is shared counts as often as it is met; a slice's spare places count too). A statement '..UptoSaid' is the law's where the arguments, and the package variables that the reading takes, are together of bulk at most 1048576: NARROWER than '..Said'. Prove '..Said' where nothing that the law and all that it calls make is longer than what came in: it says more and counts as full. Else prove '..UptoSaid'. A law counts once. -/
mutual
def uptoBulk {H : Type} : DataW H → Nat
  | .lit (.string bytes) => bytes.length + 1
  | .lit _ => 1
  | .nil => 1
  | .ptr d => uptoBulk d + 1
  | .slice elems spare => uptoBulkAll elems + uptoBulkAll spare + 1
  | .agg parts => uptoBulkAll parts + 1
  | .iface _ d => uptoBulk d + 1
  | .map entries => uptoBulkEntries entries + 1
  | .held _ => 1
def uptoBulkAll {H : Type} : List (DataW H) → Nat
  | [] => 0
  | d :: r => uptoBulk d + uptoBulkAll r
def uptoBulkEntries {H : Type} : List (Lit × DataW H) → Nat
  | [] => 0
  | x :: r => uptoBulkEntry x + uptoBulkEntries r
def uptoBulkEntry {H : Type} : Lit × DataW H → Nat
  | (.string bytes, d) => bytes.length + uptoBulk d + 1
  | (_, d) => uptoBulk d + 1
 end
def uptoSmall : (H : Type) → List (DataW H) → Bool := fun _ ds => decide (uptoBulkAll ds ≤ 1048576)
def OpenSpec.upto (s : _root_.Go.ChangeSpec) : _root_.Go.OpenSpec := { _root_.Go.OpenSpec.ofChange s with cond := some uptoSmall }

/-- 'laws.FnExactTextOk', WHERE WHAT IT READS IS OF BULK AT MOST 1048576: true; the input reads as it did. -/
def fnExactTextOkUptoRow : OpenClaim := { program := "ytbhpponandmgnaa", sum := "fcd2767e5303c6b97d7e7614937a6d8add4b041eed2b4f673aa495202515465a", func := "loop.example/questiongames/laws.FnExactTextOk", spec := "fnExactTextOk", unfollowed := true, recurses := true, apart := false, narrowed := true }
def FnExactTextOkUptoSaid : Prop := fnExactTextOkUptoRow.holds Try.pinned (OpenSpec.upto fnExactTextOkSpec)

/-- 'laws.FnTextOk', WHERE WHAT IT READS IS OF BULK AT MOST 1048576: true; the input reads as it did. -/
def fnTextOkUptoRow : OpenClaim := { program := "ytbhpponandmgnaa", sum := "fcd2767e5303c6b97d7e7614937a6d8add4b041eed2b4f673aa495202515465a", func := "loop.example/questiongames/laws.FnTextOk", spec := "fnTextOk", unfollowed := true, recurses := true, apart := false, narrowed := true }
def FnTextOkUptoSaid : Prop := fnTextOkUptoRow.holds Try.pinned (OpenSpec.upto fnTextOkSpec)

/-- 'laws.FnExactSoFor', WHERE WHAT IT READS IS OF BULK AT MOST 1048576: true; the input reads as it did. -/
def fnExactSoForUptoRow : OpenClaim := { program := "ytbhpponandmgnaa", sum := "fcd2767e5303c6b97d7e7614937a6d8add4b041eed2b4f673aa495202515465a", func := "loop.example/questiongames/laws.FnExactSoFor", spec := "fnExactSoFor", unfollowed := true, recurses := true, apart := false, narrowed := true }
def FnExactSoForUptoSaid : Prop := fnExactSoForUptoRow.holds Try.pinned (OpenSpec.upto fnExactSoForSpec)

/-- 'laws.FnSoFor', WHERE WHAT IT READS IS OF BULK AT MOST 1048576: true; the input reads as it did. -/
def fnSoForUptoRow : OpenClaim := { program := "ytbhpponandmgnaa", sum := "fcd2767e5303c6b97d7e7614937a6d8add4b041eed2b4f673aa495202515465a", func := "loop.example/questiongames/laws.FnSoFor", spec := "fnSoFor", unfollowed := true, recurses := true, apart := false, narrowed := true }
def FnSoForUptoSaid : Prop := fnSoForUptoRow.holds Try.pinned (OpenSpec.upto fnSoForSpec)

/-- 'laws.FnExactSayingsOk', WHERE WHAT IT READS IS OF BULK AT MOST 1048576: true; the input reads as it did. -/
def fnExactSayingsOkUptoRow : OpenClaim := { program := "ytbhpponandmgnaa", sum := "fcd2767e5303c6b97d7e7614937a6d8add4b041eed2b4f673aa495202515465a", func := "loop.example/questiongames/laws.FnExactSayingsOk", spec := "fnExactSayingsOk", unfollowed := true, recurses := true, apart := false, narrowed := true }
def FnExactSayingsOkUptoSaid : Prop := fnExactSayingsOkUptoRow.holds Try.pinned (OpenSpec.upto fnExactSayingsOkSpec)

end Rows
end Go.Proofs.Ytbhpponandmgnaa
