/-
  No cell of these rows narrows 'for every input' (looked for: loops, veiled, ifaces, maps, wideKeys, modest, calm, conditions, laid).
  DERIVED. THE GIVEN ROWS OF THIS SEAT. 7 by the template 'for every input the law returns true; each argument reads behind the call as it read before'; 0 by the template 'total and deterministic' (their statements: YtdpbjepjiloeaaaTotals.lean).
  GIVEN WITH THE SEED: the statements are not yours to turn. If you find one false, say at which input.
  Laid BY PROGRAM, IN A SANDBOX (cutbox-rows.mjs): the forced cells as the released guide's own fill.sh prints them over the translation a3cd28fcc90d4591… (all of the seat's roots in one cut). By AI agents, Wed Nov 11 2026. No macro, syntax, notation, axiom, sorry.
-/
import Derived.Test.YtdpbjepjiloeaaaChecked
import GoSem.Claim
import GoSem.ClaimJoined
import GoSem.ClaimMapViews
import Derived.JoinedTies
import Derived.KernelRfl
namespace Go.Proofs.Ytdpbjepjiloeaaa
/- THE CELL 'sum', in the pinned program and in every row, IS THE sha256 OF THE DUMP (.gsa) THAT YtdpbjepjiloeaaaProg.lean LOADS. Nothing in Lean hashes anything: it is a label: what it is worth is what the hold of that sum in a sandbox is worth. -/
noncomputable def Try.pinned : Pinned := { name := "ytdpbjepjiloeaaa", sum := "a3cd28fcc90d45918ef340b381ba76cd9c7998741eb24a3542c0e7d8f122c5ac", checked := Try.checked }
namespace Rows
def none {H : Type} : Left H := { results := [], args := [] }

/-- 'laws.FnBoundFor': WHATEVER THE INPUT: true; the input reads as it did. -/
def fnBoundForSpec : ChangeSpec := { name := "fnBoundFor", fn := fun _ => fun
  | [d] => { results := [.lit (.bool true)], args := [d] }
  | _ => none }
def fnBoundForRow : OpenClaim := { program := "ytdpbjepjiloeaaa", sum := "a3cd28fcc90d45918ef340b381ba76cd9c7998741eb24a3542c0e7d8f122c5ac", func := "loop.example/questiongames/laws.FnBoundFor", spec := "fnBoundFor", unfollowed := true, recurses := true, plainKeys := false, apart := false }
def FnBoundForSaid : Prop := fnBoundForRow.holds Try.pinned (OpenSpec.ofChange fnBoundForSpec)

/-- ITS FALSE NEIGHBOUR: 'it returns false'. Refute it at one input. -/
def fnBoundForWrong : ChangeSpec := { name := "fnBoundFor", fn := fun _ => fun
  | [d] => { results := [.lit (.bool false)], args := [d] }
  | _ => none }
def FnBoundForWrongFalsely : Prop := fnBoundForRow.holds Try.pinned (OpenSpec.ofChange fnBoundForWrong)

/-- 'laws.FnAfterNo': WHATEVER THE INPUT: true; the input reads as it did. -/
def fnAfterNoSpec : ChangeSpec := { name := "fnAfterNo", fn := fun _ => fun
  | [d] => { results := [.lit (.bool true)], args := [d] }
  | _ => none }
def fnAfterNoRow : OpenClaim := { program := "ytdpbjepjiloeaaa", sum := "a3cd28fcc90d45918ef340b381ba76cd9c7998741eb24a3542c0e7d8f122c5ac", func := "loop.example/questiongames/laws.FnAfterNo", spec := "fnAfterNo", unfollowed := true, recurses := true, plainKeys := false, apart := false }
def FnAfterNoSaid : Prop := fnAfterNoRow.holds Try.pinned (OpenSpec.ofChange fnAfterNoSpec)

/-- ITS FALSE NEIGHBOUR: 'it returns false'. Refute it at one input. -/
def fnAfterNoWrong : ChangeSpec := { name := "fnAfterNo", fn := fun _ => fun
  | [d] => { results := [.lit (.bool false)], args := [d] }
  | _ => none }
def FnAfterNoWrongFalsely : Prop := fnAfterNoRow.holds Try.pinned (OpenSpec.ofChange fnAfterNoWrong)

/-- 'laws.FnAfterYes': WHATEVER THE INPUT: true; the input reads as it did. -/
def fnAfterYesSpec : ChangeSpec := { name := "fnAfterYes", fn := fun _ => fun
  | [d1, d2] => { results := [.lit (.bool true)], args := [d1, d2] }
  | _ => none }
def fnAfterYesRow : OpenClaim := { program := "ytdpbjepjiloeaaa", sum := "a3cd28fcc90d45918ef340b381ba76cd9c7998741eb24a3542c0e7d8f122c5ac", func := "loop.example/questiongames/laws.FnAfterYes", spec := "fnAfterYes", unfollowed := true, recurses := true, plainKeys := false, apart := false }
def FnAfterYesSaid : Prop := fnAfterYesRow.holds Try.pinned (OpenSpec.ofChange fnAfterYesSpec)

/-- ITS FALSE NEIGHBOUR: 'it returns false'. Refute it at one input. -/
def fnAfterYesWrong : ChangeSpec := { name := "fnAfterYes", fn := fun _ => fun
  | [d1, d2] => { results := [.lit (.bool false)], args := [d1, d2] }
  | _ => none }
def FnAfterYesWrongFalsely : Prop := fnAfterYesRow.holds Try.pinned (OpenSpec.ofChange fnAfterYesWrong)

/-- 'laws.FnExactSureIn': WHATEVER THE INPUT: true; the input reads as it did. -/
def fnExactSureInSpec : ChangeSpec := { name := "fnExactSureIn", fn := fun _ => fun
  | [d1, d2] => { results := [.lit (.bool true)], args := [d1, d2] }
  | _ => none }
def fnExactSureInRow : OpenClaim := { program := "ytdpbjepjiloeaaa", sum := "a3cd28fcc90d45918ef340b381ba76cd9c7998741eb24a3542c0e7d8f122c5ac", func := "loop.example/questiongames/laws.FnExactSureIn", spec := "fnExactSureIn", unfollowed := true, recurses := true, plainKeys := false, apart := false }
def FnExactSureInSaid : Prop := fnExactSureInRow.holds Try.pinned (OpenSpec.ofChange fnExactSureInSpec)

/-- ITS FALSE NEIGHBOUR: 'it returns false'. Refute it at one input. -/
def fnExactSureInWrong : ChangeSpec := { name := "fnExactSureIn", fn := fun _ => fun
  | [d1, d2] => { results := [.lit (.bool false)], args := [d1, d2] }
  | _ => none }
def FnExactSureInWrongFalsely : Prop := fnExactSureInRow.holds Try.pinned (OpenSpec.ofChange fnExactSureInWrong)

/-- 'laws.FnSureIn': WHATEVER THE INPUT: true; the input reads as it did. -/
def fnSureInSpec : ChangeSpec := { name := "fnSureIn", fn := fun _ => fun
  | [d] => { results := [.lit (.bool true)], args := [d] }
  | _ => none }
def fnSureInRow : OpenClaim := { program := "ytdpbjepjiloeaaa", sum := "a3cd28fcc90d45918ef340b381ba76cd9c7998741eb24a3542c0e7d8f122c5ac", func := "loop.example/questiongames/laws.FnSureIn", spec := "fnSureIn", unfollowed := true, recurses := true, plainKeys := false, apart := false }
def FnSureInSaid : Prop := fnSureInRow.holds Try.pinned (OpenSpec.ofChange fnSureInSpec)

/-- ITS FALSE NEIGHBOUR: 'it returns false'. Refute it at one input. -/
def fnSureInWrong : ChangeSpec := { name := "fnSureIn", fn := fun _ => fun
  | [d] => { results := [.lit (.bool false)], args := [d] }
  | _ => none }
def FnSureInWrongFalsely : Prop := fnSureInRow.holds Try.pinned (OpenSpec.ofChange fnSureInWrong)

/-- 'laws.FnExactQuestionsFor': WHATEVER THE INPUT: true; the input reads as it did. -/
def fnExactQuestionsForSpec : ChangeSpec := { name := "fnExactQuestionsFor", fn := fun _ => fun
  | [d] => { results := [.lit (.bool true)], args := [d] }
  | _ => none }
def fnExactQuestionsForRow : OpenClaim := { program := "ytdpbjepjiloeaaa", sum := "a3cd28fcc90d45918ef340b381ba76cd9c7998741eb24a3542c0e7d8f122c5ac", func := "loop.example/questiongames/laws.FnExactQuestionsFor", spec := "fnExactQuestionsFor", unfollowed := true, recurses := true, plainKeys := false, apart := false }
def FnExactQuestionsForSaid : Prop := fnExactQuestionsForRow.holds Try.pinned (OpenSpec.ofChange fnExactQuestionsForSpec)

/-- ITS FALSE NEIGHBOUR: 'it returns false'. Refute it at one input. -/
def fnExactQuestionsForWrong : ChangeSpec := { name := "fnExactQuestionsFor", fn := fun _ => fun
  | [d] => { results := [.lit (.bool false)], args := [d] }
  | _ => none }
def FnExactQuestionsForWrongFalsely : Prop := fnExactQuestionsForRow.holds Try.pinned (OpenSpec.ofChange fnExactQuestionsForWrong)

/-- 'laws.FnQuestionsFor': WHATEVER THE INPUT: true; the input reads as it did. -/
def fnQuestionsForSpec : ChangeSpec := { name := "fnQuestionsFor", fn := fun _ => fun
  | [d] => { results := [.lit (.bool true)], args := [d] }
  | _ => none }
def fnQuestionsForRow : OpenClaim := { program := "ytdpbjepjiloeaaa", sum := "a3cd28fcc90d45918ef340b381ba76cd9c7998741eb24a3542c0e7d8f122c5ac", func := "loop.example/questiongames/laws.FnQuestionsFor", spec := "fnQuestionsFor", unfollowed := true, recurses := true, plainKeys := false, apart := false }
def FnQuestionsForSaid : Prop := fnQuestionsForRow.holds Try.pinned (OpenSpec.ofChange fnQuestionsForSpec)

/-- ITS FALSE NEIGHBOUR: 'it returns false'. Refute it at one input. -/
def fnQuestionsForWrong : ChangeSpec := { name := "fnQuestionsFor", fn := fun _ => fun
  | [d] => { results := [.lit (.bool false)], args := [d] }
  | _ => none }
def FnQuestionsForWrongFalsely : Prop := fnQuestionsForRow.holds Try.pinned (OpenSpec.ofChange fnQuestionsForWrong)

/- THE SECOND FORM. 'bulk': how many values and letters a reading holds, each counted each time it is reached (what is shared counts as often as it is met; a slice's spare places count too). A statement '..UptoSaid' is the law's where the arguments, and the package variables that the reading takes, are together of bulk at most 1048576: NARROWER than '..Said'. Prove '..Said' where nothing that the law and all that it calls make is longer than what came in: it says more and counts as full. Else prove '..UptoSaid'. A law counts once. -/
mutual
def uptoBulk {H : Type} : DataW H → Nat
  | .lit (.string bytes) => bytes.length + 1
  | .lit _ => 1
  | .nil => 1
  | .ptr d => uptoBulk d + 1
  | .slice elems spare => uptoBulkAll elems + uptoBulkAll spare + 1
  | .agg parts => uptoBulkAll parts + 1
  | .iface _ d => uptoBulk d + 1
  | .map entries => uptoBulkEntries entries + 1
  | .held _ => 1
def uptoBulkAll {H : Type} : List (DataW H) → Nat
  | [] => 0
  | d :: r => uptoBulk d + uptoBulkAll r
def uptoBulkEntries {H : Type} : List (Lit × DataW H) → Nat
  | [] => 0
  | x :: r => uptoBulkEntry x + uptoBulkEntries r
def uptoBulkEntry {H : Type} : Lit × DataW H → Nat
  | (.string bytes, d) => bytes.length + uptoBulk d + 1
  | (_, d) => uptoBulk d + 1
 end
def uptoSmall : (H : Type) → List (DataW H) → Bool := fun _ ds => decide (uptoBulkAll ds ≤ 1048576)
def OpenSpec.upto (s : _root_.Go.ChangeSpec) : _root_.Go.OpenSpec := { _root_.Go.OpenSpec.ofChange s with cond := some uptoSmall }

/-- 'laws.FnBoundFor', WHERE WHAT IT READS IS OF BULK AT MOST 1048576: true; the input reads as it did. -/
def fnBoundForUptoRow : OpenClaim := { program := "ytdpbjepjiloeaaa", sum := "a3cd28fcc90d45918ef340b381ba76cd9c7998741eb24a3542c0e7d8f122c5ac", func := "loop.example/questiongames/laws.FnBoundFor", spec := "fnBoundFor", unfollowed := true, recurses := true, plainKeys := false, apart := false, narrowed := true }
def FnBoundForUptoSaid : Prop := fnBoundForUptoRow.holds Try.pinned (OpenSpec.upto fnBoundForSpec)

/-- 'laws.FnAfterNo', WHERE WHAT IT READS IS OF BULK AT MOST 1048576: true; the input reads as it did. -/
def fnAfterNoUptoRow : OpenClaim := { program := "ytdpbjepjiloeaaa", sum := "a3cd28fcc90d45918ef340b381ba76cd9c7998741eb24a3542c0e7d8f122c5ac", func := "loop.example/questiongames/laws.FnAfterNo", spec := "fnAfterNo", unfollowed := true, recurses := true, plainKeys := false, apart := false, narrowed := true }
def FnAfterNoUptoSaid : Prop := fnAfterNoUptoRow.holds Try.pinned (OpenSpec.upto fnAfterNoSpec)

/-- 'laws.FnAfterYes', WHERE WHAT IT READS IS OF BULK AT MOST 1048576: true; the input reads as it did. -/
def fnAfterYesUptoRow : OpenClaim := { program := "ytdpbjepjiloeaaa", sum := "a3cd28fcc90d45918ef340b381ba76cd9c7998741eb24a3542c0e7d8f122c5ac", func := "loop.example/questiongames/laws.FnAfterYes", spec := "fnAfterYes", unfollowed := true, recurses := true, plainKeys := false, apart := false, narrowed := true }
def FnAfterYesUptoSaid : Prop := fnAfterYesUptoRow.holds Try.pinned (OpenSpec.upto fnAfterYesSpec)

/-- 'laws.FnExactSureIn', WHERE WHAT IT READS IS OF BULK AT MOST 1048576: true; the input reads as it did. -/
def fnExactSureInUptoRow : OpenClaim := { program := "ytdpbjepjiloeaaa", sum := "a3cd28fcc90d45918ef340b381ba76cd9c7998741eb24a3542c0e7d8f122c5ac", func := "loop.example/questiongames/laws.FnExactSureIn", spec := "fnExactSureIn", unfollowed := true, recurses := true, plainKeys := false, apart := false, narrowed := true }
def FnExactSureInUptoSaid : Prop := fnExactSureInUptoRow.holds Try.pinned (OpenSpec.upto fnExactSureInSpec)

/-- 'laws.FnSureIn', WHERE WHAT IT READS IS OF BULK AT MOST 1048576: true; the input reads as it did. -/
def fnSureInUptoRow : OpenClaim := { program := "ytdpbjepjiloeaaa", sum := "a3cd28fcc90d45918ef340b381ba76cd9c7998741eb24a3542c0e7d8f122c5ac", func := "loop.example/questiongames/laws.FnSureIn", spec := "fnSureIn", unfollowed := true, recurses := true, plainKeys := false, apart := false, narrowed := true }
def FnSureInUptoSaid : Prop := fnSureInUptoRow.holds Try.pinned (OpenSpec.upto fnSureInSpec)

/-- 'laws.FnExactQuestionsFor', WHERE WHAT IT READS IS OF BULK AT MOST 1048576: true; the input reads as it did. -/
def fnExactQuestionsForUptoRow : OpenClaim := { program := "ytdpbjepjiloeaaa", sum := "a3cd28fcc90d45918ef340b381ba76cd9c7998741eb24a3542c0e7d8f122c5ac", func := "loop.example/questiongames/laws.FnExactQuestionsFor", spec := "fnExactQuestionsFor", unfollowed := true, recurses := true, plainKeys := false, apart := false, narrowed := true }
def FnExactQuestionsForUptoSaid : Prop := fnExactQuestionsForUptoRow.holds Try.pinned (OpenSpec.upto fnExactQuestionsForSpec)

/-- 'laws.FnQuestionsFor', WHERE WHAT IT READS IS OF BULK AT MOST 1048576: true; the input reads as it did. -/
def fnQuestionsForUptoRow : OpenClaim := { program := "ytdpbjepjiloeaaa", sum := "a3cd28fcc90d45918ef340b381ba76cd9c7998741eb24a3542c0e7d8f122c5ac", func := "loop.example/questiongames/laws.FnQuestionsFor", spec := "fnQuestionsFor", unfollowed := true, recurses := true, plainKeys := false, apart := false, narrowed := true }
def FnQuestionsForUptoSaid : Prop := fnQuestionsForUptoRow.holds Try.pinned (OpenSpec.upto fnQuestionsForSpec)

end Rows
end Go.Proofs.Ytdpbjepjiloeaaa
