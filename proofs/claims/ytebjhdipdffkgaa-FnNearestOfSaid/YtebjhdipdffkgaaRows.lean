/-
  No cell of these rows narrows 'for every input' (looked for: loops, veiled, ifaces, maps, wideKeys, modest, calm, conditions, laid).
  DERIVED. THE GIVEN ROWS OF THIS SEAT. 14 by the template 'for every input the law returns true; each argument reads behind the call as it read before'; 0 by the template 'total and deterministic' (their statements: YtebjhdipdffkgaaTotals.lean).
  GIVEN WITH THE SEED: the statements are not yours to turn. If you find one false, say at which input.
  Laid BY PROGRAM, IN A SANDBOX (cutbox-rows.mjs): the forced cells as the released guide's own fill.sh prints them over the translation 535c17ef123b4909… (all of the seat's roots in one cut). By AI agents, Wed Nov 11 2026. No macro, syntax, notation, axiom, sorry.
-/
import Derived.Test.YtebjhdipdffkgaaChecked
import GoSem.Claim
import GoSem.ClaimJoined
import GoSem.ClaimMapViews
import Derived.JoinedTies
import Derived.KernelRfl
namespace Go.Proofs.Ytebjhdipdffkgaa
/- THE CELL 'sum', in the pinned program and in every row, IS THE sha256 OF THE DUMP (.gsa) THAT YtebjhdipdffkgaaProg.lean LOADS. Nothing in Lean hashes anything: it is a label: what it is worth is what the hold of that sum in a sandbox is worth. -/
noncomputable def Try.pinned : Pinned := { name := "ytebjhdipdffkgaa", sum := "535c17ef123b4909dcb4dc0a06b7b0f6b578fabd107a5349b2a5a026f883f07c", checked := Try.checked }
namespace Rows
def none {H : Type} : Left H := { results := [], args := [] }

/-- 'laws.FnExactMostWords': WHATEVER THE INPUT: true; the input reads as it did. -/
def fnExactMostWordsSpec : ChangeSpec := { name := "fnExactMostWords", fn := fun _ => fun
  | [d1, d2] => { results := [.lit (.bool true)], args := [d1, d2] }
  | _ => none }
def fnExactMostWordsRow : OpenClaim := { program := "ytebjhdipdffkgaa", sum := "535c17ef123b4909dcb4dc0a06b7b0f6b578fabd107a5349b2a5a026f883f07c", func := "loop.example/questiongames/laws.FnExactMostWords", spec := "fnExactMostWords", apart := false }
def FnExactMostWordsSaid : Prop := fnExactMostWordsRow.holds Try.pinned (OpenSpec.ofChange fnExactMostWordsSpec)

/-- ITS FALSE NEIGHBOUR: 'it returns false'. Refute it at one input. -/
def fnExactMostWordsWrong : ChangeSpec := { name := "fnExactMostWords", fn := fun _ => fun
  | [d1, d2] => { results := [.lit (.bool false)], args := [d1, d2] }
  | _ => none }
def FnExactMostWordsWrongFalsely : Prop := fnExactMostWordsRow.holds Try.pinned (OpenSpec.ofChange fnExactMostWordsWrong)

/-- 'laws.FnMostWords': WHATEVER THE INPUT: true; the input reads as it did. -/
def fnMostWordsSpec : ChangeSpec := { name := "fnMostWords", fn := fun _ => fun
  | [d] => { results := [.lit (.bool true)], args := [d] }
  | _ => none }
def fnMostWordsRow : OpenClaim := { program := "ytebjhdipdffkgaa", sum := "535c17ef123b4909dcb4dc0a06b7b0f6b578fabd107a5349b2a5a026f883f07c", func := "loop.example/questiongames/laws.FnMostWords", spec := "fnMostWords", apart := false }
def FnMostWordsSaid : Prop := fnMostWordsRow.holds Try.pinned (OpenSpec.ofChange fnMostWordsSpec)

/-- ITS FALSE NEIGHBOUR: 'it returns false'. Refute it at one input. -/
def fnMostWordsWrong : ChangeSpec := { name := "fnMostWords", fn := fun _ => fun
  | [d] => { results := [.lit (.bool false)], args := [d] }
  | _ => none }
def FnMostWordsWrongFalsely : Prop := fnMostWordsRow.holds Try.pinned (OpenSpec.ofChange fnMostWordsWrong)

/-- 'laws.FnExactFarOf': WHATEVER THE INPUT: true; the input reads as it did. -/
def fnExactFarOfSpec : ChangeSpec := { name := "fnExactFarOf", fn := fun _ => fun
  | [d1, d2] => { results := [.lit (.bool true)], args := [d1, d2] }
  | _ => none }
def fnExactFarOfRow : OpenClaim := { program := "ytebjhdipdffkgaa", sum := "535c17ef123b4909dcb4dc0a06b7b0f6b578fabd107a5349b2a5a026f883f07c", func := "loop.example/questiongames/laws.FnExactFarOf", spec := "fnExactFarOf", apart := false }
def FnExactFarOfSaid : Prop := fnExactFarOfRow.holds Try.pinned (OpenSpec.ofChange fnExactFarOfSpec)

/-- ITS FALSE NEIGHBOUR: 'it returns false'. Refute it at one input. -/
def fnExactFarOfWrong : ChangeSpec := { name := "fnExactFarOf", fn := fun _ => fun
  | [d1, d2] => { results := [.lit (.bool false)], args := [d1, d2] }
  | _ => none }
def FnExactFarOfWrongFalsely : Prop := fnExactFarOfRow.holds Try.pinned (OpenSpec.ofChange fnExactFarOfWrong)

/-- 'laws.FnFarOf': WHATEVER THE INPUT: true; the input reads as it did. -/
def fnFarOfSpec : ChangeSpec := { name := "fnFarOf", fn := fun _ => fun
  | [d1, d2] => { results := [.lit (.bool true)], args := [d1, d2] }
  | _ => none }
def fnFarOfRow : OpenClaim := { program := "ytebjhdipdffkgaa", sum := "535c17ef123b4909dcb4dc0a06b7b0f6b578fabd107a5349b2a5a026f883f07c", func := "loop.example/questiongames/laws.FnFarOf", spec := "fnFarOf", apart := false }
def FnFarOfSaid : Prop := fnFarOfRow.holds Try.pinned (OpenSpec.ofChange fnFarOfSpec)

/-- ITS FALSE NEIGHBOUR: 'it returns false'. Refute it at one input. -/
def fnFarOfWrong : ChangeSpec := { name := "fnFarOf", fn := fun _ => fun
  | [d1, d2] => { results := [.lit (.bool false)], args := [d1, d2] }
  | _ => none }
def FnFarOfWrongFalsely : Prop := fnFarOfRow.holds Try.pinned (OpenSpec.ofChange fnFarOfWrong)

/-- 'laws.FnExactWordsPicked': WHATEVER THE INPUT: true; the input reads as it did. -/
def fnExactWordsPickedSpec : ChangeSpec := { name := "fnExactWordsPicked", fn := fun _ => fun
  | [d1, d2] => { results := [.lit (.bool true)], args := [d1, d2] }
  | _ => none }
def fnExactWordsPickedRow : OpenClaim := { program := "ytebjhdipdffkgaa", sum := "535c17ef123b4909dcb4dc0a06b7b0f6b578fabd107a5349b2a5a026f883f07c", func := "loop.example/questiongames/laws.FnExactWordsPicked", spec := "fnExactWordsPicked", apart := false }
def FnExactWordsPickedSaid : Prop := fnExactWordsPickedRow.holds Try.pinned (OpenSpec.ofChange fnExactWordsPickedSpec)

/-- ITS FALSE NEIGHBOUR: 'it returns false'. Refute it at one input. -/
def fnExactWordsPickedWrong : ChangeSpec := { name := "fnExactWordsPicked", fn := fun _ => fun
  | [d1, d2] => { results := [.lit (.bool false)], args := [d1, d2] }
  | _ => none }
def FnExactWordsPickedWrongFalsely : Prop := fnExactWordsPickedRow.holds Try.pinned (OpenSpec.ofChange fnExactWordsPickedWrong)

/-- 'laws.FnNearestOf': WHATEVER THE INPUT: true; the input reads as it did. -/
def fnNearestOfSpec : ChangeSpec := { name := "fnNearestOf", fn := fun _ => fun
  | [d] => { results := [.lit (.bool true)], args := [d] }
  | _ => none }
def fnNearestOfRow : OpenClaim := { program := "ytebjhdipdffkgaa", sum := "535c17ef123b4909dcb4dc0a06b7b0f6b578fabd107a5349b2a5a026f883f07c", func := "loop.example/questiongames/laws.FnNearestOf", spec := "fnNearestOf", unfollowed := true, recurses := true, apart := false }
def FnNearestOfSaid : Prop := fnNearestOfRow.holds Try.pinned (OpenSpec.ofChange fnNearestOfSpec)

/-- ITS FALSE NEIGHBOUR: 'it returns false'. Refute it at one input. -/
def fnNearestOfWrong : ChangeSpec := { name := "fnNearestOf", fn := fun _ => fun
  | [d] => { results := [.lit (.bool false)], args := [d] }
  | _ => none }
def FnNearestOfWrongFalsely : Prop := fnNearestOfRow.holds Try.pinned (OpenSpec.ofChange fnNearestOfWrong)

/-- 'laws.FnSurePast': WHATEVER THE INPUT: true; the input reads as it did. -/
def fnSurePastSpec : ChangeSpec := { name := "fnSurePast", fn := fun _ => fun
  | [d] => { results := [.lit (.bool true)], args := [d] }
  | _ => none }
def fnSurePastRow : OpenClaim := { program := "ytebjhdipdffkgaa", sum := "535c17ef123b4909dcb4dc0a06b7b0f6b578fabd107a5349b2a5a026f883f07c", func := "loop.example/questiongames/laws.FnSurePast", spec := "fnSurePast", unfollowed := true, recurses := true, apart := false }
def FnSurePastSaid : Prop := fnSurePastRow.holds Try.pinned (OpenSpec.ofChange fnSurePastSpec)

/-- ITS FALSE NEIGHBOUR: 'it returns false'. Refute it at one input. -/
def fnSurePastWrong : ChangeSpec := { name := "fnSurePast", fn := fun _ => fun
  | [d] => { results := [.lit (.bool false)], args := [d] }
  | _ => none }
def FnSurePastWrongFalsely : Prop := fnSurePastRow.holds Try.pinned (OpenSpec.ofChange fnSurePastWrong)

/-- 'laws.FnExactWordsOk': WHATEVER THE INPUT: true; the input reads as it did. -/
def fnExactWordsOkSpec : ChangeSpec := { name := "fnExactWordsOk", fn := fun _ => fun
  | [d1, d2] => { results := [.lit (.bool true)], args := [d1, d2] }
  | _ => none }
def fnExactWordsOkRow : OpenClaim := { program := "ytebjhdipdffkgaa", sum := "535c17ef123b4909dcb4dc0a06b7b0f6b578fabd107a5349b2a5a026f883f07c", func := "loop.example/questiongames/laws.FnExactWordsOk", spec := "fnExactWordsOk", unfollowed := true, recurses := true, apart := false }
def FnExactWordsOkSaid : Prop := fnExactWordsOkRow.holds Try.pinned (OpenSpec.ofChange fnExactWordsOkSpec)

/-- ITS FALSE NEIGHBOUR: 'it returns false'. Refute it at one input. -/
def fnExactWordsOkWrong : ChangeSpec := { name := "fnExactWordsOk", fn := fun _ => fun
  | [d1, d2] => { results := [.lit (.bool false)], args := [d1, d2] }
  | _ => none }
def FnExactWordsOkWrongFalsely : Prop := fnExactWordsOkRow.holds Try.pinned (OpenSpec.ofChange fnExactWordsOkWrong)

/-- 'laws.FnWordsOk': WHATEVER THE INPUT: true; the input reads as it did. -/
def fnWordsOkSpec : ChangeSpec := { name := "fnWordsOk", fn := fun _ => fun
  | [d] => { results := [.lit (.bool true)], args := [d] }
  | _ => none }
def fnWordsOkRow : OpenClaim := { program := "ytebjhdipdffkgaa", sum := "535c17ef123b4909dcb4dc0a06b7b0f6b578fabd107a5349b2a5a026f883f07c", func := "loop.example/questiongames/laws.FnWordsOk", spec := "fnWordsOk", unfollowed := true, recurses := true, apart := false }
def FnWordsOkSaid : Prop := fnWordsOkRow.holds Try.pinned (OpenSpec.ofChange fnWordsOkSpec)

/-- ITS FALSE NEIGHBOUR: 'it returns false'. Refute it at one input. -/
def fnWordsOkWrong : ChangeSpec := { name := "fnWordsOk", fn := fun _ => fun
  | [d] => { results := [.lit (.bool false)], args := [d] }
  | _ => none }
def FnWordsOkWrongFalsely : Prop := fnWordsOkRow.holds Try.pinned (OpenSpec.ofChange fnWordsOkWrong)

/-- 'laws.FnExactLeastFar': WHATEVER THE INPUT: true; the input reads as it did. -/
def fnExactLeastFarSpec : ChangeSpec := { name := "fnExactLeastFar", fn := fun _ => fun
  | [d1, d2] => { results := [.lit (.bool true)], args := [d1, d2] }
  | _ => none }
def fnExactLeastFarRow : OpenClaim := { program := "ytebjhdipdffkgaa", sum := "535c17ef123b4909dcb4dc0a06b7b0f6b578fabd107a5349b2a5a026f883f07c", func := "loop.example/questiongames/laws.FnExactLeastFar", spec := "fnExactLeastFar", unfollowed := true, recurses := true, apart := false }
def FnExactLeastFarSaid : Prop := fnExactLeastFarRow.holds Try.pinned (OpenSpec.ofChange fnExactLeastFarSpec)

/-- ITS FALSE NEIGHBOUR: 'it returns false'. Refute it at one input. -/
def fnExactLeastFarWrong : ChangeSpec := { name := "fnExactLeastFar", fn := fun _ => fun
  | [d1, d2] => { results := [.lit (.bool false)], args := [d1, d2] }
  | _ => none }
def FnExactLeastFarWrongFalsely : Prop := fnExactLeastFarRow.holds Try.pinned (OpenSpec.ofChange fnExactLeastFarWrong)

/-- 'laws.FnLeastFar': WHATEVER THE INPUT: true; the input reads as it did. -/
def fnLeastFarSpec : ChangeSpec := { name := "fnLeastFar", fn := fun _ => fun
  | [d] => { results := [.lit (.bool true)], args := [d] }
  | _ => none }
def fnLeastFarRow : OpenClaim := { program := "ytebjhdipdffkgaa", sum := "535c17ef123b4909dcb4dc0a06b7b0f6b578fabd107a5349b2a5a026f883f07c", func := "loop.example/questiongames/laws.FnLeastFar", spec := "fnLeastFar", unfollowed := true, recurses := true, apart := false }
def FnLeastFarSaid : Prop := fnLeastFarRow.holds Try.pinned (OpenSpec.ofChange fnLeastFarSpec)

/-- ITS FALSE NEIGHBOUR: 'it returns false'. Refute it at one input. -/
def fnLeastFarWrong : ChangeSpec := { name := "fnLeastFar", fn := fun _ => fun
  | [d] => { results := [.lit (.bool false)], args := [d] }
  | _ => none }
def FnLeastFarWrongFalsely : Prop := fnLeastFarRow.holds Try.pinned (OpenSpec.ofChange fnLeastFarWrong)

/-- 'laws.FnExactNearestOf': WHATEVER THE INPUT: true; the input reads as it did. -/
def fnExactNearestOfSpec : ChangeSpec := { name := "fnExactNearestOf", fn := fun _ => fun
  | [d1, d2, d3] => { results := [.lit (.bool true)], args := [d1, d2, d3] }
  | _ => none }
def fnExactNearestOfRow : OpenClaim := { program := "ytebjhdipdffkgaa", sum := "535c17ef123b4909dcb4dc0a06b7b0f6b578fabd107a5349b2a5a026f883f07c", func := "loop.example/questiongames/laws.FnExactNearestOf", spec := "fnExactNearestOf", unfollowed := true, recurses := true, apart := false }
def FnExactNearestOfSaid : Prop := fnExactNearestOfRow.holds Try.pinned (OpenSpec.ofChange fnExactNearestOfSpec)

/-- ITS FALSE NEIGHBOUR: 'it returns false'. Refute it at one input. -/
def fnExactNearestOfWrong : ChangeSpec := { name := "fnExactNearestOf", fn := fun _ => fun
  | [d1, d2, d3] => { results := [.lit (.bool false)], args := [d1, d2, d3] }
  | _ => none }
def FnExactNearestOfWrongFalsely : Prop := fnExactNearestOfRow.holds Try.pinned (OpenSpec.ofChange fnExactNearestOfWrong)

/-- 'laws.FnExactSurePast': WHATEVER THE INPUT: true; the input reads as it did. -/
def fnExactSurePastSpec : ChangeSpec := { name := "fnExactSurePast", fn := fun _ => fun
  | [d1, d2, d3] => { results := [.lit (.bool true)], args := [d1, d2, d3] }
  | _ => none }
def fnExactSurePastRow : OpenClaim := { program := "ytebjhdipdffkgaa", sum := "535c17ef123b4909dcb4dc0a06b7b0f6b578fabd107a5349b2a5a026f883f07c", func := "loop.example/questiongames/laws.FnExactSurePast", spec := "fnExactSurePast", unfollowed := true, recurses := true, apart := false }
def FnExactSurePastSaid : Prop := fnExactSurePastRow.holds Try.pinned (OpenSpec.ofChange fnExactSurePastSpec)

/-- ITS FALSE NEIGHBOUR: 'it returns false'. Refute it at one input. -/
def fnExactSurePastWrong : ChangeSpec := { name := "fnExactSurePast", fn := fun _ => fun
  | [d1, d2, d3] => { results := [.lit (.bool false)], args := [d1, d2, d3] }
  | _ => none }
def FnExactSurePastWrongFalsely : Prop := fnExactSurePastRow.holds Try.pinned (OpenSpec.ofChange fnExactSurePastWrong)

/-- 'laws.FnWordsPicked': WHATEVER THE INPUT: true; the input reads as it did. -/
def fnWordsPickedSpec : ChangeSpec := { name := "fnWordsPicked", fn := fun _ => fun
  | [d] => { results := [.lit (.bool true)], args := [d] }
  | _ => none }
def fnWordsPickedRow : OpenClaim := { program := "ytebjhdipdffkgaa", sum := "535c17ef123b4909dcb4dc0a06b7b0f6b578fabd107a5349b2a5a026f883f07c", func := "loop.example/questiongames/laws.FnWordsPicked", spec := "fnWordsPicked", unfollowed := true, recurses := true, apart := false }
def FnWordsPickedSaid : Prop := fnWordsPickedRow.holds Try.pinned (OpenSpec.ofChange fnWordsPickedSpec)

/-- ITS FALSE NEIGHBOUR: 'it returns false'. Refute it at one input. -/
def fnWordsPickedWrong : ChangeSpec := { name := "fnWordsPicked", fn := fun _ => fun
  | [d] => { results := [.lit (.bool false)], args := [d] }
  | _ => none }
def FnWordsPickedWrongFalsely : Prop := fnWordsPickedRow.holds Try.pinned (OpenSpec.ofChange fnWordsPickedWrong)

/- THE SECOND FORM. 'bulk': how many values and letters a reading holds, each counted each time it is reached (what is shared counts as often as it is met; a slice's spare places count too). A statement '..UptoSaid' is the law's where the arguments, and the package variables that the reading takes, are together of bulk at most 1048576: NARROWER than '..Said'. Prove '..Said' where nothing that the law and all that it calls make is longer than what came in: it says more and counts as full. Else prove '..UptoSaid'. A law counts once. -/
mutual
def uptoBulk {H : Type} : DataW H → Nat
  | .lit (.string bytes) => bytes.length + 1
  | .lit _ => 1
  | .nil => 1
  | .ptr d => uptoBulk d + 1
  | .slice elems spare => uptoBulkAll elems + uptoBulkAll spare + 1
  | .agg parts => uptoBulkAll parts + 1
  | .iface _ d => uptoBulk d + 1
  | .map entries => uptoBulkEntries entries + 1
  | .held _ => 1
def uptoBulkAll {H : Type} : List (DataW H) → Nat
  | [] => 0
  | d :: r => uptoBulk d + uptoBulkAll r
def uptoBulkEntries {H : Type} : List (Lit × DataW H) → Nat
  | [] => 0
  | x :: r => uptoBulkEntry x + uptoBulkEntries r
def uptoBulkEntry {H : Type} : Lit × DataW H → Nat
  | (.string bytes, d) => bytes.length + uptoBulk d + 1
  | (_, d) => uptoBulk d + 1
 end
def uptoSmall : (H : Type) → List (DataW H) → Bool := fun _ ds => decide (uptoBulkAll ds ≤ 1048576)
def OpenSpec.upto (s : _root_.Go.ChangeSpec) : _root_.Go.OpenSpec := { _root_.Go.OpenSpec.ofChange s with cond := some uptoSmall }

/-- 'laws.FnExactMostWords', WHERE WHAT IT READS IS OF BULK AT MOST 1048576: true; the input reads as it did. -/
def fnExactMostWordsUptoRow : OpenClaim := { program := "ytebjhdipdffkgaa", sum := "535c17ef123b4909dcb4dc0a06b7b0f6b578fabd107a5349b2a5a026f883f07c", func := "loop.example/questiongames/laws.FnExactMostWords", spec := "fnExactMostWords", apart := false, narrowed := true }
def FnExactMostWordsUptoSaid : Prop := fnExactMostWordsUptoRow.holds Try.pinned (OpenSpec.upto fnExactMostWordsSpec)

/-- 'laws.FnMostWords', WHERE WHAT IT READS IS OF BULK AT MOST 1048576: true; the input reads as it did. -/
def fnMostWordsUptoRow : OpenClaim := { program := "ytebjhdipdffkgaa", sum := "535c17ef123b4909dcb4dc0a06b7b0f6b578fabd107a5349b2a5a026f883f07c", func := "loop.example/questiongames/laws.FnMostWords", spec := "fnMostWords", apart := false, narrowed := true }
def FnMostWordsUptoSaid : Prop := fnMostWordsUptoRow.holds Try.pinned (OpenSpec.upto fnMostWordsSpec)

/-- 'laws.FnExactFarOf', WHERE WHAT IT READS IS OF BULK AT MOST 1048576: true; the input reads as it did. -/
def fnExactFarOfUptoRow : OpenClaim := { program := "ytebjhdipdffkgaa", sum := "535c17ef123b4909dcb4dc0a06b7b0f6b578fabd107a5349b2a5a026f883f07c", func := "loop.example/questiongames/laws.FnExactFarOf", spec := "fnExactFarOf", apart := false, narrowed := true }
def FnExactFarOfUptoSaid : Prop := fnExactFarOfUptoRow.holds Try.pinned (OpenSpec.upto fnExactFarOfSpec)

/-- 'laws.FnFarOf', WHERE WHAT IT READS IS OF BULK AT MOST 1048576: true; the input reads as it did. -/
def fnFarOfUptoRow : OpenClaim := { program := "ytebjhdipdffkgaa", sum := "535c17ef123b4909dcb4dc0a06b7b0f6b578fabd107a5349b2a5a026f883f07c", func := "loop.example/questiongames/laws.FnFarOf", spec := "fnFarOf", apart := false, narrowed := true }
def FnFarOfUptoSaid : Prop := fnFarOfUptoRow.holds Try.pinned (OpenSpec.upto fnFarOfSpec)

/-- 'laws.FnExactWordsPicked', WHERE WHAT IT READS IS OF BULK AT MOST 1048576: true; the input reads as it did. -/
def fnExactWordsPickedUptoRow : OpenClaim := { program := "ytebjhdipdffkgaa", sum := "535c17ef123b4909dcb4dc0a06b7b0f6b578fabd107a5349b2a5a026f883f07c", func := "loop.example/questiongames/laws.FnExactWordsPicked", spec := "fnExactWordsPicked", apart := false, narrowed := true }
def FnExactWordsPickedUptoSaid : Prop := fnExactWordsPickedUptoRow.holds Try.pinned (OpenSpec.upto fnExactWordsPickedSpec)

/-- 'laws.FnNearestOf', WHERE WHAT IT READS IS OF BULK AT MOST 1048576: true; the input reads as it did. -/
def fnNearestOfUptoRow : OpenClaim := { program := "ytebjhdipdffkgaa", sum := "535c17ef123b4909dcb4dc0a06b7b0f6b578fabd107a5349b2a5a026f883f07c", func := "loop.example/questiongames/laws.FnNearestOf", spec := "fnNearestOf", unfollowed := true, recurses := true, apart := false, narrowed := true }
def FnNearestOfUptoSaid : Prop := fnNearestOfUptoRow.holds Try.pinned (OpenSpec.upto fnNearestOfSpec)

/-- 'laws.FnSurePast', WHERE WHAT IT READS IS OF BULK AT MOST 1048576: true; the input reads as it did. -/
def fnSurePastUptoRow : OpenClaim := { program := "ytebjhdipdffkgaa", sum := "535c17ef123b4909dcb4dc0a06b7b0f6b578fabd107a5349b2a5a026f883f07c", func := "loop.example/questiongames/laws.FnSurePast", spec := "fnSurePast", unfollowed := true, recurses := true, apart := false, narrowed := true }
def FnSurePastUptoSaid : Prop := fnSurePastUptoRow.holds Try.pinned (OpenSpec.upto fnSurePastSpec)

/-- 'laws.FnExactWordsOk', WHERE WHAT IT READS IS OF BULK AT MOST 1048576: true; the input reads as it did. -/
def fnExactWordsOkUptoRow : OpenClaim := { program := "ytebjhdipdffkgaa", sum := "535c17ef123b4909dcb4dc0a06b7b0f6b578fabd107a5349b2a5a026f883f07c", func := "loop.example/questiongames/laws.FnExactWordsOk", spec := "fnExactWordsOk", unfollowed := true, recurses := true, apart := false, narrowed := true }
def FnExactWordsOkUptoSaid : Prop := fnExactWordsOkUptoRow.holds Try.pinned (OpenSpec.upto fnExactWordsOkSpec)

/-- 'laws.FnWordsOk', WHERE WHAT IT READS IS OF BULK AT MOST 1048576: true; the input reads as it did. -/
def fnWordsOkUptoRow : OpenClaim := { program := "ytebjhdipdffkgaa", sum := "535c17ef123b4909dcb4dc0a06b7b0f6b578fabd107a5349b2a5a026f883f07c", func := "loop.example/questiongames/laws.FnWordsOk", spec := "fnWordsOk", unfollowed := true, recurses := true, apart := false, narrowed := true }
def FnWordsOkUptoSaid : Prop := fnWordsOkUptoRow.holds Try.pinned (OpenSpec.upto fnWordsOkSpec)

/-- 'laws.FnExactLeastFar', WHERE WHAT IT READS IS OF BULK AT MOST 1048576: true; the input reads as it did. -/
def fnExactLeastFarUptoRow : OpenClaim := { program := "ytebjhdipdffkgaa", sum := "535c17ef123b4909dcb4dc0a06b7b0f6b578fabd107a5349b2a5a026f883f07c", func := "loop.example/questiongames/laws.FnExactLeastFar", spec := "fnExactLeastFar", unfollowed := true, recurses := true, apart := false, narrowed := true }
def FnExactLeastFarUptoSaid : Prop := fnExactLeastFarUptoRow.holds Try.pinned (OpenSpec.upto fnExactLeastFarSpec)

/-- 'laws.FnLeastFar', WHERE WHAT IT READS IS OF BULK AT MOST 1048576: true; the input reads as it did. -/
def fnLeastFarUptoRow : OpenClaim := { program := "ytebjhdipdffkgaa", sum := "535c17ef123b4909dcb4dc0a06b7b0f6b578fabd107a5349b2a5a026f883f07c", func := "loop.example/questiongames/laws.FnLeastFar", spec := "fnLeastFar", unfollowed := true, recurses := true, apart := false, narrowed := true }
def FnLeastFarUptoSaid : Prop := fnLeastFarUptoRow.holds Try.pinned (OpenSpec.upto fnLeastFarSpec)

/-- 'laws.FnExactNearestOf', WHERE WHAT IT READS IS OF BULK AT MOST 1048576: true; the input reads as it did. -/
def fnExactNearestOfUptoRow : OpenClaim := { program := "ytebjhdipdffkgaa", sum := "535c17ef123b4909dcb4dc0a06b7b0f6b578fabd107a5349b2a5a026f883f07c", func := "loop.example/questiongames/laws.FnExactNearestOf", spec := "fnExactNearestOf", unfollowed := true, recurses := true, apart := false, narrowed := true }
def FnExactNearestOfUptoSaid : Prop := fnExactNearestOfUptoRow.holds Try.pinned (OpenSpec.upto fnExactNearestOfSpec)

/-- 'laws.FnExactSurePast', WHERE WHAT IT READS IS OF BULK AT MOST 1048576: true; the input reads as it did. -/
def fnExactSurePastUptoRow : OpenClaim := { program := "ytebjhdipdffkgaa", sum := "535c17ef123b4909dcb4dc0a06b7b0f6b578fabd107a5349b2a5a026f883f07c", func := "loop.example/questiongames/laws.FnExactSurePast", spec := "fnExactSurePast", unfollowed := true, recurses := true, apart := false, narrowed := true }
def FnExactSurePastUptoSaid : Prop := fnExactSurePastUptoRow.holds Try.pinned (OpenSpec.upto fnExactSurePastSpec)

/-- 'laws.FnWordsPicked', WHERE WHAT IT READS IS OF BULK AT MOST 1048576: true; the input reads as it did. -/
def fnWordsPickedUptoRow : OpenClaim := { program := "ytebjhdipdffkgaa", sum := "535c17ef123b4909dcb4dc0a06b7b0f6b578fabd107a5349b2a5a026f883f07c", func := "loop.example/questiongames/laws.FnWordsPicked", spec := "fnWordsPicked", unfollowed := true, recurses := true, apart := false, narrowed := true }
def FnWordsPickedUptoSaid : Prop := fnWordsPickedUptoRow.holds Try.pinned (OpenSpec.upto fnWordsPickedSpec)

end Rows
end Go.Proofs.Ytebjhdipdffkgaa
