/-
  No cell of these rows narrows 'for every input' (looked for: loops, veiled, ifaces, maps, wideKeys, modest, calm, conditions, laid).
  DERIVED. THE GIVEN ROWS OF THIS SEAT. 14 by the template 'for every input the law returns true; each argument reads behind the call as it read before'; 0 by the template 'total and deterministic' (their statements: YtacnngbjcchamaaTotals.lean).
  GIVEN WITH THE SEED: the statements are not yours to turn. If you find one false, say at which input.
  Laid BY PROGRAM, IN A SANDBOX (cutbox-rows.mjs): the forced cells as the released guide's own fill.sh prints them over the translation 8d223e7beaa57bed… (all of the seat's roots in one cut). By AI agents, Wed Nov 11 2026. No macro, syntax, notation, axiom, sorry.
-/
import Derived.Test.YtacnngbjcchamaaChecked
import GoSem.Claim
import GoSem.ClaimJoined
import GoSem.ClaimMapViews
import Derived.JoinedTies
import Derived.KernelRfl
namespace Go.Proofs.Ytacnngbjcchamaa
/- THE CELL 'sum', in the pinned program and in every row, IS THE sha256 OF THE DUMP (.gsa) THAT YtacnngbjcchamaaProg.lean LOADS. Nothing in Lean hashes anything: it is a label: what it is worth is what the hold of that sum in a sandbox is worth. -/
noncomputable def Try.pinned : Pinned := { name := "ytacnngbjcchamaa", sum := "8d223e7beaa57bed973992118af81e3e95736e5507ae14836687c8a59b40c993", checked := Try.checked }
namespace Rows
def none {H : Type} : Left H := { results := [], args := [] }

/-- 'laws.FnExactHatsOk': WHATEVER THE INPUT: true; the input reads as it did. -/
def fnExactHatsOkSpec : ChangeSpec := { name := "fnExactHatsOk", fn := fun _ => fun
  | [d1, d2] => { results := [.lit (.bool true)], args := [d1, d2] }
  | _ => none }
def fnExactHatsOkRow : OpenClaim := { program := "ytacnngbjcchamaa", sum := "8d223e7beaa57bed973992118af81e3e95736e5507ae14836687c8a59b40c993", func := "loop.example/questiongames/laws.FnExactHatsOk", spec := "fnExactHatsOk", unfollowed := true, recurses := true, apart := false }
def FnExactHatsOkSaid : Prop := fnExactHatsOkRow.holds Try.pinned (OpenSpec.ofChange fnExactHatsOkSpec)

/-- ITS FALSE NEIGHBOUR: 'it returns false'. Refute it at one input. -/
def fnExactHatsOkWrong : ChangeSpec := { name := "fnExactHatsOk", fn := fun _ => fun
  | [d1, d2] => { results := [.lit (.bool false)], args := [d1, d2] }
  | _ => none }
def FnExactHatsOkWrongFalsely : Prop := fnExactHatsOkRow.holds Try.pinned (OpenSpec.ofChange fnExactHatsOkWrong)

/-- 'laws.FnHatsOk': WHATEVER THE INPUT: true; the input reads as it did. -/
def fnHatsOkSpec : ChangeSpec := { name := "fnHatsOk", fn := fun _ => fun
  | [d] => { results := [.lit (.bool true)], args := [d] }
  | _ => none }
def fnHatsOkRow : OpenClaim := { program := "ytacnngbjcchamaa", sum := "8d223e7beaa57bed973992118af81e3e95736e5507ae14836687c8a59b40c993", func := "loop.example/questiongames/laws.FnHatsOk", spec := "fnHatsOk", unfollowed := true, recurses := true, apart := false }
def FnHatsOkSaid : Prop := fnHatsOkRow.holds Try.pinned (OpenSpec.ofChange fnHatsOkSpec)

/-- ITS FALSE NEIGHBOUR: 'it returns false'. Refute it at one input. -/
def fnHatsOkWrong : ChangeSpec := { name := "fnHatsOk", fn := fun _ => fun
  | [d] => { results := [.lit (.bool false)], args := [d] }
  | _ => none }
def FnHatsOkWrongFalsely : Prop := fnHatsOkRow.holds Try.pinned (OpenSpec.ofChange fnHatsOkWrong)

/-- 'laws.FnExactGuessedHats': WHATEVER THE INPUT: true; the input reads as it did. -/
def fnExactGuessedHatsSpec : ChangeSpec := { name := "fnExactGuessedHats", fn := fun _ => fun
  | [d1, d2] => { results := [.lit (.bool true)], args := [d1, d2] }
  | _ => none }
def fnExactGuessedHatsRow : OpenClaim := { program := "ytacnngbjcchamaa", sum := "8d223e7beaa57bed973992118af81e3e95736e5507ae14836687c8a59b40c993", func := "loop.example/questiongames/laws.FnExactGuessedHats", spec := "fnExactGuessedHats", unfollowed := true, recurses := true, apart := false }
def FnExactGuessedHatsSaid : Prop := fnExactGuessedHatsRow.holds Try.pinned (OpenSpec.ofChange fnExactGuessedHatsSpec)

/-- ITS FALSE NEIGHBOUR: 'it returns false'. Refute it at one input. -/
def fnExactGuessedHatsWrong : ChangeSpec := { name := "fnExactGuessedHats", fn := fun _ => fun
  | [d1, d2] => { results := [.lit (.bool false)], args := [d1, d2] }
  | _ => none }
def FnExactGuessedHatsWrongFalsely : Prop := fnExactGuessedHatsRow.holds Try.pinned (OpenSpec.ofChange fnExactGuessedHatsWrong)

/-- 'laws.FnGuessedHats': WHATEVER THE INPUT: true; the input reads as it did. -/
def fnGuessedHatsSpec : ChangeSpec := { name := "fnGuessedHats", fn := fun _ => fun
  | [d] => { results := [.lit (.bool true)], args := [d] }
  | _ => none }
def fnGuessedHatsRow : OpenClaim := { program := "ytacnngbjcchamaa", sum := "8d223e7beaa57bed973992118af81e3e95736e5507ae14836687c8a59b40c993", func := "loop.example/questiongames/laws.FnGuessedHats", spec := "fnGuessedHats", unfollowed := true, recurses := true, apart := false }
def FnGuessedHatsSaid : Prop := fnGuessedHatsRow.holds Try.pinned (OpenSpec.ofChange fnGuessedHatsSpec)

/-- ITS FALSE NEIGHBOUR: 'it returns false'. Refute it at one input. -/
def fnGuessedHatsWrong : ChangeSpec := { name := "fnGuessedHats", fn := fun _ => fun
  | [d] => { results := [.lit (.bool false)], args := [d] }
  | _ => none }
def FnGuessedHatsWrongFalsely : Prop := fnGuessedHatsRow.holds Try.pinned (OpenSpec.ofChange fnGuessedHatsWrong)

/-- 'laws.FnExactSaidInRow': WHATEVER THE INPUT: true; the input reads as it did. -/
def fnExactSaidInRowSpec : ChangeSpec := { name := "fnExactSaidInRow", fn := fun _ => fun
  | [d1, d2] => { results := [.lit (.bool true)], args := [d1, d2] }
  | _ => none }
def fnExactSaidInRowRow : OpenClaim := { program := "ytacnngbjcchamaa", sum := "8d223e7beaa57bed973992118af81e3e95736e5507ae14836687c8a59b40c993", func := "loop.example/questiongames/laws.FnExactSaidInRow", spec := "fnExactSaidInRow", unfollowed := true, recurses := true, apart := false }
def FnExactSaidInRowSaid : Prop := fnExactSaidInRowRow.holds Try.pinned (OpenSpec.ofChange fnExactSaidInRowSpec)

/-- ITS FALSE NEIGHBOUR: 'it returns false'. Refute it at one input. -/
def fnExactSaidInRowWrong : ChangeSpec := { name := "fnExactSaidInRow", fn := fun _ => fun
  | [d1, d2] => { results := [.lit (.bool false)], args := [d1, d2] }
  | _ => none }
def FnExactSaidInRowWrongFalsely : Prop := fnExactSaidInRowRow.holds Try.pinned (OpenSpec.ofChange fnExactSaidInRowWrong)

/-- 'laws.FnSaidInRow': WHATEVER THE INPUT: true; the input reads as it did. -/
def fnSaidInRowSpec : ChangeSpec := { name := "fnSaidInRow", fn := fun _ => fun
  | [d] => { results := [.lit (.bool true)], args := [d] }
  | _ => none }
def fnSaidInRowRow : OpenClaim := { program := "ytacnngbjcchamaa", sum := "8d223e7beaa57bed973992118af81e3e95736e5507ae14836687c8a59b40c993", func := "loop.example/questiongames/laws.FnSaidInRow", spec := "fnSaidInRow", unfollowed := true, recurses := true, apart := false }
def FnSaidInRowSaid : Prop := fnSaidInRowRow.holds Try.pinned (OpenSpec.ofChange fnSaidInRowSpec)

/-- ITS FALSE NEIGHBOUR: 'it returns false'. Refute it at one input. -/
def fnSaidInRowWrong : ChangeSpec := { name := "fnSaidInRow", fn := fun _ => fun
  | [d] => { results := [.lit (.bool false)], args := [d] }
  | _ => none }
def FnSaidInRowWrongFalsely : Prop := fnSaidInRowRow.holds Try.pinned (OpenSpec.ofChange fnSaidInRowWrong)

/-- 'laws.FnExactRightOf': WHATEVER THE INPUT: true; the input reads as it did. -/
def fnExactRightOfSpec : ChangeSpec := { name := "fnExactRightOf", fn := fun _ => fun
  | [d1, d2] => { results := [.lit (.bool true)], args := [d1, d2] }
  | _ => none }
def fnExactRightOfRow : OpenClaim := { program := "ytacnngbjcchamaa", sum := "8d223e7beaa57bed973992118af81e3e95736e5507ae14836687c8a59b40c993", func := "loop.example/questiongames/laws.FnExactRightOf", spec := "fnExactRightOf", unfollowed := true, recurses := true, apart := false }
def FnExactRightOfSaid : Prop := fnExactRightOfRow.holds Try.pinned (OpenSpec.ofChange fnExactRightOfSpec)

/-- ITS FALSE NEIGHBOUR: 'it returns false'. Refute it at one input. -/
def fnExactRightOfWrong : ChangeSpec := { name := "fnExactRightOf", fn := fun _ => fun
  | [d1, d2] => { results := [.lit (.bool false)], args := [d1, d2] }
  | _ => none }
def FnExactRightOfWrongFalsely : Prop := fnExactRightOfRow.holds Try.pinned (OpenSpec.ofChange fnExactRightOfWrong)

/-- 'laws.FnRightOf': WHATEVER THE INPUT: true; the input reads as it did. -/
def fnRightOfSpec : ChangeSpec := { name := "fnRightOf", fn := fun _ => fun
  | [d] => { results := [.lit (.bool true)], args := [d] }
  | _ => none }
def fnRightOfRow : OpenClaim := { program := "ytacnngbjcchamaa", sum := "8d223e7beaa57bed973992118af81e3e95736e5507ae14836687c8a59b40c993", func := "loop.example/questiongames/laws.FnRightOf", spec := "fnRightOf", unfollowed := true, recurses := true, apart := false }
def FnRightOfSaid : Prop := fnRightOfRow.holds Try.pinned (OpenSpec.ofChange fnRightOfSpec)

/-- ITS FALSE NEIGHBOUR: 'it returns false'. Refute it at one input. -/
def fnRightOfWrong : ChangeSpec := { name := "fnRightOf", fn := fun _ => fun
  | [d] => { results := [.lit (.bool false)], args := [d] }
  | _ => none }
def FnRightOfWrongFalsely : Prop := fnRightOfRow.holds Try.pinned (OpenSpec.ofChange fnRightOfWrong)

/-- 'laws.FnExactRightInRow': WHATEVER THE INPUT: true; the input reads as it did. -/
def fnExactRightInRowSpec : ChangeSpec := { name := "fnExactRightInRow", fn := fun _ => fun
  | [d1, d2] => { results := [.lit (.bool true)], args := [d1, d2] }
  | _ => none }
def fnExactRightInRowRow : OpenClaim := { program := "ytacnngbjcchamaa", sum := "8d223e7beaa57bed973992118af81e3e95736e5507ae14836687c8a59b40c993", func := "loop.example/questiongames/laws.FnExactRightInRow", spec := "fnExactRightInRow", unfollowed := true, recurses := true, apart := false }
def FnExactRightInRowSaid : Prop := fnExactRightInRowRow.holds Try.pinned (OpenSpec.ofChange fnExactRightInRowSpec)

/-- ITS FALSE NEIGHBOUR: 'it returns false'. Refute it at one input. -/
def fnExactRightInRowWrong : ChangeSpec := { name := "fnExactRightInRow", fn := fun _ => fun
  | [d1, d2] => { results := [.lit (.bool false)], args := [d1, d2] }
  | _ => none }
def FnExactRightInRowWrongFalsely : Prop := fnExactRightInRowRow.holds Try.pinned (OpenSpec.ofChange fnExactRightInRowWrong)

/-- 'laws.FnRightInRow': WHATEVER THE INPUT: true; the input reads as it did. -/
def fnRightInRowSpec : ChangeSpec := { name := "fnRightInRow", fn := fun _ => fun
  | [d] => { results := [.lit (.bool true)], args := [d] }
  | _ => none }
def fnRightInRowRow : OpenClaim := { program := "ytacnngbjcchamaa", sum := "8d223e7beaa57bed973992118af81e3e95736e5507ae14836687c8a59b40c993", func := "loop.example/questiongames/laws.FnRightInRow", spec := "fnRightInRow", unfollowed := true, recurses := true, apart := false }
def FnRightInRowSaid : Prop := fnRightInRowRow.holds Try.pinned (OpenSpec.ofChange fnRightInRowSpec)

/-- ITS FALSE NEIGHBOUR: 'it returns false'. Refute it at one input. -/
def fnRightInRowWrong : ChangeSpec := { name := "fnRightInRow", fn := fun _ => fun
  | [d] => { results := [.lit (.bool false)], args := [d] }
  | _ => none }
def FnRightInRowWrongFalsely : Prop := fnRightInRowRow.holds Try.pinned (OpenSpec.ofChange fnRightInRowWrong)

/-- 'laws.FnExactAllHats': WHATEVER THE INPUT: true; the input reads as it did. -/
def fnExactAllHatsSpec : ChangeSpec := { name := "fnExactAllHats", fn := fun _ => fun
  | [d1, d2] => { results := [.lit (.bool true)], args := [d1, d2] }
  | _ => none }
def fnExactAllHatsRow : OpenClaim := { program := "ytacnngbjcchamaa", sum := "8d223e7beaa57bed973992118af81e3e95736e5507ae14836687c8a59b40c993", func := "loop.example/questiongames/laws.FnExactAllHats", spec := "fnExactAllHats", unfollowed := true, recurses := true, apart := false }
def FnExactAllHatsSaid : Prop := fnExactAllHatsRow.holds Try.pinned (OpenSpec.ofChange fnExactAllHatsSpec)

/-- ITS FALSE NEIGHBOUR: 'it returns false'. Refute it at one input. -/
def fnExactAllHatsWrong : ChangeSpec := { name := "fnExactAllHats", fn := fun _ => fun
  | [d1, d2] => { results := [.lit (.bool false)], args := [d1, d2] }
  | _ => none }
def FnExactAllHatsWrongFalsely : Prop := fnExactAllHatsRow.holds Try.pinned (OpenSpec.ofChange fnExactAllHatsWrong)

/-- 'laws.FnAllHats': WHATEVER THE INPUT: true; the input reads as it did. -/
def fnAllHatsSpec : ChangeSpec := { name := "fnAllHats", fn := fun _ => fun
  | [d] => { results := [.lit (.bool true)], args := [d] }
  | _ => none }
def fnAllHatsRow : OpenClaim := { program := "ytacnngbjcchamaa", sum := "8d223e7beaa57bed973992118af81e3e95736e5507ae14836687c8a59b40c993", func := "loop.example/questiongames/laws.FnAllHats", spec := "fnAllHats", unfollowed := true, recurses := true, apart := false }
def FnAllHatsSaid : Prop := fnAllHatsRow.holds Try.pinned (OpenSpec.ofChange fnAllHatsSpec)

/-- ITS FALSE NEIGHBOUR: 'it returns false'. Refute it at one input. -/
def fnAllHatsWrong : ChangeSpec := { name := "fnAllHats", fn := fun _ => fun
  | [d] => { results := [.lit (.bool false)], args := [d] }
  | _ => none }
def FnAllHatsWrongFalsely : Prop := fnAllHatsRow.holds Try.pinned (OpenSpec.ofChange fnAllHatsWrong)

/-- 'laws.FnExactAlwaysRight': WHATEVER THE INPUT: true; the input reads as it did. -/
def fnExactAlwaysRightSpec : ChangeSpec := { name := "fnExactAlwaysRight", fn := fun _ => fun
  | [d1, d2] => { results := [.lit (.bool true)], args := [d1, d2] }
  | _ => none }
def fnExactAlwaysRightRow : OpenClaim := { program := "ytacnngbjcchamaa", sum := "8d223e7beaa57bed973992118af81e3e95736e5507ae14836687c8a59b40c993", func := "loop.example/questiongames/laws.FnExactAlwaysRight", spec := "fnExactAlwaysRight", unfollowed := true, recurses := true, apart := false }
def FnExactAlwaysRightSaid : Prop := fnExactAlwaysRightRow.holds Try.pinned (OpenSpec.ofChange fnExactAlwaysRightSpec)

/-- ITS FALSE NEIGHBOUR: 'it returns false'. Refute it at one input. -/
def fnExactAlwaysRightWrong : ChangeSpec := { name := "fnExactAlwaysRight", fn := fun _ => fun
  | [d1, d2] => { results := [.lit (.bool false)], args := [d1, d2] }
  | _ => none }
def FnExactAlwaysRightWrongFalsely : Prop := fnExactAlwaysRightRow.holds Try.pinned (OpenSpec.ofChange fnExactAlwaysRightWrong)

/-- 'laws.FnAlwaysRight': WHATEVER THE INPUT: true; the input reads as it did. -/
def fnAlwaysRightSpec : ChangeSpec := { name := "fnAlwaysRight", fn := fun _ => fun
  | [d] => { results := [.lit (.bool true)], args := [d] }
  | _ => none }
def fnAlwaysRightRow : OpenClaim := { program := "ytacnngbjcchamaa", sum := "8d223e7beaa57bed973992118af81e3e95736e5507ae14836687c8a59b40c993", func := "loop.example/questiongames/laws.FnAlwaysRight", spec := "fnAlwaysRight", unfollowed := true, recurses := true, apart := false }
def FnAlwaysRightSaid : Prop := fnAlwaysRightRow.holds Try.pinned (OpenSpec.ofChange fnAlwaysRightSpec)

/-- ITS FALSE NEIGHBOUR: 'it returns false'. Refute it at one input. -/
def fnAlwaysRightWrong : ChangeSpec := { name := "fnAlwaysRight", fn := fun _ => fun
  | [d] => { results := [.lit (.bool false)], args := [d] }
  | _ => none }
def FnAlwaysRightWrongFalsely : Prop := fnAlwaysRightRow.holds Try.pinned (OpenSpec.ofChange fnAlwaysRightWrong)

/- THE SECOND FORM. 'bulk': how many values and letters a reading holds, each counted each time it is reached (what is shared counts as often as it is met; a slice's spare places count too). A statement '..UptoSaid' is the law's where the arguments, and the package variables that the reading takes, are together of bulk at most 1048576: NARROWER than '..Said'. Prove '..Said' where nothing that the law and all that it calls make is longer than what came in: it says more and counts as full. Else prove '..UptoSaid'. A law counts once. -/
mutual
def uptoBulk {H : Type} : DataW H → Nat
  | .lit (.string bytes) => bytes.length + 1
  | .lit _ => 1
  | .nil => 1
  | .ptr d => uptoBulk d + 1
  | .slice elems spare => uptoBulkAll elems + uptoBulkAll spare + 1
  | .agg parts => uptoBulkAll parts + 1
  | .iface _ d => uptoBulk d + 1
  | .map entries => uptoBulkEntries entries + 1
  | .held _ => 1
def uptoBulkAll {H : Type} : List (DataW H) → Nat
  | [] => 0
  | d :: r => uptoBulk d + uptoBulkAll r
def uptoBulkEntries {H : Type} : List (Lit × DataW H) → Nat
  | [] => 0
  | x :: r => uptoBulkEntry x + uptoBulkEntries r
def uptoBulkEntry {H : Type} : Lit × DataW H → Nat
  | (.string bytes, d) => bytes.length + uptoBulk d + 1
  | (_, d) => uptoBulk d + 1
 end
def uptoSmall : (H : Type) → List (DataW H) → Bool := fun _ ds => decide (uptoBulkAll ds ≤ 1048576)
def OpenSpec.upto (s : _root_.Go.ChangeSpec) : _root_.Go.OpenSpec := { _root_.Go.OpenSpec.ofChange s with cond := some uptoSmall }

/-- 'laws.FnExactHatsOk', WHERE WHAT IT READS IS OF BULK AT MOST 1048576: true; the input reads as it did. -/
def fnExactHatsOkUptoRow : OpenClaim := { program := "ytacnngbjcchamaa", sum := "8d223e7beaa57bed973992118af81e3e95736e5507ae14836687c8a59b40c993", func := "loop.example/questiongames/laws.FnExactHatsOk", spec := "fnExactHatsOk", unfollowed := true, recurses := true, apart := false, narrowed := true }
def FnExactHatsOkUptoSaid : Prop := fnExactHatsOkUptoRow.holds Try.pinned (OpenSpec.upto fnExactHatsOkSpec)

/-- 'laws.FnHatsOk', WHERE WHAT IT READS IS OF BULK AT MOST 1048576: true; the input reads as it did. -/
def fnHatsOkUptoRow : OpenClaim := { program := "ytacnngbjcchamaa", sum := "8d223e7beaa57bed973992118af81e3e95736e5507ae14836687c8a59b40c993", func := "loop.example/questiongames/laws.FnHatsOk", spec := "fnHatsOk", unfollowed := true, recurses := true, apart := false, narrowed := true }
def FnHatsOkUptoSaid : Prop := fnHatsOkUptoRow.holds Try.pinned (OpenSpec.upto fnHatsOkSpec)

/-- 'laws.FnExactGuessedHats', WHERE WHAT IT READS IS OF BULK AT MOST 1048576: true; the input reads as it did. -/
def fnExactGuessedHatsUptoRow : OpenClaim := { program := "ytacnngbjcchamaa", sum := "8d223e7beaa57bed973992118af81e3e95736e5507ae14836687c8a59b40c993", func := "loop.example/questiongames/laws.FnExactGuessedHats", spec := "fnExactGuessedHats", unfollowed := true, recurses := true, apart := false, narrowed := true }
def FnExactGuessedHatsUptoSaid : Prop := fnExactGuessedHatsUptoRow.holds Try.pinned (OpenSpec.upto fnExactGuessedHatsSpec)

/-- 'laws.FnGuessedHats', WHERE WHAT IT READS IS OF BULK AT MOST 1048576: true; the input reads as it did. -/
def fnGuessedHatsUptoRow : OpenClaim := { program := "ytacnngbjcchamaa", sum := "8d223e7beaa57bed973992118af81e3e95736e5507ae14836687c8a59b40c993", func := "loop.example/questiongames/laws.FnGuessedHats", spec := "fnGuessedHats", unfollowed := true, recurses := true, apart := false, narrowed := true }
def FnGuessedHatsUptoSaid : Prop := fnGuessedHatsUptoRow.holds Try.pinned (OpenSpec.upto fnGuessedHatsSpec)

/-- 'laws.FnExactSaidInRow', WHERE WHAT IT READS IS OF BULK AT MOST 1048576: true; the input reads as it did. -/
def fnExactSaidInRowUptoRow : OpenClaim := { program := "ytacnngbjcchamaa", sum := "8d223e7beaa57bed973992118af81e3e95736e5507ae14836687c8a59b40c993", func := "loop.example/questiongames/laws.FnExactSaidInRow", spec := "fnExactSaidInRow", unfollowed := true, recurses := true, apart := false, narrowed := true }
def FnExactSaidInRowUptoSaid : Prop := fnExactSaidInRowUptoRow.holds Try.pinned (OpenSpec.upto fnExactSaidInRowSpec)

/-- 'laws.FnSaidInRow', WHERE WHAT IT READS IS OF BULK AT MOST 1048576: true; the input reads as it did. -/
def fnSaidInRowUptoRow : OpenClaim := { program := "ytacnngbjcchamaa", sum := "8d223e7beaa57bed973992118af81e3e95736e5507ae14836687c8a59b40c993", func := "loop.example/questiongames/laws.FnSaidInRow", spec := "fnSaidInRow", unfollowed := true, recurses := true, apart := false, narrowed := true }
def FnSaidInRowUptoSaid : Prop := fnSaidInRowUptoRow.holds Try.pinned (OpenSpec.upto fnSaidInRowSpec)

/-- 'laws.FnExactRightOf', WHERE WHAT IT READS IS OF BULK AT MOST 1048576: true; the input reads as it did. -/
def fnExactRightOfUptoRow : OpenClaim := { program := "ytacnngbjcchamaa", sum := "8d223e7beaa57bed973992118af81e3e95736e5507ae14836687c8a59b40c993", func := "loop.example/questiongames/laws.FnExactRightOf", spec := "fnExactRightOf", unfollowed := true, recurses := true, apart := false, narrowed := true }
def FnExactRightOfUptoSaid : Prop := fnExactRightOfUptoRow.holds Try.pinned (OpenSpec.upto fnExactRightOfSpec)

/-- 'laws.FnRightOf', WHERE WHAT IT READS IS OF BULK AT MOST 1048576: true; the input reads as it did. -/
def fnRightOfUptoRow : OpenClaim := { program := "ytacnngbjcchamaa", sum := "8d223e7beaa57bed973992118af81e3e95736e5507ae14836687c8a59b40c993", func := "loop.example/questiongames/laws.FnRightOf", spec := "fnRightOf", unfollowed := true, recurses := true, apart := false, narrowed := true }
def FnRightOfUptoSaid : Prop := fnRightOfUptoRow.holds Try.pinned (OpenSpec.upto fnRightOfSpec)

/-- 'laws.FnExactRightInRow', WHERE WHAT IT READS IS OF BULK AT MOST 1048576: true; the input reads as it did. -/
def fnExactRightInRowUptoRow : OpenClaim := { program := "ytacnngbjcchamaa", sum := "8d223e7beaa57bed973992118af81e3e95736e5507ae14836687c8a59b40c993", func := "loop.example/questiongames/laws.FnExactRightInRow", spec := "fnExactRightInRow", unfollowed := true, recurses := true, apart := false, narrowed := true }
def FnExactRightInRowUptoSaid : Prop := fnExactRightInRowUptoRow.holds Try.pinned (OpenSpec.upto fnExactRightInRowSpec)

/-- 'laws.FnRightInRow', WHERE WHAT IT READS IS OF BULK AT MOST 1048576: true; the input reads as it did. -/
def fnRightInRowUptoRow : OpenClaim := { program := "ytacnngbjcchamaa", sum := "8d223e7beaa57bed973992118af81e3e95736e5507ae14836687c8a59b40c993", func := "loop.example/questiongames/laws.FnRightInRow", spec := "fnRightInRow", unfollowed := true, recurses := true, apart := false, narrowed := true }
def FnRightInRowUptoSaid : Prop := fnRightInRowUptoRow.holds Try.pinned (OpenSpec.upto fnRightInRowSpec)

/-- 'laws.FnExactAllHats', WHERE WHAT IT READS IS OF BULK AT MOST 1048576: true; the input reads as it did. -/
def fnExactAllHatsUptoRow : OpenClaim := { program := "ytacnngbjcchamaa", sum := "8d223e7beaa57bed973992118af81e3e95736e5507ae14836687c8a59b40c993", func := "loop.example/questiongames/laws.FnExactAllHats", spec := "fnExactAllHats", unfollowed := true, recurses := true, apart := false, narrowed := true }
def FnExactAllHatsUptoSaid : Prop := fnExactAllHatsUptoRow.holds Try.pinned (OpenSpec.upto fnExactAllHatsSpec)

/-- 'laws.FnAllHats', WHERE WHAT IT READS IS OF BULK AT MOST 1048576: true; the input reads as it did. -/
def fnAllHatsUptoRow : OpenClaim := { program := "ytacnngbjcchamaa", sum := "8d223e7beaa57bed973992118af81e3e95736e5507ae14836687c8a59b40c993", func := "loop.example/questiongames/laws.FnAllHats", spec := "fnAllHats", unfollowed := true, recurses := true, apart := false, narrowed := true }
def FnAllHatsUptoSaid : Prop := fnAllHatsUptoRow.holds Try.pinned (OpenSpec.upto fnAllHatsSpec)

/-- 'laws.FnExactAlwaysRight', WHERE WHAT IT READS IS OF BULK AT MOST 1048576: true; the input reads as it did. -/
def fnExactAlwaysRightUptoRow : OpenClaim := { program := "ytacnngbjcchamaa", sum := "8d223e7beaa57bed973992118af81e3e95736e5507ae14836687c8a59b40c993", func := "loop.example/questiongames/laws.FnExactAlwaysRight", spec := "fnExactAlwaysRight", unfollowed := true, recurses := true, apart := false, narrowed := true }
def FnExactAlwaysRightUptoSaid : Prop := fnExactAlwaysRightUptoRow.holds Try.pinned (OpenSpec.upto fnExactAlwaysRightSpec)

/-- 'laws.FnAlwaysRight', WHERE WHAT IT READS IS OF BULK AT MOST 1048576: true; the input reads as it did. -/
def fnAlwaysRightUptoRow : OpenClaim := { program := "ytacnngbjcchamaa", sum := "8d223e7beaa57bed973992118af81e3e95736e5507ae14836687c8a59b40c993", func := "loop.example/questiongames/laws.FnAlwaysRight", spec := "fnAlwaysRight", unfollowed := true, recurses := true, apart := false, narrowed := true }
def FnAlwaysRightUptoSaid : Prop := fnAlwaysRightUptoRow.holds Try.pinned (OpenSpec.upto fnAlwaysRightSpec)

end Rows
end Go.Proofs.Ytacnngbjcchamaa
