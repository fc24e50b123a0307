/-
  No cell of these rows narrows 'for every input' (looked for: loops, veiled, ifaces, maps, wideKeys, modest, calm, conditions, laid).
  DERIVED. THE GIVEN ROWS OF THIS SEAT. 11 by the template 'for every input the law returns true; each argument reads behind the call as it read before'; 0 by the template 'total and deterministic' (their statements: YtecgbiagpbeklaaTotals.lean).
  GIVEN WITH THE SEED: the statements are not yours to turn. If you find one false, say at which input.
  Laid BY PROGRAM, IN A SANDBOX (cutbox-rows.mjs): the forced cells as the released guide's own fill.sh prints them over the translation 9b76ce0d87559db3… (all of the seat's roots in one cut). By AI agents, Wed Nov 11 2026. No macro, syntax, notation, axiom, sorry.
-/
import Derived.Test.YtecgbiagpbeklaaChecked
import GoSem.Claim
import GoSem.ClaimJoined
import GoSem.ClaimMapViews
import Derived.JoinedTies
import Derived.KernelRfl
namespace Go.Proofs.Ytecgbiagpbeklaa
/- THE CELL 'sum', in the pinned program and in every row, IS THE sha256 OF THE DUMP (.gsa) THAT YtecgbiagpbeklaaProg.lean LOADS. Nothing in Lean hashes anything: it is a label: what it is worth is what the hold of that sum in a sandbox is worth. -/
noncomputable def Try.pinned : Pinned := { name := "ytecgbiagpbeklaa", sum := "9b76ce0d87559db3ead0ee6c3eac39a5cfe1b00081888ec199215ec5c1ad8b5c", checked := Try.checked }
namespace Rows
def none {H : Type} : Left H := { results := [], args := [] }

/-- 'laws.FnExactLostOk': WHATEVER THE INPUT: true; the input reads as it did. -/
def fnExactLostOkSpec : ChangeSpec := { name := "fnExactLostOk", fn := fun _ => fun
  | [d1, d2] => { results := [.lit (.bool true)], args := [d1, d2] }
  | _ => none }
def fnExactLostOkRow : OpenClaim := { program := "ytecgbiagpbeklaa", sum := "9b76ce0d87559db3ead0ee6c3eac39a5cfe1b00081888ec199215ec5c1ad8b5c", func := "loop.example/questiongames/laws.FnExactLostOk", spec := "fnExactLostOk", unfollowed := true, recurses := true, apart := false }
def FnExactLostOkSaid : Prop := fnExactLostOkRow.holds Try.pinned (OpenSpec.ofChange fnExactLostOkSpec)

/-- ITS FALSE NEIGHBOUR: 'it returns false'. Refute it at one input. -/
def fnExactLostOkWrong : ChangeSpec := { name := "fnExactLostOk", fn := fun _ => fun
  | [d1, d2] => { results := [.lit (.bool false)], args := [d1, d2] }
  | _ => none }
def FnExactLostOkWrongFalsely : Prop := fnExactLostOkRow.holds Try.pinned (OpenSpec.ofChange fnExactLostOkWrong)

/-- 'laws.FnLostOk': WHATEVER THE INPUT: true; the input reads as it did. -/
def fnLostOkSpec : ChangeSpec := { name := "fnLostOk", fn := fun _ => fun
  | [d] => { results := [.lit (.bool true)], args := [d] }
  | _ => none }
def fnLostOkRow : OpenClaim := { program := "ytecgbiagpbeklaa", sum := "9b76ce0d87559db3ead0ee6c3eac39a5cfe1b00081888ec199215ec5c1ad8b5c", func := "loop.example/questiongames/laws.FnLostOk", spec := "fnLostOk", unfollowed := true, recurses := true, apart := false }
def FnLostOkSaid : Prop := fnLostOkRow.holds Try.pinned (OpenSpec.ofChange fnLostOkSpec)

/-- ITS FALSE NEIGHBOUR: 'it returns false'. Refute it at one input. -/
def fnLostOkWrong : ChangeSpec := { name := "fnLostOk", fn := fun _ => fun
  | [d] => { results := [.lit (.bool false)], args := [d] }
  | _ => none }
def FnLostOkWrongFalsely : Prop := fnLostOkRow.holds Try.pinned (OpenSpec.ofChange fnLostOkWrong)

/-- 'laws.FnExactGuessOf': WHATEVER THE INPUT: true; the input reads as it did. -/
def fnExactGuessOfSpec : ChangeSpec := { name := "fnExactGuessOf", fn := fun _ => fun
  | [d1, d2, d3, d4] => { results := [.lit (.bool true)], args := [d1, d2, d3, d4] }
  | _ => none }
def fnExactGuessOfRow : OpenClaim := { program := "ytecgbiagpbeklaa", sum := "9b76ce0d87559db3ead0ee6c3eac39a5cfe1b00081888ec199215ec5c1ad8b5c", func := "loop.example/questiongames/laws.FnExactGuessOf", spec := "fnExactGuessOf", unfollowed := true, recurses := true, apart := false }
def FnExactGuessOfSaid : Prop := fnExactGuessOfRow.holds Try.pinned (OpenSpec.ofChange fnExactGuessOfSpec)

/-- ITS FALSE NEIGHBOUR: 'it returns false'. Refute it at one input. -/
def fnExactGuessOfWrong : ChangeSpec := { name := "fnExactGuessOf", fn := fun _ => fun
  | [d1, d2, d3, d4] => { results := [.lit (.bool false)], args := [d1, d2, d3, d4] }
  | _ => none }
def FnExactGuessOfWrongFalsely : Prop := fnExactGuessOfRow.holds Try.pinned (OpenSpec.ofChange fnExactGuessOfWrong)

/-- 'laws.FnGuessOf': WHATEVER THE INPUT: true; the input reads as it did. -/
def fnGuessOfSpec : ChangeSpec := { name := "fnGuessOf", fn := fun _ => fun
  | [d] => { results := [.lit (.bool true)], args := [d] }
  | _ => none }
def fnGuessOfRow : OpenClaim := { program := "ytecgbiagpbeklaa", sum := "9b76ce0d87559db3ead0ee6c3eac39a5cfe1b00081888ec199215ec5c1ad8b5c", func := "loop.example/questiongames/laws.FnGuessOf", spec := "fnGuessOf", unfollowed := true, recurses := true, apart := false }
def FnGuessOfSaid : Prop := fnGuessOfRow.holds Try.pinned (OpenSpec.ofChange fnGuessOfSpec)

/-- ITS FALSE NEIGHBOUR: 'it returns false'. Refute it at one input. -/
def fnGuessOfWrong : ChangeSpec := { name := "fnGuessOf", fn := fun _ => fun
  | [d] => { results := [.lit (.bool false)], args := [d] }
  | _ => none }
def FnGuessOfWrongFalsely : Prop := fnGuessOfRow.holds Try.pinned (OpenSpec.ofChange fnGuessOfWrong)

/-- 'laws.FnExactCoverOk': WHATEVER THE INPUT: true; the input reads as it did. -/
def fnExactCoverOkSpec : ChangeSpec := { name := "fnExactCoverOk", fn := fun _ => fun
  | [d1, d2] => { results := [.lit (.bool true)], args := [d1, d2] }
  | _ => none }
def fnExactCoverOkRow : OpenClaim := { program := "ytecgbiagpbeklaa", sum := "9b76ce0d87559db3ead0ee6c3eac39a5cfe1b00081888ec199215ec5c1ad8b5c", func := "loop.example/questiongames/laws.FnExactCoverOk", spec := "fnExactCoverOk", unfollowed := true, recurses := true, apart := false }
def FnExactCoverOkSaid : Prop := fnExactCoverOkRow.holds Try.pinned (OpenSpec.ofChange fnExactCoverOkSpec)

/-- ITS FALSE NEIGHBOUR: 'it returns false'. Refute it at one input. -/
def fnExactCoverOkWrong : ChangeSpec := { name := "fnExactCoverOk", fn := fun _ => fun
  | [d1, d2] => { results := [.lit (.bool false)], args := [d1, d2] }
  | _ => none }
def FnExactCoverOkWrongFalsely : Prop := fnExactCoverOkRow.holds Try.pinned (OpenSpec.ofChange fnExactCoverOkWrong)

/-- 'laws.FnCoverOk': WHATEVER THE INPUT: true; the input reads as it did. -/
def fnCoverOkSpec : ChangeSpec := { name := "fnCoverOk", fn := fun _ => fun
  | [d] => { results := [.lit (.bool true)], args := [d] }
  | _ => none }
def fnCoverOkRow : OpenClaim := { program := "ytecgbiagpbeklaa", sum := "9b76ce0d87559db3ead0ee6c3eac39a5cfe1b00081888ec199215ec5c1ad8b5c", func := "loop.example/questiongames/laws.FnCoverOk", spec := "fnCoverOk", unfollowed := true, recurses := true, apart := false }
def FnCoverOkSaid : Prop := fnCoverOkRow.holds Try.pinned (OpenSpec.ofChange fnCoverOkSpec)

/-- ITS FALSE NEIGHBOUR: 'it returns false'. Refute it at one input. -/
def fnCoverOkWrong : ChangeSpec := { name := "fnCoverOk", fn := fun _ => fun
  | [d] => { results := [.lit (.bool false)], args := [d] }
  | _ => none }
def FnCoverOkWrongFalsely : Prop := fnCoverOkRow.holds Try.pinned (OpenSpec.ofChange fnCoverOkWrong)

/-- 'laws.FnExactWinsWith': WHATEVER THE INPUT: true; the input reads as it did. -/
def fnExactWinsWithSpec : ChangeSpec := { name := "fnExactWinsWith", fn := fun _ => fun
  | [d1, d2, d3] => { results := [.lit (.bool true)], args := [d1, d2, d3] }
  | _ => none }
def fnExactWinsWithRow : OpenClaim := { program := "ytecgbiagpbeklaa", sum := "9b76ce0d87559db3ead0ee6c3eac39a5cfe1b00081888ec199215ec5c1ad8b5c", func := "loop.example/questiongames/laws.FnExactWinsWith", spec := "fnExactWinsWith", unfollowed := true, recurses := true, apart := false }
def FnExactWinsWithSaid : Prop := fnExactWinsWithRow.holds Try.pinned (OpenSpec.ofChange fnExactWinsWithSpec)

/-- ITS FALSE NEIGHBOUR: 'it returns false'. Refute it at one input. -/
def fnExactWinsWithWrong : ChangeSpec := { name := "fnExactWinsWith", fn := fun _ => fun
  | [d1, d2, d3] => { results := [.lit (.bool false)], args := [d1, d2, d3] }
  | _ => none }
def FnExactWinsWithWrongFalsely : Prop := fnExactWinsWithRow.holds Try.pinned (OpenSpec.ofChange fnExactWinsWithWrong)

/-- 'laws.FnWinsWith': WHATEVER THE INPUT: true; the input reads as it did. -/
def fnWinsWithSpec : ChangeSpec := { name := "fnWinsWith", fn := fun _ => fun
  | [d] => { results := [.lit (.bool true)], args := [d] }
  | _ => none }
def fnWinsWithRow : OpenClaim := { program := "ytecgbiagpbeklaa", sum := "9b76ce0d87559db3ead0ee6c3eac39a5cfe1b00081888ec199215ec5c1ad8b5c", func := "loop.example/questiongames/laws.FnWinsWith", spec := "fnWinsWith", unfollowed := true, recurses := true, apart := false }
def FnWinsWithSaid : Prop := fnWinsWithRow.holds Try.pinned (OpenSpec.ofChange fnWinsWithSpec)

/-- ITS FALSE NEIGHBOUR: 'it returns false'. Refute it at one input. -/
def fnWinsWithWrong : ChangeSpec := { name := "fnWinsWith", fn := fun _ => fun
  | [d] => { results := [.lit (.bool false)], args := [d] }
  | _ => none }
def FnWinsWithWrongFalsely : Prop := fnWinsWithRow.holds Try.pinned (OpenSpec.ofChange fnWinsWithWrong)

/-- 'laws.FnExactWinsOf': WHATEVER THE INPUT: true; the input reads as it did. -/
def fnExactWinsOfSpec : ChangeSpec := { name := "fnExactWinsOf", fn := fun _ => fun
  | [d1, d2] => { results := [.lit (.bool true)], args := [d1, d2] }
  | _ => none }
def fnExactWinsOfRow : OpenClaim := { program := "ytecgbiagpbeklaa", sum := "9b76ce0d87559db3ead0ee6c3eac39a5cfe1b00081888ec199215ec5c1ad8b5c", func := "loop.example/questiongames/laws.FnExactWinsOf", spec := "fnExactWinsOf", unfollowed := true, recurses := true, apart := false }
def FnExactWinsOfSaid : Prop := fnExactWinsOfRow.holds Try.pinned (OpenSpec.ofChange fnExactWinsOfSpec)

/-- ITS FALSE NEIGHBOUR: 'it returns false'. Refute it at one input. -/
def fnExactWinsOfWrong : ChangeSpec := { name := "fnExactWinsOf", fn := fun _ => fun
  | [d1, d2] => { results := [.lit (.bool false)], args := [d1, d2] }
  | _ => none }
def FnExactWinsOfWrongFalsely : Prop := fnExactWinsOfRow.holds Try.pinned (OpenSpec.ofChange fnExactWinsOfWrong)

/-- 'laws.FnWinsOf': WHATEVER THE INPUT: true; the input reads as it did. -/
def fnWinsOfSpec : ChangeSpec := { name := "fnWinsOf", fn := fun _ => fun
  | [d] => { results := [.lit (.bool true)], args := [d] }
  | _ => none }
def fnWinsOfRow : OpenClaim := { program := "ytecgbiagpbeklaa", sum := "9b76ce0d87559db3ead0ee6c3eac39a5cfe1b00081888ec199215ec5c1ad8b5c", func := "loop.example/questiongames/laws.FnWinsOf", spec := "fnWinsOf", unfollowed := true, recurses := true, apart := false }
def FnWinsOfSaid : Prop := fnWinsOfRow.holds Try.pinned (OpenSpec.ofChange fnWinsOfSpec)

/-- ITS FALSE NEIGHBOUR: 'it returns false'. Refute it at one input. -/
def fnWinsOfWrong : ChangeSpec := { name := "fnWinsOf", fn := fun _ => fun
  | [d] => { results := [.lit (.bool false)], args := [d] }
  | _ => none }
def FnWinsOfWrongFalsely : Prop := fnWinsOfRow.holds Try.pinned (OpenSpec.ofChange fnWinsOfWrong)

/-- 'laws.FnExactLeastCover': WHATEVER THE INPUT: true; the input reads as it did. -/
def fnExactLeastCoverSpec : ChangeSpec := { name := "fnExactLeastCover", fn := fun _ => fun
  | [d] => { results := [.lit (.bool true)], args := [d] }
  | _ => none }
def fnExactLeastCoverRow : OpenClaim := { program := "ytecgbiagpbeklaa", sum := "9b76ce0d87559db3ead0ee6c3eac39a5cfe1b00081888ec199215ec5c1ad8b5c", func := "loop.example/questiongames/laws.FnExactLeastCover", spec := "fnExactLeastCover", unfollowed := true, recurses := true, apart := false }
def FnExactLeastCoverSaid : Prop := fnExactLeastCoverRow.holds Try.pinned (OpenSpec.ofChange fnExactLeastCoverSpec)

/-- ITS FALSE NEIGHBOUR: 'it returns false'. Refute it at one input. -/
def fnExactLeastCoverWrong : ChangeSpec := { name := "fnExactLeastCover", fn := fun _ => fun
  | [d] => { results := [.lit (.bool false)], args := [d] }
  | _ => none }
def FnExactLeastCoverWrongFalsely : Prop := fnExactLeastCoverRow.holds Try.pinned (OpenSpec.ofChange fnExactLeastCoverWrong)

/- THE SECOND FORM. 'bulk': how many values and letters a reading holds, each counted each time it is reached (what is shared counts as often as it is met; a slice's spare places count too). A statement '..UptoSaid' is the law's where the arguments, and the package variables that the reading takes, are together of bulk at most 1048576: NARROWER than '..Said'. Prove '..Said' where nothing that the law and all that it calls make is longer than what came in: it says more and counts as full. Else prove '..UptoSaid'. A law counts once. -/
mutual
def uptoBulk {H : Type} : DataW H → Nat
  | .lit (.string bytes) => bytes.length + 1
  | .lit _ => 1
  | .nil => 1
  | .ptr d => uptoBulk d + 1
  | .slice elems spare => uptoBulkAll elems + uptoBulkAll spare + 1
  | .agg parts => uptoBulkAll parts + 1
  | .iface _ d => uptoBulk d + 1
  | .map entries => uptoBulkEntries entries + 1
  | .held _ => 1
def uptoBulkAll {H : Type} : List (DataW H) → Nat
  | [] => 0
  | d :: r => uptoBulk d + uptoBulkAll r
def uptoBulkEntries {H : Type} : List (Lit × DataW H) → Nat
  | [] => 0
  | x :: r => uptoBulkEntry x + uptoBulkEntries r
def uptoBulkEntry {H : Type} : Lit × DataW H → Nat
  | (.string bytes, d) => bytes.length + uptoBulk d + 1
  | (_, d) => uptoBulk d + 1
 end
def uptoSmall : (H : Type) → List (DataW H) → Bool := fun _ ds => decide (uptoBulkAll ds ≤ 1048576)
def OpenSpec.upto (s : _root_.Go.ChangeSpec) : _root_.Go.OpenSpec := { _root_.Go.OpenSpec.ofChange s with cond := some uptoSmall }

/-- 'laws.FnExactLostOk', WHERE WHAT IT READS IS OF BULK AT MOST 1048576: true; the input reads as it did. -/
def fnExactLostOkUptoRow : OpenClaim := { program := "ytecgbiagpbeklaa", sum := "9b76ce0d87559db3ead0ee6c3eac39a5cfe1b00081888ec199215ec5c1ad8b5c", func := "loop.example/questiongames/laws.FnExactLostOk", spec := "fnExactLostOk", unfollowed := true, recurses := true, apart := false, narrowed := true }
def FnExactLostOkUptoSaid : Prop := fnExactLostOkUptoRow.holds Try.pinned (OpenSpec.upto fnExactLostOkSpec)

/-- 'laws.FnLostOk', WHERE WHAT IT READS IS OF BULK AT MOST 1048576: true; the input reads as it did. -/
def fnLostOkUptoRow : OpenClaim := { program := "ytecgbiagpbeklaa", sum := "9b76ce0d87559db3ead0ee6c3eac39a5cfe1b00081888ec199215ec5c1ad8b5c", func := "loop.example/questiongames/laws.FnLostOk", spec := "fnLostOk", unfollowed := true, recurses := true, apart := false, narrowed := true }
def FnLostOkUptoSaid : Prop := fnLostOkUptoRow.holds Try.pinned (OpenSpec.upto fnLostOkSpec)

/-- 'laws.FnExactGuessOf', WHERE WHAT IT READS IS OF BULK AT MOST 1048576: true; the input reads as it did. -/
def fnExactGuessOfUptoRow : OpenClaim := { program := "ytecgbiagpbeklaa", sum := "9b76ce0d87559db3ead0ee6c3eac39a5cfe1b00081888ec199215ec5c1ad8b5c", func := "loop.example/questiongames/laws.FnExactGuessOf", spec := "fnExactGuessOf", unfollowed := true, recurses := true, apart := false, narrowed := true }
def FnExactGuessOfUptoSaid : Prop := fnExactGuessOfUptoRow.holds Try.pinned (OpenSpec.upto fnExactGuessOfSpec)

/-- 'laws.FnGuessOf', WHERE WHAT IT READS IS OF BULK AT MOST 1048576: true; the input reads as it did. -/
def fnGuessOfUptoRow : OpenClaim := { program := "ytecgbiagpbeklaa", sum := "9b76ce0d87559db3ead0ee6c3eac39a5cfe1b00081888ec199215ec5c1ad8b5c", func := "loop.example/questiongames/laws.FnGuessOf", spec := "fnGuessOf", unfollowed := true, recurses := true, apart := false, narrowed := true }
def FnGuessOfUptoSaid : Prop := fnGuessOfUptoRow.holds Try.pinned (OpenSpec.upto fnGuessOfSpec)

/-- 'laws.FnExactCoverOk', WHERE WHAT IT READS IS OF BULK AT MOST 1048576: true; the input reads as it did. -/
def fnExactCoverOkUptoRow : OpenClaim := { program := "ytecgbiagpbeklaa", sum := "9b76ce0d87559db3ead0ee6c3eac39a5cfe1b00081888ec199215ec5c1ad8b5c", func := "loop.example/questiongames/laws.FnExactCoverOk", spec := "fnExactCoverOk", unfollowed := true, recurses := true, apart := false, narrowed := true }
def FnExactCoverOkUptoSaid : Prop := fnExactCoverOkUptoRow.holds Try.pinned (OpenSpec.upto fnExactCoverOkSpec)

/-- 'laws.FnCoverOk', WHERE WHAT IT READS IS OF BULK AT MOST 1048576: true; the input reads as it did. -/
def fnCoverOkUptoRow : OpenClaim := { program := "ytecgbiagpbeklaa", sum := "9b76ce0d87559db3ead0ee6c3eac39a5cfe1b00081888ec199215ec5c1ad8b5c", func := "loop.example/questiongames/laws.FnCoverOk", spec := "fnCoverOk", unfollowed := true, recurses := true, apart := false, narrowed := true }
def FnCoverOkUptoSaid : Prop := fnCoverOkUptoRow.holds Try.pinned (OpenSpec.upto fnCoverOkSpec)

/-- 'laws.FnExactWinsWith', WHERE WHAT IT READS IS OF BULK AT MOST 1048576: true; the input reads as it did. -/
def fnExactWinsWithUptoRow : OpenClaim := { program := "ytecgbiagpbeklaa", sum := "9b76ce0d87559db3ead0ee6c3eac39a5cfe1b00081888ec199215ec5c1ad8b5c", func := "loop.example/questiongames/laws.FnExactWinsWith", spec := "fnExactWinsWith", unfollowed := true, recurses := true, apart := false, narrowed := true }
def FnExactWinsWithUptoSaid : Prop := fnExactWinsWithUptoRow.holds Try.pinned (OpenSpec.upto fnExactWinsWithSpec)

/-- 'laws.FnWinsWith', WHERE WHAT IT READS IS OF BULK AT MOST 1048576: true; the input reads as it did. -/
def fnWinsWithUptoRow : OpenClaim := { program := "ytecgbiagpbeklaa", sum := "9b76ce0d87559db3ead0ee6c3eac39a5cfe1b00081888ec199215ec5c1ad8b5c", func := "loop.example/questiongames/laws.FnWinsWith", spec := "fnWinsWith", unfollowed := true, recurses := true, apart := false, narrowed := true }
def FnWinsWithUptoSaid : Prop := fnWinsWithUptoRow.holds Try.pinned (OpenSpec.upto fnWinsWithSpec)

/-- 'laws.FnExactWinsOf', WHERE WHAT IT READS IS OF BULK AT MOST 1048576: true; the input reads as it did. -/
def fnExactWinsOfUptoRow : OpenClaim := { program := "ytecgbiagpbeklaa", sum := "9b76ce0d87559db3ead0ee6c3eac39a5cfe1b00081888ec199215ec5c1ad8b5c", func := "loop.example/questiongames/laws.FnExactWinsOf", spec := "fnExactWinsOf", unfollowed := true, recurses := true, apart := false, narrowed := true }
def FnExactWinsOfUptoSaid : Prop := fnExactWinsOfUptoRow.holds Try.pinned (OpenSpec.upto fnExactWinsOfSpec)

/-- 'laws.FnWinsOf', WHERE WHAT IT READS IS OF BULK AT MOST 1048576: true; the input reads as it did. -/
def fnWinsOfUptoRow : OpenClaim := { program := "ytecgbiagpbeklaa", sum := "9b76ce0d87559db3ead0ee6c3eac39a5cfe1b00081888ec199215ec5c1ad8b5c", func := "loop.example/questiongames/laws.FnWinsOf", spec := "fnWinsOf", unfollowed := true, recurses := true, apart := false, narrowed := true }
def FnWinsOfUptoSaid : Prop := fnWinsOfUptoRow.holds Try.pinned (OpenSpec.upto fnWinsOfSpec)

/-- 'laws.FnExactLeastCover', WHERE WHAT IT READS IS OF BULK AT MOST 1048576: true; the input reads as it did. -/
def fnExactLeastCoverUptoRow : OpenClaim := { program := "ytecgbiagpbeklaa", sum := "9b76ce0d87559db3ead0ee6c3eac39a5cfe1b00081888ec199215ec5c1ad8b5c", func := "loop.example/questiongames/laws.FnExactLeastCover", spec := "fnExactLeastCover", unfollowed := true, recurses := true, apart := false, narrowed := true }
def FnExactLeastCoverUptoSaid : Prop := fnExactLeastCoverUptoRow.holds Try.pinned (OpenSpec.upto fnExactLeastCoverSpec)

end Rows
end Go.Proofs.Ytecgbiagpbeklaa
