/-
  DERIVED. GIVEN WITH THE SEED: THE CARDS: each row of YtebjhdipdffkgaaDoorRows.lean that lists a variable, with what it lists TIED to the program's text (the seventh form; the later family's looks); each row that meets fmt, with fmt's text TOLD by the authors' own Lean function (tested against real Go, not proved from fmt's source: count such statements apart). THE CARD IS WHAT COUNTS. Prove the row's statement (the work); the ties are given (YtebjhdipdffkgaaDoorTie.lean); close each card by the builder's one call (the guide's Derived/Test/ToyasCard.lean, 'card_holds'). Laid BY PROGRAM, IN A SANDBOX (cutbox-door.mjs). By AI agents, Wed Nov 11 2026. No macro, syntax, notation, axiom, sorry.
-/
import Derived.Test.YtebjhdipdffkgaaDoorRows
import GoSem.ClaimSeven
namespace Go.Proofs.YtebjhdipdffkgaaDoor
namespace Rows

/-- THE TIED CARD OF 'laws.FnExactSixteenWords'. -/
def fnExactSixteenWordsCard : Claim7 := { stood := { row := fnExactSixteenWordsRow, standIns := [], harness := (true, "6bbf6519d9a6cc08e864edddd684f9de37120c237476d7aa6b5ea16195d1f355"), looks := false }, kinds := [], alts := [], laidByText := true, laidKinds := [.data], laidTests := true, laidLooks := .later }
def FnExactSixteenWordsCardSaid : Prop := Claim7.holds Tryd.pinned (.plain (OpenSpec.ofChange fnExactSixteenWordsSpec)) fnExactSixteenWordsCard

/-- THE TIED CARD OF 'laws.FnSixteenWords'. -/
def fnSixteenWordsCard : Claim7 := { stood := { row := fnSixteenWordsRow, standIns := [], harness := (true, "6bbf6519d9a6cc08e864edddd684f9de37120c237476d7aa6b5ea16195d1f355"), looks := false }, kinds := [], alts := [], laidByText := true, laidKinds := [.data], laidTests := true, laidLooks := .later }
def FnSixteenWordsCardSaid : Prop := Claim7.holds Tryd.pinned (.plain (OpenSpec.ofChange fnSixteenWordsSpec)) fnSixteenWordsCard

/-- THE TIED CARD OF 'laws.FnExactPerfectLost'. -/
def fnExactPerfectLostCard : Claim7 := { stood := { row := fnExactPerfectLostRow, standIns := [], harness := (true, "6bbf6519d9a6cc08e864edddd684f9de37120c237476d7aa6b5ea16195d1f355"), looks := false }, kinds := [], alts := [], laidByText := true, laidKinds := [.data], laidTests := true, laidLooks := .later }
def FnExactPerfectLostCardSaid : Prop := Claim7.holds Tryd.pinned (.plain (OpenSpec.ofChange fnExactPerfectLostSpec)) fnExactPerfectLostCard

/-- THE TIED CARD OF 'laws.FnPerfectLost'. -/
def fnPerfectLostCard : Claim7 := { stood := { row := fnPerfectLostRow, standIns := [], harness := (true, "6bbf6519d9a6cc08e864edddd684f9de37120c237476d7aa6b5ea16195d1f355"), looks := false }, kinds := [], alts := [], laidByText := true, laidKinds := [.data], laidTests := true, laidLooks := .later }
def FnPerfectLostCardSaid : Prop := Claim7.holds Tryd.pinned (.plain (OpenSpec.ofChange fnPerfectLostSpec)) fnPerfectLostCard

/-- THE TIED CARD OF 'laws.FnLeastCover'. -/
def fnLeastCoverCard : Claim7 := { stood := { row := fnLeastCoverRow, standIns := [], harness := (true, "6bbf6519d9a6cc08e864edddd684f9de37120c237476d7aa6b5ea16195d1f355"), looks := false }, kinds := [], alts := [], laidByText := true, laidKinds := [.data], laidTests := true, laidLooks := .later }
def FnLeastCoverCardSaid : Prop := Claim7.holds Tryd.pinned (.plain (OpenSpec.ofChange fnLeastCoverSpec)) fnLeastCoverCard

/-- THE SECOND FORM's CARD OF 'laws.FnExactSixteenWords'. -/
def fnExactSixteenWordsUptoCard : Claim7 := { stood := { row := fnExactSixteenWordsUptoRow, standIns := [], harness := (true, "6bbf6519d9a6cc08e864edddd684f9de37120c237476d7aa6b5ea16195d1f355"), looks := false }, kinds := [], alts := [], laidByText := true, laidKinds := [.data], laidTests := true, laidLooks := .later }
def FnExactSixteenWordsUptoCardSaid : Prop := Claim7.holds Tryd.pinned (.plain (OpenSpec.upto fnExactSixteenWordsSpec)) fnExactSixteenWordsUptoCard

/-- THE SECOND FORM's CARD OF 'laws.FnSixteenWords'. -/
def fnSixteenWordsUptoCard : Claim7 := { stood := { row := fnSixteenWordsUptoRow, standIns := [], harness := (true, "6bbf6519d9a6cc08e864edddd684f9de37120c237476d7aa6b5ea16195d1f355"), looks := false }, kinds := [], alts := [], laidByText := true, laidKinds := [.data], laidTests := true, laidLooks := .later }
def FnSixteenWordsUptoCardSaid : Prop := Claim7.holds Tryd.pinned (.plain (OpenSpec.upto fnSixteenWordsSpec)) fnSixteenWordsUptoCard

/-- THE SECOND FORM's CARD OF 'laws.FnExactPerfectLost'. -/
def fnExactPerfectLostUptoCard : Claim7 := { stood := { row := fnExactPerfectLostUptoRow, standIns := [], harness := (true, "6bbf6519d9a6cc08e864edddd684f9de37120c237476d7aa6b5ea16195d1f355"), looks := false }, kinds := [], alts := [], laidByText := true, laidKinds := [.data], laidTests := true, laidLooks := .later }
def FnExactPerfectLostUptoCardSaid : Prop := Claim7.holds Tryd.pinned (.plain (OpenSpec.upto fnExactPerfectLostSpec)) fnExactPerfectLostUptoCard

/-- THE SECOND FORM's CARD OF 'laws.FnPerfectLost'. -/
def fnPerfectLostUptoCard : Claim7 := { stood := { row := fnPerfectLostUptoRow, standIns := [], harness := (true, "6bbf6519d9a6cc08e864edddd684f9de37120c237476d7aa6b5ea16195d1f355"), looks := false }, kinds := [], alts := [], laidByText := true, laidKinds := [.data], laidTests := true, laidLooks := .later }
def FnPerfectLostUptoCardSaid : Prop := Claim7.holds Tryd.pinned (.plain (OpenSpec.upto fnPerfectLostSpec)) fnPerfectLostUptoCard

/-- THE SECOND FORM's CARD OF 'laws.FnLeastCover'. -/
def fnLeastCoverUptoCard : Claim7 := { stood := { row := fnLeastCoverUptoRow, standIns := [], harness := (true, "6bbf6519d9a6cc08e864edddd684f9de37120c237476d7aa6b5ea16195d1f355"), looks := false }, kinds := [], alts := [], laidByText := true, laidKinds := [.data], laidTests := true, laidLooks := .later }
def FnLeastCoverUptoCardSaid : Prop := Claim7.holds Tryd.pinned (.plain (OpenSpec.upto fnLeastCoverSpec)) fnLeastCoverUptoCard
end Rows
end Go.Proofs.YtebjhdipdffkgaaDoor
