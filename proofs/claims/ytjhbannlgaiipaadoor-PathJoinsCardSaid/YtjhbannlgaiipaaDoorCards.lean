/-
  DERIVED. GIVEN WITH THE SEED: THE CARDS: each row of YtjhbannlgaiipaaDoorRows.lean that lists a variable, with what it lists TIED to the program's text (the seventh form; the later family's looks); each row that meets fmt, with fmt's text TOLD by the authors' own Lean function (tested against real Go, not proved from fmt's source: count such statements apart). THE CARD IS WHAT COUNTS. Prove the row's statement (the work); the ties are given (YtjhbannlgaiipaaDoorTie.lean); close each card by the builder's one call (the guide's Derived/Test/ToyasCard.lean, 'card_holds'). Laid BY PROGRAM, IN A SANDBOX (cutbox-door.mjs). By AI agents, Wed Nov 11 2026. No macro, syntax, notation, axiom, sorry.
-/
import Derived.Test.YtjhbannlgaiipaaDoorRows
import GoSem.ClaimSeven
namespace Go.Proofs.YtjhbannlgaiipaaDoor
namespace Rows

/-- THE TIED CARD OF 'cartridgelaw5.PathTells'. -/
def pathTellsCard : Claim7 := { stood := { row := pathTellsRow, standIns := [], harness := (true, "3637031b6f62d4ac2ee809a392138468d1cd6e021a072a6d44c6461fd6b4ef0f"), looks := false }, kinds := [], alts := [], laidByText := true, laidKinds := [.data, .pinned], laidTests := true, laidLooks := .later }
def PathTellsCardSaid : Prop := Claim7.holds Tryd.pinned (.plain (OpenSpec.ofChange pathTellsSpec)) pathTellsCard

/-- THE TIED CARD OF 'cartridgelaw5.PathWrong'. -/
def pathWrongCard : Claim7 := { stood := { row := pathWrongRow, standIns := [], harness := (true, "3637031b6f62d4ac2ee809a392138468d1cd6e021a072a6d44c6461fd6b4ef0f"), looks := false }, kinds := [], alts := [], laidByText := true, laidKinds := [.data, .pinned], laidTests := true, laidLooks := .later }
def PathWrongCardSaid : Prop := Claim7.holds Tryd.pinned (.plain (OpenSpec.ofChange pathWrongSpec)) pathWrongCard

/-- THE TIED CARD OF 'cartridgelaw5.PathJoins'. -/
def pathJoinsCard : Claim7 := { stood := { row := pathJoinsRow, standIns := [], harness := (true, "3637031b6f62d4ac2ee809a392138468d1cd6e021a072a6d44c6461fd6b4ef0f"), looks := false }, kinds := [], alts := [], laidByText := true, laidKinds := [.data, .pinned], laidTests := true, laidLooks := .later }
def PathJoinsCardSaid : Prop := Claim7.holds Tryd.pinned (.plain (OpenSpec.ofChange pathJoinsSpec)) pathJoinsCard

/-- THE SECOND FORM's CARD OF 'cartridgelaw5.PathTells'. -/
def pathTellsUptoCard : Claim7 := { stood := { row := pathTellsUptoRow, standIns := [], harness := (true, "3637031b6f62d4ac2ee809a392138468d1cd6e021a072a6d44c6461fd6b4ef0f"), looks := false }, kinds := [], alts := [], laidByText := true, laidKinds := [.data, .pinned], laidTests := true, laidLooks := .later }
def PathTellsUptoCardSaid : Prop := Claim7.holds Tryd.pinned (.plain (OpenSpec.upto pathTellsSpec)) pathTellsUptoCard

/-- THE SECOND FORM's CARD OF 'cartridgelaw5.PathWrong'. -/
def pathWrongUptoCard : Claim7 := { stood := { row := pathWrongUptoRow, standIns := [], harness := (true, "3637031b6f62d4ac2ee809a392138468d1cd6e021a072a6d44c6461fd6b4ef0f"), looks := false }, kinds := [], alts := [], laidByText := true, laidKinds := [.data, .pinned], laidTests := true, laidLooks := .later }
def PathWrongUptoCardSaid : Prop := Claim7.holds Tryd.pinned (.plain (OpenSpec.upto pathWrongSpec)) pathWrongUptoCard

/-- THE SECOND FORM's CARD OF 'cartridgelaw5.PathJoins'. -/
def pathJoinsUptoCard : Claim7 := { stood := { row := pathJoinsUptoRow, standIns := [], harness := (true, "3637031b6f62d4ac2ee809a392138468d1cd6e021a072a6d44c6461fd6b4ef0f"), looks := false }, kinds := [], alts := [], laidByText := true, laidKinds := [.data, .pinned], laidTests := true, laidLooks := .later }
def PathJoinsUptoCardSaid : Prop := Claim7.holds Tryd.pinned (.plain (OpenSpec.upto pathJoinsSpec)) pathJoinsUptoCard
end Rows
end Go.Proofs.YtjhbannlgaiipaaDoor
