/-
  DERIVED. GIVEN WITH THE SEED: THE CARDS: each row of YthhhcfipmeganaaDoorRows.lean that lists a variable, with what it lists TIED to the program's text (the seventh form; the later family's looks); each row that meets fmt, with fmt's text TOLD by the authors' own Lean function (tested against real Go, not proved from fmt's source: count such statements apart). THE CARD IS WHAT COUNTS. Prove the row's statement (the work); the ties are given (YthhhcfipmeganaaDoorTie.lean); close each card by the builder's one call (the guide's Derived/Test/ToyasCard.lean, 'card_holds'). Laid BY PROGRAM, IN A SANDBOX (cutbox-door.mjs). By AI agents, Wed Nov 11 2026. No macro, syntax, notation, axiom, sorry.
-/
import Derived.Test.YthhhcfipmeganaaDoorRows
import GoSem.ClaimSeven
namespace Go.Proofs.YthhhcfipmeganaaDoor
namespace Rows

/-- THE TIED CARD OF 'jotterlaw25.RasterTurns'. -/
def rasterTurnsCard : Claim7 := { stood := { row := rasterTurnsRow, standIns := [], harness := (true, "1c02cb148ac13831514b06a1da17823671eaf72f6a08d49fcba52658ecabc33b"), looks := false }, kinds := [], alts := [], laidByText := true, laidKinds := [.data], laidTests := true, laidLooks := .later }
def RasterTurnsCardSaid : Prop := Claim7.holds Tryd.pinned (.plain (OpenSpec.ofChange rasterTurnsSpec)) rasterTurnsCard

/-- THE TIED CARD OF 'jotterlaw25.RasterQuarters'. -/
def rasterQuartersCard : Claim7 := { stood := { row := rasterQuartersRow, standIns := [], harness := (true, "1c02cb148ac13831514b06a1da17823671eaf72f6a08d49fcba52658ecabc33b"), looks := false }, kinds := [], alts := [], laidByText := true, laidKinds := [.data], laidTests := true, laidLooks := .later }
def RasterQuartersCardSaid : Prop := Claim7.holds Tryd.pinned (.plain (OpenSpec.ofChange rasterQuartersSpec)) rasterQuartersCard

/-- THE SECOND FORM's CARD OF 'jotterlaw25.RasterTurns'. -/
def rasterTurnsUptoCard : Claim7 := { stood := { row := rasterTurnsUptoRow, standIns := [], harness := (true, "1c02cb148ac13831514b06a1da17823671eaf72f6a08d49fcba52658ecabc33b"), looks := false }, kinds := [], alts := [], laidByText := true, laidKinds := [.data], laidTests := true, laidLooks := .later }
def RasterTurnsUptoCardSaid : Prop := Claim7.holds Tryd.pinned (.plain (OpenSpec.upto rasterTurnsSpec)) rasterTurnsUptoCard

/-- THE SECOND FORM's CARD OF 'jotterlaw25.RasterQuarters'. -/
def rasterQuartersUptoCard : Claim7 := { stood := { row := rasterQuartersUptoRow, standIns := [], harness := (true, "1c02cb148ac13831514b06a1da17823671eaf72f6a08d49fcba52658ecabc33b"), looks := false }, kinds := [], alts := [], laidByText := true, laidKinds := [.data], laidTests := true, laidLooks := .later }
def RasterQuartersUptoCardSaid : Prop := Claim7.holds Tryd.pinned (.plain (OpenSpec.upto rasterQuartersSpec)) rasterQuartersUptoCard
end Rows
end Go.Proofs.YthhhcfipmeganaaDoor
