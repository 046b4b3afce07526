/-
  No cell of these rows narrows 'for every input' (looked for: loops, veiled, ifaces, maps, wideKeys, modest, calm, conditions, laid).
  DERIVED. THE GIVEN ROWS OF THIS SEAT. 3 by the template 'for every input the law returns true; each argument reads behind the call as it read before'; 0 by the template 'total and deterministic' (their statements: YthhhcfipmeganaaTotals.lean).
  GIVEN WITH THE SEED: the statements are not yours to turn. If you find one false, say at which input.
  Laid BY PROGRAM, IN A SANDBOX (cutbox-rows.mjs): the forced cells as the released guide's own fill.sh prints them over the translation a40ac96bc793a7d9… (all of the seat's roots in one cut). By AI agents, Wed Nov 11 2026. No macro, syntax, notation, axiom, sorry.
-/
import Derived.Test.YthhhcfipmeganaaChecked
import GoSem.Claim
import GoSem.ClaimJoined
import GoSem.ClaimMapViews
import Derived.JoinedTies
import Derived.KernelRfl
namespace Go.Proofs.Ythhhcfipmeganaa
/- THE CELL 'sum', in the pinned program and in every row, IS THE sha256 OF THE DUMP (.gsa) THAT YthhhcfipmeganaaProg.lean LOADS. Nothing in Lean hashes anything: it is a label: what it is worth is what the hold of that sum in a sandbox is worth. -/
noncomputable def Try.pinned : Pinned := { name := "ythhhcfipmeganaa", sum := "a40ac96bc793a7d9623f8a800fc48c14fb5397b8d139cd7c598e505425a7f565", checked := Try.checked }
namespace Rows
def none {H : Type} : Left H := { results := [], args := [] }

/-- 'jotterlaw25.RasterWays': WHATEVER THE INPUT: true; the input reads as it did. -/
def rasterWaysSpec : ChangeSpec := { name := "rasterWays", fn := fun _ => fun
  | [d1, d2, d3, d4] => { results := [.lit (.bool true)], args := [d1, d2, d3, d4] }
  | _ => none }
def rasterWaysRow : OpenClaim := { program := "ythhhcfipmeganaa", sum := "a40ac96bc793a7d9623f8a800fc48c14fb5397b8d139cd7c598e505425a7f565", func := "jotter/jotterlaw25.RasterWays", spec := "rasterWays", inPlace := ["math.archTrunc", "math.Float64bits", "math.Float64frombits", "math.archFloor"], unfollowed := true, recurses := true, apart := false }
def RasterWaysSaid : Prop := rasterWaysRow.holds Try.pinned (OpenSpec.ofChange rasterWaysSpec)

/-- ITS FALSE NEIGHBOUR: 'it returns false'. Refute it at one input. -/
def rasterWaysWrong : ChangeSpec := { name := "rasterWays", fn := fun _ => fun
  | [d1, d2, d3, d4] => { results := [.lit (.bool false)], args := [d1, d2, d3, d4] }
  | _ => none }
def RasterWaysWrongFalsely : Prop := rasterWaysRow.holds Try.pinned (OpenSpec.ofChange rasterWaysWrong)

/-- 'jotterlaw25.RasterWider': WHATEVER THE INPUT: true; the input reads as it did. -/
def rasterWiderSpec : ChangeSpec := { name := "rasterWider", fn := fun _ => fun
  | [d1, d2, d3] => { results := [.lit (.bool true)], args := [d1, d2, d3] }
  | _ => none }
def rasterWiderRow : OpenClaim := { program := "ythhhcfipmeganaa", sum := "a40ac96bc793a7d9623f8a800fc48c14fb5397b8d139cd7c598e505425a7f565", func := "jotter/jotterlaw25.RasterWider", spec := "rasterWider", inPlace := ["math.archTrunc", "math.Float64bits", "math.Float64frombits", "math.archFloor"], unfollowed := true, recurses := true, apart := false }
def RasterWiderSaid : Prop := rasterWiderRow.holds Try.pinned (OpenSpec.ofChange rasterWiderSpec)

/-- ITS FALSE NEIGHBOUR: 'it returns false'. Refute it at one input. -/
def rasterWiderWrong : ChangeSpec := { name := "rasterWider", fn := fun _ => fun
  | [d1, d2, d3] => { results := [.lit (.bool false)], args := [d1, d2, d3] }
  | _ => none }
def RasterWiderWrongFalsely : Prop := rasterWiderRow.holds Try.pinned (OpenSpec.ofChange rasterWiderWrong)

/-- 'jotterlaw25.RasterMoves': WHATEVER THE INPUT: true; the input reads as it did. -/
def rasterMovesSpec : ChangeSpec := { name := "rasterMoves", fn := fun _ => fun
  | [d1, d2, d3] => { results := [.lit (.bool true)], args := [d1, d2, d3] }
  | _ => none }
def rasterMovesRow : OpenClaim := { program := "ythhhcfipmeganaa", sum := "a40ac96bc793a7d9623f8a800fc48c14fb5397b8d139cd7c598e505425a7f565", func := "jotter/jotterlaw25.RasterMoves", spec := "rasterMoves", inPlace := ["math.archTrunc", "math.Float64bits", "math.Float64frombits", "math.archFloor"], unfollowed := true, recurses := true, apart := false }
def RasterMovesSaid : Prop := rasterMovesRow.holds Try.pinned (OpenSpec.ofChange rasterMovesSpec)

/-- ITS FALSE NEIGHBOUR: 'it returns false'. Refute it at one input. -/
def rasterMovesWrong : ChangeSpec := { name := "rasterMoves", fn := fun _ => fun
  | [d1, d2, d3] => { results := [.lit (.bool false)], args := [d1, d2, d3] }
  | _ => none }
def RasterMovesWrongFalsely : Prop := rasterMovesRow.holds Try.pinned (OpenSpec.ofChange rasterMovesWrong)

/- THE SECOND FORM. 'bulk': how many values and letters a reading holds, each counted each time it is reached (what is shared counts as often as it is met; a slice's spare places count too). A statement '..UptoSaid' is the law's where the arguments, and the package variables that the reading takes, are together of bulk at most 1048576: NARROWER than '..Said'. Prove '..Said' where nothing that the law and all that it calls make is longer than what came in: it says more and counts as full. Else prove '..UptoSaid'. A law counts once. -/
mutual
def uptoBulk {H : Type} : DataW H → Nat
  | .lit (.string bytes) => bytes.length + 1
  | .lit _ => 1
  | .nil => 1
  | .ptr d => uptoBulk d + 1
  | .slice elems spare => uptoBulkAll elems + uptoBulkAll spare + 1
  | .agg parts => uptoBulkAll parts + 1
  | .iface _ d => uptoBulk d + 1
  | .map entries => uptoBulkEntries entries + 1
  | .held _ => 1
def uptoBulkAll {H : Type} : List (DataW H) → Nat
  | [] => 0
  | d :: r => uptoBulk d + uptoBulkAll r
def uptoBulkEntries {H : Type} : List (Lit × DataW H) → Nat
  | [] => 0
  | x :: r => uptoBulkEntry x + uptoBulkEntries r
def uptoBulkEntry {H : Type} : Lit × DataW H → Nat
  | (.string bytes, d) => bytes.length + uptoBulk d + 1
  | (_, d) => uptoBulk d + 1
 end
def uptoSmall : (H : Type) → List (DataW H) → Bool := fun _ ds => decide (uptoBulkAll ds ≤ 1048576)
def OpenSpec.upto (s : _root_.Go.ChangeSpec) : _root_.Go.OpenSpec := { _root_.Go.OpenSpec.ofChange s with cond := some uptoSmall }

/-- 'jotterlaw25.RasterWays', WHERE WHAT IT READS IS OF BULK AT MOST 1048576: true; the input reads as it did. -/
def rasterWaysUptoRow : OpenClaim := { program := "ythhhcfipmeganaa", sum := "a40ac96bc793a7d9623f8a800fc48c14fb5397b8d139cd7c598e505425a7f565", func := "jotter/jotterlaw25.RasterWays", spec := "rasterWays", inPlace := ["math.archTrunc", "math.Float64bits", "math.Float64frombits", "math.archFloor"], unfollowed := true, recurses := true, apart := false, narrowed := true }
def RasterWaysUptoSaid : Prop := rasterWaysUptoRow.holds Try.pinned (OpenSpec.upto rasterWaysSpec)

/-- 'jotterlaw25.RasterWider', WHERE WHAT IT READS IS OF BULK AT MOST 1048576: true; the input reads as it did. -/
def rasterWiderUptoRow : OpenClaim := { program := "ythhhcfipmeganaa", sum := "a40ac96bc793a7d9623f8a800fc48c14fb5397b8d139cd7c598e505425a7f565", func := "jotter/jotterlaw25.RasterWider", spec := "rasterWider", inPlace := ["math.archTrunc", "math.Float64bits", "math.Float64frombits", "math.archFloor"], unfollowed := true, recurses := true, apart := false, narrowed := true }
def RasterWiderUptoSaid : Prop := rasterWiderUptoRow.holds Try.pinned (OpenSpec.upto rasterWiderSpec)

/-- 'jotterlaw25.RasterMoves', WHERE WHAT IT READS IS OF BULK AT MOST 1048576: true; the input reads as it did. -/
def rasterMovesUptoRow : OpenClaim := { program := "ythhhcfipmeganaa", sum := "a40ac96bc793a7d9623f8a800fc48c14fb5397b8d139cd7c598e505425a7f565", func := "jotter/jotterlaw25.RasterMoves", spec := "rasterMoves", inPlace := ["math.archTrunc", "math.Float64bits", "math.Float64frombits", "math.archFloor"], unfollowed := true, recurses := true, apart := false, narrowed := true }
def RasterMovesUptoSaid : Prop := rasterMovesUptoRow.holds Try.pinned (OpenSpec.upto rasterMovesSpec)

end Rows
end Go.Proofs.Ythhhcfipmeganaa
