/-
  No cell of these rows narrows 'for every input' (looked for: loops, veiled, ifaces, maps, wideKeys, modest, calm, conditions, laid).
  DERIVED. THE GIVEN ROWS OF THIS SEAT. 6 by the template 'for every input the law returns true; each argument reads behind the call as it read before'; 0 by the template 'total and deterministic' (their statements: YtlffbdfkanibcaaTotals.lean).
  GIVEN WITH THE SEED: the statements are not yours to turn. If you find one false, say at which input.
  Laid BY PROGRAM, IN A SANDBOX (cutbox-rows.mjs): the forced cells as the released guide's own fill.sh prints them over the translation 58e0eeeebe527f0b… (all of the seat's roots in one cut). By AI agents, Wed Nov 11 2026. No macro, syntax, notation, axiom, sorry.
-/
import Derived.Test.YtlffbdfkanibcaaChecked
import GoSem.Claim
import GoSem.ClaimJoined
import GoSem.ClaimMapViews
import Derived.JoinedTies
import Derived.KernelRfl
namespace Go.Proofs.Ytlffbdfkanibcaa
/- THE CELL 'sum', in the pinned program and in every row, IS THE sha256 OF THE DUMP (.gsa) THAT YtlffbdfkanibcaaProg.lean LOADS. Nothing in Lean hashes anything: it is a label: what it is worth is what the hold of that sum in a sandbox is worth. -/
noncomputable def Try.pinned : Pinned := { name := "ytlffbdfkanibcaa", sum := "58e0eeeebe527f0b9e26dd4919523389b2df2fa4417c99a5701b3dabf0d4ca2d", checked := Try.checked }
namespace Rows
def none {H : Type} : Left H := { results := [], args := [] }

/-- 'jotterlaw1.PointQuarters': WHATEVER THE INPUT: true; the input reads as it did. -/
def pointQuartersSpec : ChangeSpec := { name := "pointQuarters", fn := fun _ => fun
  | [d1, d2, d3, d4] => { results := [.lit (.bool true)], args := [d1, d2, d3, d4] }
  | _ => none }
def pointQuartersRow : OpenClaim := { program := "ytlffbdfkanibcaa", sum := "58e0eeeebe527f0b9e26dd4919523389b2df2fa4417c99a5701b3dabf0d4ca2d", func := "jotter/jotterlaw1.PointQuarters", spec := "pointQuarters", inPlace := ["math.archTrunc", "math.Float64bits", "math.Float64frombits", "math.sqrt"], apart := false }
def PointQuartersSaid : Prop := pointQuartersRow.holds Try.pinned (OpenSpec.ofChange pointQuartersSpec)

/-- ITS FALSE NEIGHBOUR: 'it returns false'. Refute it at one input. -/
def pointQuartersWrong : ChangeSpec := { name := "pointQuarters", fn := fun _ => fun
  | [d1, d2, d3, d4] => { results := [.lit (.bool false)], args := [d1, d2, d3, d4] }
  | _ => none }
def PointQuartersWrongFalsely : Prop := pointQuartersRow.holds Try.pinned (OpenSpec.ofChange pointQuartersWrong)

/-- 'jotterlaw1.PointBoxes': WHATEVER THE INPUT: true; the input reads as it did. -/
def pointBoxesSpec : ChangeSpec := { name := "pointBoxes", fn := fun _ => fun
  | [d1, d2] => { results := [.lit (.bool true)], args := [d1, d2] }
  | _ => none }
def pointBoxesRow : OpenClaim := { program := "ytlffbdfkanibcaa", sum := "58e0eeeebe527f0b9e26dd4919523389b2df2fa4417c99a5701b3dabf0d4ca2d", func := "jotter/jotterlaw1.PointBoxes", spec := "pointBoxes", inPlace := ["math.archTrunc", "math.Float64bits", "math.Float64frombits", "math.sqrt"], apart := false }
def PointBoxesSaid : Prop := pointBoxesRow.holds Try.pinned (OpenSpec.ofChange pointBoxesSpec)

/-- ITS FALSE NEIGHBOUR: 'it returns false'. Refute it at one input. -/
def pointBoxesWrong : ChangeSpec := { name := "pointBoxes", fn := fun _ => fun
  | [d1, d2] => { results := [.lit (.bool false)], args := [d1, d2] }
  | _ => none }
def PointBoxesWrongFalsely : Prop := pointBoxesRow.holds Try.pinned (OpenSpec.ofChange pointBoxesWrong)

/-- 'jotterlaw1.PointLens': WHATEVER THE INPUT: true; the input reads as it did. -/
def pointLensSpec : ChangeSpec := { name := "pointLens", fn := fun _ => fun
  | [d1, d2, d3, d4, d5] => { results := [.lit (.bool true)], args := [d1, d2, d3, d4, d5] }
  | _ => none }
def pointLensRow : OpenClaim := { program := "ytlffbdfkanibcaa", sum := "58e0eeeebe527f0b9e26dd4919523389b2df2fa4417c99a5701b3dabf0d4ca2d", func := "jotter/jotterlaw1.PointLens", spec := "pointLens", inPlace := ["math.archTrunc", "math.Float64bits", "math.Float64frombits", "math.sqrt"], apart := false }
def PointLensSaid : Prop := pointLensRow.holds Try.pinned (OpenSpec.ofChange pointLensSpec)

/-- ITS FALSE NEIGHBOUR: 'it returns false'. Refute it at one input. -/
def pointLensWrong : ChangeSpec := { name := "pointLens", fn := fun _ => fun
  | [d1, d2, d3, d4, d5] => { results := [.lit (.bool false)], args := [d1, d2, d3, d4, d5] }
  | _ => none }
def PointLensWrongFalsely : Prop := pointLensRow.holds Try.pinned (OpenSpec.ofChange pointLensWrong)

/-- 'jotterlaw1.PointRing': WHATEVER THE INPUT: true; the input reads as it did. -/
def pointRingSpec : ChangeSpec := { name := "pointRing", fn := fun _ => fun
  | [d1, d2, d3, d4, d5, d6] => { results := [.lit (.bool true)], args := [d1, d2, d3, d4, d5, d6] }
  | _ => none }
def pointRingRow : OpenClaim := { program := "ytlffbdfkanibcaa", sum := "58e0eeeebe527f0b9e26dd4919523389b2df2fa4417c99a5701b3dabf0d4ca2d", func := "jotter/jotterlaw1.PointRing", spec := "pointRing", inPlace := ["math.archTrunc", "math.Float64bits", "math.Float64frombits", "math.sqrt"], apart := false }
def PointRingSaid : Prop := pointRingRow.holds Try.pinned (OpenSpec.ofChange pointRingSpec)

/-- ITS FALSE NEIGHBOUR: 'it returns false'. Refute it at one input. -/
def pointRingWrong : ChangeSpec := { name := "pointRing", fn := fun _ => fun
  | [d1, d2, d3, d4, d5, d6] => { results := [.lit (.bool false)], args := [d1, d2, d3, d4, d5, d6] }
  | _ => none }
def PointRingWrongFalsely : Prop := pointRingRow.holds Try.pinned (OpenSpec.ofChange pointRingWrong)

/-- 'jotterlaw1.PointSquares': WHATEVER THE INPUT: true; the input reads as it did. -/
def pointSquaresSpec : ChangeSpec := { name := "pointSquares", fn := fun _ => fun
  | [d1, d2, d3, d4] => { results := [.lit (.bool true)], args := [d1, d2, d3, d4] }
  | _ => none }
def pointSquaresRow : OpenClaim := { program := "ytlffbdfkanibcaa", sum := "58e0eeeebe527f0b9e26dd4919523389b2df2fa4417c99a5701b3dabf0d4ca2d", func := "jotter/jotterlaw1.PointSquares", spec := "pointSquares", inPlace := ["math.archTrunc", "math.Float64bits", "math.Float64frombits", "math.sqrt"], apart := false }
def PointSquaresSaid : Prop := pointSquaresRow.holds Try.pinned (OpenSpec.ofChange pointSquaresSpec)

/-- ITS FALSE NEIGHBOUR: 'it returns false'. Refute it at one input. -/
def pointSquaresWrong : ChangeSpec := { name := "pointSquares", fn := fun _ => fun
  | [d1, d2, d3, d4] => { results := [.lit (.bool false)], args := [d1, d2, d3, d4] }
  | _ => none }
def PointSquaresWrongFalsely : Prop := pointSquaresRow.holds Try.pinned (OpenSpec.ofChange pointSquaresWrong)

/-- 'jotterlaw2.StrokeReads': WHATEVER THE INPUT: true; the input reads as it did. -/
def strokeReadsSpec : ChangeSpec := { name := "strokeReads", fn := fun _ => fun
  | [d] => { results := [.lit (.bool true)], args := [d] }
  | _ => none }
def strokeReadsRow : OpenClaim := { program := "ytlffbdfkanibcaa", sum := "58e0eeeebe527f0b9e26dd4919523389b2df2fa4417c99a5701b3dabf0d4ca2d", func := "jotter/jotterlaw2.StrokeReads", spec := "strokeReads", inPlace := ["math.archTrunc", "math.Float64bits", "math.Float64frombits"], unfollowed := true, recurses := true, apart := false }
def StrokeReadsSaid : Prop := strokeReadsRow.holds Try.pinned (OpenSpec.ofChange strokeReadsSpec)

/-- ITS FALSE NEIGHBOUR: 'it returns false'. Refute it at one input. -/
def strokeReadsWrong : ChangeSpec := { name := "strokeReads", fn := fun _ => fun
  | [d] => { results := [.lit (.bool false)], args := [d] }
  | _ => none }
def StrokeReadsWrongFalsely : Prop := strokeReadsRow.holds Try.pinned (OpenSpec.ofChange strokeReadsWrong)

/- THE SECOND FORM. 'bulk': how many values and letters a reading holds, each counted each time it is reached (what is shared counts as often as it is met; a slice's spare places count too). A statement '..UptoSaid' is the law's where the arguments, and the package variables that the reading takes, are together of bulk at most 1048576: NARROWER than '..Said'. Prove '..Said' where nothing that the law and all that it calls make is longer than what came in: it says more and counts as full. Else prove '..UptoSaid'. A law counts once. -/
mutual
def uptoBulk {H : Type} : DataW H → Nat
  | .lit (.string bytes) => bytes.length + 1
  | .lit _ => 1
  | .nil => 1
  | .ptr d => uptoBulk d + 1
  | .slice elems spare => uptoBulkAll elems + uptoBulkAll spare + 1
  | .agg parts => uptoBulkAll parts + 1
  | .iface _ d => uptoBulk d + 1
  | .map entries => uptoBulkEntries entries + 1
  | .held _ => 1
def uptoBulkAll {H : Type} : List (DataW H) → Nat
  | [] => 0
  | d :: r => uptoBulk d + uptoBulkAll r
def uptoBulkEntries {H : Type} : List (Lit × DataW H) → Nat
  | [] => 0
  | x :: r => uptoBulkEntry x + uptoBulkEntries r
def uptoBulkEntry {H : Type} : Lit × DataW H → Nat
  | (.string bytes, d) => bytes.length + uptoBulk d + 1
  | (_, d) => uptoBulk d + 1
 end
def uptoSmall : (H : Type) → List (DataW H) → Bool := fun _ ds => decide (uptoBulkAll ds ≤ 1048576)
def OpenSpec.upto (s : _root_.Go.ChangeSpec) : _root_.Go.OpenSpec := { _root_.Go.OpenSpec.ofChange s with cond := some uptoSmall }

/-- 'jotterlaw1.PointQuarters', WHERE WHAT IT READS IS OF BULK AT MOST 1048576: true; the input reads as it did. -/
def pointQuartersUptoRow : OpenClaim := { program := "ytlffbdfkanibcaa", sum := "58e0eeeebe527f0b9e26dd4919523389b2df2fa4417c99a5701b3dabf0d4ca2d", func := "jotter/jotterlaw1.PointQuarters", spec := "pointQuarters", inPlace := ["math.archTrunc", "math.Float64bits", "math.Float64frombits", "math.sqrt"], apart := false, narrowed := true }
def PointQuartersUptoSaid : Prop := pointQuartersUptoRow.holds Try.pinned (OpenSpec.upto pointQuartersSpec)

/-- 'jotterlaw1.PointBoxes', WHERE WHAT IT READS IS OF BULK AT MOST 1048576: true; the input reads as it did. -/
def pointBoxesUptoRow : OpenClaim := { program := "ytlffbdfkanibcaa", sum := "58e0eeeebe527f0b9e26dd4919523389b2df2fa4417c99a5701b3dabf0d4ca2d", func := "jotter/jotterlaw1.PointBoxes", spec := "pointBoxes", inPlace := ["math.archTrunc", "math.Float64bits", "math.Float64frombits", "math.sqrt"], apart := false, narrowed := true }
def PointBoxesUptoSaid : Prop := pointBoxesUptoRow.holds Try.pinned (OpenSpec.upto pointBoxesSpec)

/-- 'jotterlaw1.PointLens', WHERE WHAT IT READS IS OF BULK AT MOST 1048576: true; the input reads as it did. -/
def pointLensUptoRow : OpenClaim := { program := "ytlffbdfkanibcaa", sum := "58e0eeeebe527f0b9e26dd4919523389b2df2fa4417c99a5701b3dabf0d4ca2d", func := "jotter/jotterlaw1.PointLens", spec := "pointLens", inPlace := ["math.archTrunc", "math.Float64bits", "math.Float64frombits", "math.sqrt"], apart := false, narrowed := true }
def PointLensUptoSaid : Prop := pointLensUptoRow.holds Try.pinned (OpenSpec.upto pointLensSpec)

/-- 'jotterlaw1.PointRing', WHERE WHAT IT READS IS OF BULK AT MOST 1048576: true; the input reads as it did. -/
def pointRingUptoRow : OpenClaim := { program := "ytlffbdfkanibcaa", sum := "58e0eeeebe527f0b9e26dd4919523389b2df2fa4417c99a5701b3dabf0d4ca2d", func := "jotter/jotterlaw1.PointRing", spec := "pointRing", inPlace := ["math.archTrunc", "math.Float64bits", "math.Float64frombits", "math.sqrt"], apart := false, narrowed := true }
def PointRingUptoSaid : Prop := pointRingUptoRow.holds Try.pinned (OpenSpec.upto pointRingSpec)

/-- 'jotterlaw1.PointSquares', WHERE WHAT IT READS IS OF BULK AT MOST 1048576: true; the input reads as it did. -/
def pointSquaresUptoRow : OpenClaim := { program := "ytlffbdfkanibcaa", sum := "58e0eeeebe527f0b9e26dd4919523389b2df2fa4417c99a5701b3dabf0d4ca2d", func := "jotter/jotterlaw1.PointSquares", spec := "pointSquares", inPlace := ["math.archTrunc", "math.Float64bits", "math.Float64frombits", "math.sqrt"], apart := false, narrowed := true }
def PointSquaresUptoSaid : Prop := pointSquaresUptoRow.holds Try.pinned (OpenSpec.upto pointSquaresSpec)

/-- 'jotterlaw2.StrokeReads', WHERE WHAT IT READS IS OF BULK AT MOST 1048576: true; the input reads as it did. -/
def strokeReadsUptoRow : OpenClaim := { program := "ytlffbdfkanibcaa", sum := "58e0eeeebe527f0b9e26dd4919523389b2df2fa4417c99a5701b3dabf0d4ca2d", func := "jotter/jotterlaw2.StrokeReads", spec := "strokeReads", inPlace := ["math.archTrunc", "math.Float64bits", "math.Float64frombits"], unfollowed := true, recurses := true, apart := false, narrowed := true }
def StrokeReadsUptoSaid : Prop := strokeReadsUptoRow.holds Try.pinned (OpenSpec.upto strokeReadsSpec)

end Rows
end Go.Proofs.Ytlffbdfkanibcaa
