/-
  No cell of these rows narrows 'for every input' (looked for: loops, veiled, ifaces, maps, wideKeys, modest, calm, conditions, laid).
  DERIVED. THE GIVEN ROWS OF THIS SEAT. 11 by the template 'for every input the law returns true; each argument reads behind the call as it read before'; 0 by the template 'total and deterministic' (their statements: YtmpbedjbimimoaaTotals.lean).
  GIVEN WITH THE SEED: the statements are not yours to turn. If you find one false, say at which input.
  Laid BY PROGRAM, IN A SANDBOX (cutbox-rows.mjs): the forced cells as the released guide's own fill.sh prints them over the translation 8a87f33cb8f57b19… (all of the seat's roots in one cut). By AI agents, Wed Nov 11 2026. No macro, syntax, notation, axiom, sorry.
-/
import Derived.Test.YtmpbedjbimimoaaChecked
import GoSem.Claim
import GoSem.ClaimJoined
import GoSem.ClaimMapViews
import Derived.JoinedTies
import Derived.KernelRfl
namespace Go.Proofs.Ytmpbedjbimimoaa
/- THE CELL 'sum', in the pinned program and in every row, IS THE sha256 OF THE DUMP (.gsa) THAT YtmpbedjbimimoaaProg.lean LOADS. Nothing in Lean hashes anything: it is a label: what it is worth is what the hold of that sum in a sandbox is worth. -/
noncomputable def Try.pinned : Pinned := { name := "ytmpbedjbimimoaa", sum := "8a87f33cb8f57b194472a01abe5a152eaafeb760415cc632dd768bd9e49204e1", checked := Try.checked }
namespace Rows
def none {H : Type} : Left H := { results := [], args := [] }

/-- 'jotterlaw5.GeomWalks': WHATEVER THE INPUT: true; the input reads as it did. -/
def geomWalksSpec : ChangeSpec := { name := "geomWalks", fn := fun _ => fun
  | [d] => { results := [.lit (.bool true)], args := [d] }
  | _ => none }
def geomWalksRow : OpenClaim := { program := "ytmpbedjbimimoaa", sum := "8a87f33cb8f57b194472a01abe5a152eaafeb760415cc632dd768bd9e49204e1", func := "jotter/jotterlaw5.GeomWalks", spec := "geomWalks", apart := false }
def GeomWalksSaid : Prop := geomWalksRow.holds Try.pinned (OpenSpec.ofChange geomWalksSpec)

/-- ITS FALSE NEIGHBOUR: 'it returns false'. Refute it at one input. -/
def geomWalksWrong : ChangeSpec := { name := "geomWalks", fn := fun _ => fun
  | [d] => { results := [.lit (.bool false)], args := [d] }
  | _ => none }
def GeomWalksWrongFalsely : Prop := geomWalksRow.holds Try.pinned (OpenSpec.ofChange geomWalksWrong)

/-- 'jotterlaw5.GeomNumbers': WHATEVER THE INPUT: true; the input reads as it did. -/
def geomNumbersSpec : ChangeSpec := { name := "geomNumbers", fn := fun _ => fun
  | [d1, d2, d3] => { results := [.lit (.bool true)], args := [d1, d2, d3] }
  | _ => none }
def geomNumbersRow : OpenClaim := { program := "ytmpbedjbimimoaa", sum := "8a87f33cb8f57b194472a01abe5a152eaafeb760415cc632dd768bd9e49204e1", func := "jotter/jotterlaw5.GeomNumbers", spec := "geomNumbers", apart := false }
def GeomNumbersSaid : Prop := geomNumbersRow.holds Try.pinned (OpenSpec.ofChange geomNumbersSpec)

/-- ITS FALSE NEIGHBOUR: 'it returns false'. Refute it at one input. -/
def geomNumbersWrong : ChangeSpec := { name := "geomNumbers", fn := fun _ => fun
  | [d1, d2, d3] => { results := [.lit (.bool false)], args := [d1, d2, d3] }
  | _ => none }
def GeomNumbersWrongFalsely : Prop := geomNumbersRow.holds Try.pinned (OpenSpec.ofChange geomNumbersWrong)

/-- 'jotterlaw6.PlanTells': WHATEVER THE INPUT: true; the input reads as it did. -/
def planTellsSpec : ChangeSpec := { name := "planTells", fn := fun _ => fun
  | [d1, d2, d3, d4] => { results := [.lit (.bool true)], args := [d1, d2, d3, d4] }
  | _ => none }
def planTellsRow : OpenClaim := { program := "ytmpbedjbimimoaa", sum := "8a87f33cb8f57b194472a01abe5a152eaafeb760415cc632dd768bd9e49204e1", func := "jotter/jotterlaw6.PlanTells", spec := "planTells", unfollowed := true, recurses := true, apart := false }
def PlanTellsSaid : Prop := planTellsRow.holds Try.pinned (OpenSpec.ofChange planTellsSpec)

/-- ITS FALSE NEIGHBOUR: 'it returns false'. Refute it at one input. -/
def planTellsWrong : ChangeSpec := { name := "planTells", fn := fun _ => fun
  | [d1, d2, d3, d4] => { results := [.lit (.bool false)], args := [d1, d2, d3, d4] }
  | _ => none }
def PlanTellsWrongFalsely : Prop := planTellsRow.holds Try.pinned (OpenSpec.ofChange planTellsWrong)

/-- 'jotterlaw6.PlanStays': WHATEVER THE INPUT: true; the input reads as it did. -/
def planStaysSpec : ChangeSpec := { name := "planStays", fn := fun _ => fun
  | [d1, d2, d3, d4, d5] => { results := [.lit (.bool true)], args := [d1, d2, d3, d4, d5] }
  | _ => none }
def planStaysRow : OpenClaim := { program := "ytmpbedjbimimoaa", sum := "8a87f33cb8f57b194472a01abe5a152eaafeb760415cc632dd768bd9e49204e1", func := "jotter/jotterlaw6.PlanStays", spec := "planStays", unfollowed := true, recurses := true, apart := false }
def PlanStaysSaid : Prop := planStaysRow.holds Try.pinned (OpenSpec.ofChange planStaysSpec)

/-- ITS FALSE NEIGHBOUR: 'it returns false'. Refute it at one input. -/
def planStaysWrong : ChangeSpec := { name := "planStays", fn := fun _ => fun
  | [d1, d2, d3, d4, d5] => { results := [.lit (.bool false)], args := [d1, d2, d3, d4, d5] }
  | _ => none }
def PlanStaysWrongFalsely : Prop := planStaysRow.holds Try.pinned (OpenSpec.ofChange planStaysWrong)

/-- 'jotterlaw6.PlanSingles': WHATEVER THE INPUT: true; the input reads as it did. -/
def planSinglesSpec : ChangeSpec := { name := "planSingles", fn := fun _ => fun
  | [d1, d2, d3, d4, d5] => { results := [.lit (.bool true)], args := [d1, d2, d3, d4, d5] }
  | _ => none }
def planSinglesRow : OpenClaim := { program := "ytmpbedjbimimoaa", sum := "8a87f33cb8f57b194472a01abe5a152eaafeb760415cc632dd768bd9e49204e1", func := "jotter/jotterlaw6.PlanSingles", spec := "planSingles", unfollowed := true, recurses := true, apart := false }
def PlanSinglesSaid : Prop := planSinglesRow.holds Try.pinned (OpenSpec.ofChange planSinglesSpec)

/-- ITS FALSE NEIGHBOUR: 'it returns false'. Refute it at one input. -/
def planSinglesWrong : ChangeSpec := { name := "planSingles", fn := fun _ => fun
  | [d1, d2, d3, d4, d5] => { results := [.lit (.bool false)], args := [d1, d2, d3, d4, d5] }
  | _ => none }
def PlanSinglesWrongFalsely : Prop := planSinglesRow.holds Try.pinned (OpenSpec.ofChange planSinglesWrong)

/-- 'jotterlaw5.GeomGrows': WHATEVER THE INPUT: true; the input reads as it did. -/
def geomGrowsSpec : ChangeSpec := { name := "geomGrows", fn := fun _ => fun
  | [d] => { results := [.lit (.bool true)], args := [d] }
  | _ => none }
def geomGrowsRow : OpenClaim := { program := "ytmpbedjbimimoaa", sum := "8a87f33cb8f57b194472a01abe5a152eaafeb760415cc632dd768bd9e49204e1", func := "jotter/jotterlaw5.GeomGrows", spec := "geomGrows", apart := false }
def GeomGrowsSaid : Prop := geomGrowsRow.holds Try.pinned (OpenSpec.ofChange geomGrowsSpec)

/-- ITS FALSE NEIGHBOUR: 'it returns false'. Refute it at one input. -/
def geomGrowsWrong : ChangeSpec := { name := "geomGrows", fn := fun _ => fun
  | [d] => { results := [.lit (.bool false)], args := [d] }
  | _ => none }
def GeomGrowsWrongFalsely : Prop := geomGrowsRow.holds Try.pinned (OpenSpec.ofChange geomGrowsWrong)

/-- 'jotterlaw5.GeomTells': WHATEVER THE INPUT: true; the input reads as it did. -/
def geomTellsSpec : ChangeSpec := { name := "geomTells", fn := fun _ => fun
  | [d1, d2] => { results := [.lit (.bool true)], args := [d1, d2] }
  | _ => none }
def geomTellsRow : OpenClaim := { program := "ytmpbedjbimimoaa", sum := "8a87f33cb8f57b194472a01abe5a152eaafeb760415cc632dd768bd9e49204e1", func := "jotter/jotterlaw5.GeomTells", spec := "geomTells", apart := false }
def GeomTellsSaid : Prop := geomTellsRow.holds Try.pinned (OpenSpec.ofChange geomTellsSpec)

/-- ITS FALSE NEIGHBOUR: 'it returns false'. Refute it at one input. -/
def geomTellsWrong : ChangeSpec := { name := "geomTells", fn := fun _ => fun
  | [d1, d2] => { results := [.lit (.bool false)], args := [d1, d2] }
  | _ => none }
def GeomTellsWrongFalsely : Prop := geomTellsRow.holds Try.pinned (OpenSpec.ofChange geomTellsWrong)

/-- 'jotterlaw5.GeomLow': WHATEVER THE INPUT: true; the input reads as it did. -/
def geomLowSpec : ChangeSpec := { name := "geomLow", fn := fun _ => fun
  | [d1, d2, d3] => { results := [.lit (.bool true)], args := [d1, d2, d3] }
  | _ => none }
def geomLowRow : OpenClaim := { program := "ytmpbedjbimimoaa", sum := "8a87f33cb8f57b194472a01abe5a152eaafeb760415cc632dd768bd9e49204e1", func := "jotter/jotterlaw5.GeomLow", spec := "geomLow", apart := false }
def GeomLowSaid : Prop := geomLowRow.holds Try.pinned (OpenSpec.ofChange geomLowSpec)

/-- ITS FALSE NEIGHBOUR: 'it returns false'. Refute it at one input. -/
def geomLowWrong : ChangeSpec := { name := "geomLow", fn := fun _ => fun
  | [d1, d2, d3] => { results := [.lit (.bool false)], args := [d1, d2, d3] }
  | _ => none }
def GeomLowWrongFalsely : Prop := geomLowRow.holds Try.pinned (OpenSpec.ofChange geomLowWrong)

/-- 'jotterlaw15.ExtentGrows': WHATEVER THE INPUT: true; the input reads as it did. -/
def extentGrowsSpec : ChangeSpec := { name := "extentGrows", fn := fun _ => fun
  | [d1, d2, d3, d4] => { results := [.lit (.bool true)], args := [d1, d2, d3, d4] }
  | _ => none }
def extentGrowsRow : OpenClaim := { program := "ytmpbedjbimimoaa", sum := "8a87f33cb8f57b194472a01abe5a152eaafeb760415cc632dd768bd9e49204e1", func := "jotter/jotterlaw15.ExtentGrows", spec := "extentGrows", unfollowed := true, recurses := true, apart := false }
def ExtentGrowsSaid : Prop := extentGrowsRow.holds Try.pinned (OpenSpec.ofChange extentGrowsSpec)

/-- ITS FALSE NEIGHBOUR: 'it returns false'. Refute it at one input. -/
def extentGrowsWrong : ChangeSpec := { name := "extentGrows", fn := fun _ => fun
  | [d1, d2, d3, d4] => { results := [.lit (.bool false)], args := [d1, d2, d3, d4] }
  | _ => none }
def ExtentGrowsWrongFalsely : Prop := extentGrowsRow.holds Try.pinned (OpenSpec.ofChange extentGrowsWrong)

/-- 'jotterlaw15.ExtentBack': WHATEVER THE INPUT: true; the input reads as it did. -/
def extentBackSpec : ChangeSpec := { name := "extentBack", fn := fun _ => fun
  | [d1, d2] => { results := [.lit (.bool true)], args := [d1, d2] }
  | _ => none }
def extentBackRow : OpenClaim := { program := "ytmpbedjbimimoaa", sum := "8a87f33cb8f57b194472a01abe5a152eaafeb760415cc632dd768bd9e49204e1", func := "jotter/jotterlaw15.ExtentBack", spec := "extentBack", unfollowed := true, recurses := true, apart := false }
def ExtentBackSaid : Prop := extentBackRow.holds Try.pinned (OpenSpec.ofChange extentBackSpec)

/-- ITS FALSE NEIGHBOUR: 'it returns false'. Refute it at one input. -/
def extentBackWrong : ChangeSpec := { name := "extentBack", fn := fun _ => fun
  | [d1, d2] => { results := [.lit (.bool false)], args := [d1, d2] }
  | _ => none }
def ExtentBackWrongFalsely : Prop := extentBackRow.holds Try.pinned (OpenSpec.ofChange extentBackWrong)

/-- 'jotterlaw15.ExtentJoins': WHATEVER THE INPUT: true; the input reads as it did. -/
def extentJoinsSpec : ChangeSpec := { name := "extentJoins", fn := fun _ => fun
  | [d1, d2, d3, d4, d5] => { results := [.lit (.bool true)], args := [d1, d2, d3, d4, d5] }
  | _ => none }
def extentJoinsRow : OpenClaim := { program := "ytmpbedjbimimoaa", sum := "8a87f33cb8f57b194472a01abe5a152eaafeb760415cc632dd768bd9e49204e1", func := "jotter/jotterlaw15.ExtentJoins", spec := "extentJoins", unfollowed := true, recurses := true, apart := false }
def ExtentJoinsSaid : Prop := extentJoinsRow.holds Try.pinned (OpenSpec.ofChange extentJoinsSpec)

/-- ITS FALSE NEIGHBOUR: 'it returns false'. Refute it at one input. -/
def extentJoinsWrong : ChangeSpec := { name := "extentJoins", fn := fun _ => fun
  | [d1, d2, d3, d4, d5] => { results := [.lit (.bool false)], args := [d1, d2, d3, d4, d5] }
  | _ => none }
def ExtentJoinsWrongFalsely : Prop := extentJoinsRow.holds Try.pinned (OpenSpec.ofChange extentJoinsWrong)

/- THE SECOND FORM. 'bulk': how many values and letters a reading holds, each counted each time it is reached (what is shared counts as often as it is met; a slice's spare places count too). A statement '..UptoSaid' is the law's where the arguments, and the package variables that the reading takes, are together of bulk at most 1048576: NARROWER than '..Said'. Prove '..Said' where nothing that the law and all that it calls make is longer than what came in: it says more and counts as full. Else prove '..UptoSaid'. A law counts once. -/
mutual
def uptoBulk {H : Type} : DataW H → Nat
  | .lit (.string bytes) => bytes.length + 1
  | .lit _ => 1
  | .nil => 1
  | .ptr d => uptoBulk d + 1
  | .slice elems spare => uptoBulkAll elems + uptoBulkAll spare + 1
  | .agg parts => uptoBulkAll parts + 1
  | .iface _ d => uptoBulk d + 1
  | .map entries => uptoBulkEntries entries + 1
  | .held _ => 1
def uptoBulkAll {H : Type} : List (DataW H) → Nat
  | [] => 0
  | d :: r => uptoBulk d + uptoBulkAll r
def uptoBulkEntries {H : Type} : List (Lit × DataW H) → Nat
  | [] => 0
  | x :: r => uptoBulkEntry x + uptoBulkEntries r
def uptoBulkEntry {H : Type} : Lit × DataW H → Nat
  | (.string bytes, d) => bytes.length + uptoBulk d + 1
  | (_, d) => uptoBulk d + 1
 end
def uptoSmall : (H : Type) → List (DataW H) → Bool := fun _ ds => decide (uptoBulkAll ds ≤ 1048576)
def OpenSpec.upto (s : _root_.Go.ChangeSpec) : _root_.Go.OpenSpec := { _root_.Go.OpenSpec.ofChange s with cond := some uptoSmall }

/-- 'jotterlaw5.GeomWalks', WHERE WHAT IT READS IS OF BULK AT MOST 1048576: true; the input reads as it did. -/
def geomWalksUptoRow : OpenClaim := { program := "ytmpbedjbimimoaa", sum := "8a87f33cb8f57b194472a01abe5a152eaafeb760415cc632dd768bd9e49204e1", func := "jotter/jotterlaw5.GeomWalks", spec := "geomWalks", apart := false, narrowed := true }
def GeomWalksUptoSaid : Prop := geomWalksUptoRow.holds Try.pinned (OpenSpec.upto geomWalksSpec)

/-- 'jotterlaw5.GeomNumbers', WHERE WHAT IT READS IS OF BULK AT MOST 1048576: true; the input reads as it did. -/
def geomNumbersUptoRow : OpenClaim := { program := "ytmpbedjbimimoaa", sum := "8a87f33cb8f57b194472a01abe5a152eaafeb760415cc632dd768bd9e49204e1", func := "jotter/jotterlaw5.GeomNumbers", spec := "geomNumbers", apart := false, narrowed := true }
def GeomNumbersUptoSaid : Prop := geomNumbersUptoRow.holds Try.pinned (OpenSpec.upto geomNumbersSpec)

/-- 'jotterlaw6.PlanTells', WHERE WHAT IT READS IS OF BULK AT MOST 1048576: true; the input reads as it did. -/
def planTellsUptoRow : OpenClaim := { program := "ytmpbedjbimimoaa", sum := "8a87f33cb8f57b194472a01abe5a152eaafeb760415cc632dd768bd9e49204e1", func := "jotter/jotterlaw6.PlanTells", spec := "planTells", unfollowed := true, recurses := true, apart := false, narrowed := true }
def PlanTellsUptoSaid : Prop := planTellsUptoRow.holds Try.pinned (OpenSpec.upto planTellsSpec)

/-- 'jotterlaw6.PlanStays', WHERE WHAT IT READS IS OF BULK AT MOST 1048576: true; the input reads as it did. -/
def planStaysUptoRow : OpenClaim := { program := "ytmpbedjbimimoaa", sum := "8a87f33cb8f57b194472a01abe5a152eaafeb760415cc632dd768bd9e49204e1", func := "jotter/jotterlaw6.PlanStays", spec := "planStays", unfollowed := true, recurses := true, apart := false, narrowed := true }
def PlanStaysUptoSaid : Prop := planStaysUptoRow.holds Try.pinned (OpenSpec.upto planStaysSpec)

/-- 'jotterlaw6.PlanSingles', WHERE WHAT IT READS IS OF BULK AT MOST 1048576: true; the input reads as it did. -/
def planSinglesUptoRow : OpenClaim := { program := "ytmpbedjbimimoaa", sum := "8a87f33cb8f57b194472a01abe5a152eaafeb760415cc632dd768bd9e49204e1", func := "jotter/jotterlaw6.PlanSingles", spec := "planSingles", unfollowed := true, recurses := true, apart := false, narrowed := true }
def PlanSinglesUptoSaid : Prop := planSinglesUptoRow.holds Try.pinned (OpenSpec.upto planSinglesSpec)

/-- 'jotterlaw5.GeomGrows', WHERE WHAT IT READS IS OF BULK AT MOST 1048576: true; the input reads as it did. -/
def geomGrowsUptoRow : OpenClaim := { program := "ytmpbedjbimimoaa", sum := "8a87f33cb8f57b194472a01abe5a152eaafeb760415cc632dd768bd9e49204e1", func := "jotter/jotterlaw5.GeomGrows", spec := "geomGrows", apart := false, narrowed := true }
def GeomGrowsUptoSaid : Prop := geomGrowsUptoRow.holds Try.pinned (OpenSpec.upto geomGrowsSpec)

/-- 'jotterlaw5.GeomTells', WHERE WHAT IT READS IS OF BULK AT MOST 1048576: true; the input reads as it did. -/
def geomTellsUptoRow : OpenClaim := { program := "ytmpbedjbimimoaa", sum := "8a87f33cb8f57b194472a01abe5a152eaafeb760415cc632dd768bd9e49204e1", func := "jotter/jotterlaw5.GeomTells", spec := "geomTells", apart := false, narrowed := true }
def GeomTellsUptoSaid : Prop := geomTellsUptoRow.holds Try.pinned (OpenSpec.upto geomTellsSpec)

/-- 'jotterlaw5.GeomLow', WHERE WHAT IT READS IS OF BULK AT MOST 1048576: true; the input reads as it did. -/
def geomLowUptoRow : OpenClaim := { program := "ytmpbedjbimimoaa", sum := "8a87f33cb8f57b194472a01abe5a152eaafeb760415cc632dd768bd9e49204e1", func := "jotter/jotterlaw5.GeomLow", spec := "geomLow", apart := false, narrowed := true }
def GeomLowUptoSaid : Prop := geomLowUptoRow.holds Try.pinned (OpenSpec.upto geomLowSpec)

/-- 'jotterlaw15.ExtentGrows', WHERE WHAT IT READS IS OF BULK AT MOST 1048576: true; the input reads as it did. -/
def extentGrowsUptoRow : OpenClaim := { program := "ytmpbedjbimimoaa", sum := "8a87f33cb8f57b194472a01abe5a152eaafeb760415cc632dd768bd9e49204e1", func := "jotter/jotterlaw15.ExtentGrows", spec := "extentGrows", unfollowed := true, recurses := true, apart := false, narrowed := true }
def ExtentGrowsUptoSaid : Prop := extentGrowsUptoRow.holds Try.pinned (OpenSpec.upto extentGrowsSpec)

/-- 'jotterlaw15.ExtentBack', WHERE WHAT IT READS IS OF BULK AT MOST 1048576: true; the input reads as it did. -/
def extentBackUptoRow : OpenClaim := { program := "ytmpbedjbimimoaa", sum := "8a87f33cb8f57b194472a01abe5a152eaafeb760415cc632dd768bd9e49204e1", func := "jotter/jotterlaw15.ExtentBack", spec := "extentBack", unfollowed := true, recurses := true, apart := false, narrowed := true }
def ExtentBackUptoSaid : Prop := extentBackUptoRow.holds Try.pinned (OpenSpec.upto extentBackSpec)

/-- 'jotterlaw15.ExtentJoins', WHERE WHAT IT READS IS OF BULK AT MOST 1048576: true; the input reads as it did. -/
def extentJoinsUptoRow : OpenClaim := { program := "ytmpbedjbimimoaa", sum := "8a87f33cb8f57b194472a01abe5a152eaafeb760415cc632dd768bd9e49204e1", func := "jotter/jotterlaw15.ExtentJoins", spec := "extentJoins", unfollowed := true, recurses := true, apart := false, narrowed := true }
def ExtentJoinsUptoSaid : Prop := extentJoinsUptoRow.holds Try.pinned (OpenSpec.upto extentJoinsSpec)

end Rows
end Go.Proofs.Ytmpbedjbimimoaa
