/-
  No cell of these rows narrows 'for every input' (looked for: loops, veiled, ifaces, maps, wideKeys, modest, calm, conditions, laid).
  DERIVED. THE GIVEN ROWS OF THIS SEAT. 6 by the template 'for every input the law returns true; each argument reads behind the call as it read before'; 0 by the template 'total and deterministic' (their statements: YtjagkehablfmkaaTotals.lean).
  GIVEN WITH THE SEED: the statements are not yours to turn. If you find one false, say at which input.
  Laid BY PROGRAM, IN A SANDBOX (cutbox-rows.mjs): the forced cells as the released guide's own fill.sh prints them over the translation cd241c69e448dea2… (all of the seat's roots in one cut). By AI agents, Wed Nov 11 2026. No macro, syntax, notation, axiom, sorry.
-/
import Derived.Test.YtjagkehablfmkaaChecked
import GoSem.Claim
import GoSem.ClaimJoined
import GoSem.ClaimMapViews
import Derived.JoinedTies
import Derived.KernelRfl
namespace Go.Proofs.Ytjagkehablfmkaa
/- THE CELL 'sum', in the pinned program and in every row, IS THE sha256 OF THE DUMP (.gsa) THAT YtjagkehablfmkaaProg.lean LOADS. Nothing in Lean hashes anything: it is a label: what it is worth is what the hold of that sum in a sandbox is worth. -/
noncomputable def Try.pinned : Pinned := { name := "ytjagkehablfmkaa", sum := "cd241c69e448dea2bccb61eb788ee8ab9f861fb74c3b2dbf79c4b25512181e7f", checked := Try.checked }
namespace Rows
def none {H : Type} : Left H := { results := [], args := [] }

/-- 'jotterlaw11.WearTells': WHATEVER THE INPUT: true; the input reads as it did. -/
def wearTellsSpec : ChangeSpec := { name := "wearTells", fn := fun _ => fun
  | [d1, d2, d3] => { results := [.lit (.bool true)], args := [d1, d2, d3] }
  | _ => none }
def wearTellsRow : OpenClaim := { program := "ytjagkehablfmkaa", sum := "cd241c69e448dea2bccb61eb788ee8ab9f861fb74c3b2dbf79c4b25512181e7f", func := "jotter/jotterlaw11.WearTells", spec := "wearTells", unfollowed := true, recurses := true, apart := false }
def WearTellsSaid : Prop := wearTellsRow.holds Try.pinned (OpenSpec.ofChange wearTellsSpec)

/-- ITS FALSE NEIGHBOUR: 'it returns false'. Refute it at one input. -/
def wearTellsWrong : ChangeSpec := { name := "wearTells", fn := fun _ => fun
  | [d1, d2, d3] => { results := [.lit (.bool false)], args := [d1, d2, d3] }
  | _ => none }
def WearTellsWrongFalsely : Prop := wearTellsRow.holds Try.pinned (OpenSpec.ofChange wearTellsWrong)

/-- 'jotterlaw11.WearErases': WHATEVER THE INPUT: true; the input reads as it did. -/
def wearErasesSpec : ChangeSpec := { name := "wearErases", fn := fun _ => fun
  | [d1, d2] => { results := [.lit (.bool true)], args := [d1, d2] }
  | _ => none }
def wearErasesRow : OpenClaim := { program := "ytjagkehablfmkaa", sum := "cd241c69e448dea2bccb61eb788ee8ab9f861fb74c3b2dbf79c4b25512181e7f", func := "jotter/jotterlaw11.WearErases", spec := "wearErases", unfollowed := true, recurses := true, apart := false }
def WearErasesSaid : Prop := wearErasesRow.holds Try.pinned (OpenSpec.ofChange wearErasesSpec)

/-- ITS FALSE NEIGHBOUR: 'it returns false'. Refute it at one input. -/
def wearErasesWrong : ChangeSpec := { name := "wearErases", fn := fun _ => fun
  | [d1, d2] => { results := [.lit (.bool false)], args := [d1, d2] }
  | _ => none }
def WearErasesWrongFalsely : Prop := wearErasesRow.holds Try.pinned (OpenSpec.ofChange wearErasesWrong)

/-- 'jotterlaw11.WearShifts': WHATEVER THE INPUT: true; the input reads as it did. -/
def wearShiftsSpec : ChangeSpec := { name := "wearShifts", fn := fun _ => fun
  | [d1, d2, d3, d4] => { results := [.lit (.bool true)], args := [d1, d2, d3, d4] }
  | _ => none }
def wearShiftsRow : OpenClaim := { program := "ytjagkehablfmkaa", sum := "cd241c69e448dea2bccb61eb788ee8ab9f861fb74c3b2dbf79c4b25512181e7f", func := "jotter/jotterlaw11.WearShifts", spec := "wearShifts", unfollowed := true, recurses := true, apart := false }
def WearShiftsSaid : Prop := wearShiftsRow.holds Try.pinned (OpenSpec.ofChange wearShiftsSpec)

/-- ITS FALSE NEIGHBOUR: 'it returns false'. Refute it at one input. -/
def wearShiftsWrong : ChangeSpec := { name := "wearShifts", fn := fun _ => fun
  | [d1, d2, d3, d4] => { results := [.lit (.bool false)], args := [d1, d2, d3, d4] }
  | _ => none }
def WearShiftsWrongFalsely : Prop := wearShiftsRow.holds Try.pinned (OpenSpec.ofChange wearShiftsWrong)

/-- 'jotterlaw12.VictimTells': WHATEVER THE INPUT: true; the input reads as it did. -/
def victimTellsSpec : ChangeSpec := { name := "victimTells", fn := fun _ => fun
  | [d1, d2, d3, d4] => { results := [.lit (.bool true)], args := [d1, d2, d3, d4] }
  | _ => none }
def victimTellsRow : OpenClaim := { program := "ytjagkehablfmkaa", sum := "cd241c69e448dea2bccb61eb788ee8ab9f861fb74c3b2dbf79c4b25512181e7f", func := "jotter/jotterlaw12.VictimTells", spec := "victimTells", unfollowed := true, recurses := true, apart := false }
def VictimTellsSaid : Prop := victimTellsRow.holds Try.pinned (OpenSpec.ofChange victimTellsSpec)

/-- ITS FALSE NEIGHBOUR: 'it returns false'. Refute it at one input. -/
def victimTellsWrong : ChangeSpec := { name := "victimTells", fn := fun _ => fun
  | [d1, d2, d3, d4] => { results := [.lit (.bool false)], args := [d1, d2, d3, d4] }
  | _ => none }
def VictimTellsWrongFalsely : Prop := victimTellsRow.holds Try.pinned (OpenSpec.ofChange victimTellsWrong)

/-- 'jotterlaw12.VictimBest': WHATEVER THE INPUT: true; the input reads as it did. -/
def victimBestSpec : ChangeSpec := { name := "victimBest", fn := fun _ => fun
  | [d1, d2, d3] => { results := [.lit (.bool true)], args := [d1, d2, d3] }
  | _ => none }
def victimBestRow : OpenClaim := { program := "ytjagkehablfmkaa", sum := "cd241c69e448dea2bccb61eb788ee8ab9f861fb74c3b2dbf79c4b25512181e7f", func := "jotter/jotterlaw12.VictimBest", spec := "victimBest", unfollowed := true, recurses := true, apart := false }
def VictimBestSaid : Prop := victimBestRow.holds Try.pinned (OpenSpec.ofChange victimBestSpec)

/-- ITS FALSE NEIGHBOUR: 'it returns false'. Refute it at one input. -/
def victimBestWrong : ChangeSpec := { name := "victimBest", fn := fun _ => fun
  | [d1, d2, d3] => { results := [.lit (.bool false)], args := [d1, d2, d3] }
  | _ => none }
def VictimBestWrongFalsely : Prop := victimBestRow.holds Try.pinned (OpenSpec.ofChange victimBestWrong)

/-- 'jotterlaw12.VictimShifts': WHATEVER THE INPUT: true; the input reads as it did. -/
def victimShiftsSpec : ChangeSpec := { name := "victimShifts", fn := fun _ => fun
  | [d1, d2, d3, d4, d5] => { results := [.lit (.bool true)], args := [d1, d2, d3, d4, d5] }
  | _ => none }
def victimShiftsRow : OpenClaim := { program := "ytjagkehablfmkaa", sum := "cd241c69e448dea2bccb61eb788ee8ab9f861fb74c3b2dbf79c4b25512181e7f", func := "jotter/jotterlaw12.VictimShifts", spec := "victimShifts", unfollowed := true, recurses := true, apart := false }
def VictimShiftsSaid : Prop := victimShiftsRow.holds Try.pinned (OpenSpec.ofChange victimShiftsSpec)

/-- ITS FALSE NEIGHBOUR: 'it returns false'. Refute it at one input. -/
def victimShiftsWrong : ChangeSpec := { name := "victimShifts", fn := fun _ => fun
  | [d1, d2, d3, d4, d5] => { results := [.lit (.bool false)], args := [d1, d2, d3, d4, d5] }
  | _ => none }
def VictimShiftsWrongFalsely : Prop := victimShiftsRow.holds Try.pinned (OpenSpec.ofChange victimShiftsWrong)

/- THE SECOND FORM. 'bulk': how many values and letters a reading holds, each counted each time it is reached (what is shared counts as often as it is met; a slice's spare places count too). A statement '..UptoSaid' is the law's where the arguments, and the package variables that the reading takes, are together of bulk at most 1048576: NARROWER than '..Said'. Prove '..Said' where nothing that the law and all that it calls make is longer than what came in: it says more and counts as full. Else prove '..UptoSaid'. A law counts once. -/
mutual
def uptoBulk {H : Type} : DataW H → Nat
  | .lit (.string bytes) => bytes.length + 1
  | .lit _ => 1
  | .nil => 1
  | .ptr d => uptoBulk d + 1
  | .slice elems spare => uptoBulkAll elems + uptoBulkAll spare + 1
  | .agg parts => uptoBulkAll parts + 1
  | .iface _ d => uptoBulk d + 1
  | .map entries => uptoBulkEntries entries + 1
  | .held _ => 1
def uptoBulkAll {H : Type} : List (DataW H) → Nat
  | [] => 0
  | d :: r => uptoBulk d + uptoBulkAll r
def uptoBulkEntries {H : Type} : List (Lit × DataW H) → Nat
  | [] => 0
  | x :: r => uptoBulkEntry x + uptoBulkEntries r
def uptoBulkEntry {H : Type} : Lit × DataW H → Nat
  | (.string bytes, d) => bytes.length + uptoBulk d + 1
  | (_, d) => uptoBulk d + 1
 end
def uptoSmall : (H : Type) → List (DataW H) → Bool := fun _ ds => decide (uptoBulkAll ds ≤ 1048576)
def OpenSpec.upto (s : _root_.Go.ChangeSpec) : _root_.Go.OpenSpec := { _root_.Go.OpenSpec.ofChange s with cond := some uptoSmall }

/-- 'jotterlaw11.WearTells', WHERE WHAT IT READS IS OF BULK AT MOST 1048576: true; the input reads as it did. -/
def wearTellsUptoRow : OpenClaim := { program := "ytjagkehablfmkaa", sum := "cd241c69e448dea2bccb61eb788ee8ab9f861fb74c3b2dbf79c4b25512181e7f", func := "jotter/jotterlaw11.WearTells", spec := "wearTells", unfollowed := true, recurses := true, apart := false, narrowed := true }
def WearTellsUptoSaid : Prop := wearTellsUptoRow.holds Try.pinned (OpenSpec.upto wearTellsSpec)

/-- 'jotterlaw11.WearErases', WHERE WHAT IT READS IS OF BULK AT MOST 1048576: true; the input reads as it did. -/
def wearErasesUptoRow : OpenClaim := { program := "ytjagkehablfmkaa", sum := "cd241c69e448dea2bccb61eb788ee8ab9f861fb74c3b2dbf79c4b25512181e7f", func := "jotter/jotterlaw11.WearErases", spec := "wearErases", unfollowed := true, recurses := true, apart := false, narrowed := true }
def WearErasesUptoSaid : Prop := wearErasesUptoRow.holds Try.pinned (OpenSpec.upto wearErasesSpec)

/-- 'jotterlaw11.WearShifts', WHERE WHAT IT READS IS OF BULK AT MOST 1048576: true; the input reads as it did. -/
def wearShiftsUptoRow : OpenClaim := { program := "ytjagkehablfmkaa", sum := "cd241c69e448dea2bccb61eb788ee8ab9f861fb74c3b2dbf79c4b25512181e7f", func := "jotter/jotterlaw11.WearShifts", spec := "wearShifts", unfollowed := true, recurses := true, apart := false, narrowed := true }
def WearShiftsUptoSaid : Prop := wearShiftsUptoRow.holds Try.pinned (OpenSpec.upto wearShiftsSpec)

/-- 'jotterlaw12.VictimTells', WHERE WHAT IT READS IS OF BULK AT MOST 1048576: true; the input reads as it did. -/
def victimTellsUptoRow : OpenClaim := { program := "ytjagkehablfmkaa", sum := "cd241c69e448dea2bccb61eb788ee8ab9f861fb74c3b2dbf79c4b25512181e7f", func := "jotter/jotterlaw12.VictimTells", spec := "victimTells", unfollowed := true, recurses := true, apart := false, narrowed := true }
def VictimTellsUptoSaid : Prop := victimTellsUptoRow.holds Try.pinned (OpenSpec.upto victimTellsSpec)

/-- 'jotterlaw12.VictimBest', WHERE WHAT IT READS IS OF BULK AT MOST 1048576: true; the input reads as it did. -/
def victimBestUptoRow : OpenClaim := { program := "ytjagkehablfmkaa", sum := "cd241c69e448dea2bccb61eb788ee8ab9f861fb74c3b2dbf79c4b25512181e7f", func := "jotter/jotterlaw12.VictimBest", spec := "victimBest", unfollowed := true, recurses := true, apart := false, narrowed := true }
def VictimBestUptoSaid : Prop := victimBestUptoRow.holds Try.pinned (OpenSpec.upto victimBestSpec)

/-- 'jotterlaw12.VictimShifts', WHERE WHAT IT READS IS OF BULK AT MOST 1048576: true; the input reads as it did. -/
def victimShiftsUptoRow : OpenClaim := { program := "ytjagkehablfmkaa", sum := "cd241c69e448dea2bccb61eb788ee8ab9f861fb74c3b2dbf79c4b25512181e7f", func := "jotter/jotterlaw12.VictimShifts", spec := "victimShifts", unfollowed := true, recurses := true, apart := false, narrowed := true }
def VictimShiftsUptoSaid : Prop := victimShiftsUptoRow.holds Try.pinned (OpenSpec.upto victimShiftsSpec)

end Rows
end Go.Proofs.Ytjagkehablfmkaa
