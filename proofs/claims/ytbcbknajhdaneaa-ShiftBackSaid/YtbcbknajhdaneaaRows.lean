/-
  No cell of these rows narrows 'for every input' (looked for: loops, veiled, ifaces, maps, wideKeys, modest, calm, conditions, laid).
  DERIVED. THE GIVEN ROWS OF THIS SEAT. 10 by the template 'for every input the law returns true; each argument reads behind the call as it read before'; 0 by the template 'total and deterministic' (their statements: YtbcbknajhdaneaaTotals.lean).
  GIVEN WITH THE SEED: the statements are not yours to turn. If you find one false, say at which input.
  Laid BY PROGRAM, IN A SANDBOX (cutbox-rows.mjs): the forced cells as the released guide's own fill.sh prints them over the translation 761f6c01636ff7d5… (all of the seat's roots in one cut). By AI agents, Wed Nov 11 2026. No macro, syntax, notation, axiom, sorry.
-/
import Derived.Test.YtbcbknajhdaneaaChecked
import GoSem.Claim
import GoSem.ClaimJoined
import GoSem.ClaimMapViews
import Derived.JoinedTies
import Derived.KernelRfl
namespace Go.Proofs.Ytbcbknajhdaneaa
/- THE CELL 'sum', in the pinned program and in every row, IS THE sha256 OF THE DUMP (.gsa) THAT YtbcbknajhdaneaaProg.lean LOADS. Nothing in Lean hashes anything: it is a label: what it is worth is what the hold of that sum in a sandbox is worth. -/
noncomputable def Try.pinned : Pinned := { name := "ytbcbknajhdaneaa", sum := "761f6c01636ff7d5733ca0cd0ed62213e22d2f1acbfc6004581b963450385e16", checked := Try.checked }
namespace Rows
def none {H : Type} : Left H := { results := [], args := [] }

/-- 'windroselaw09.TablePushes': WHATEVER THE INPUT: true; the input reads as it did. -/
def tablePushesSpec : ChangeSpec := { name := "tablePushes", fn := fun _ => fun
  | [d1, d2, d3] => { results := [.lit (.bool true)], args := [d1, d2, d3] }
  | _ => none }
def tablePushesRow : OpenClaim := { program := "ytbcbknajhdaneaa", sum := "761f6c01636ff7d5733ca0cd0ed62213e22d2f1acbfc6004581b963450385e16", func := "windrose/windroselaw09.TablePushes", spec := "tablePushes", unfollowed := true, recurses := true, apart := false }
def TablePushesSaid : Prop := tablePushesRow.holds Try.pinned (OpenSpec.ofChange tablePushesSpec)

/-- ITS FALSE NEIGHBOUR: 'it returns false'. Refute it at one input. -/
def tablePushesWrong : ChangeSpec := { name := "tablePushes", fn := fun _ => fun
  | [d1, d2, d3] => { results := [.lit (.bool false)], args := [d1, d2, d3] }
  | _ => none }
def TablePushesWrongFalsely : Prop := tablePushesRow.holds Try.pinned (OpenSpec.ofChange tablePushesWrong)

/-- 'windroselaw09.TableTells': WHATEVER THE INPUT: true; the input reads as it did. -/
def tableTellsSpec : ChangeSpec := { name := "tableTells", fn := fun _ => fun
  | [d1, d2, d3] => { results := [.lit (.bool true)], args := [d1, d2, d3] }
  | _ => none }
def tableTellsRow : OpenClaim := { program := "ytbcbknajhdaneaa", sum := "761f6c01636ff7d5733ca0cd0ed62213e22d2f1acbfc6004581b963450385e16", func := "windrose/windroselaw09.TableTells", spec := "tableTells", unfollowed := true, recurses := true, apart := false }
def TableTellsSaid : Prop := tableTellsRow.holds Try.pinned (OpenSpec.ofChange tableTellsSpec)

/-- ITS FALSE NEIGHBOUR: 'it returns false'. Refute it at one input. -/
def tableTellsWrong : ChangeSpec := { name := "tableTells", fn := fun _ => fun
  | [d1, d2, d3] => { results := [.lit (.bool false)], args := [d1, d2, d3] }
  | _ => none }
def TableTellsWrongFalsely : Prop := tableTellsRow.holds Try.pinned (OpenSpec.ofChange tableTellsWrong)

/-- 'windroselaw09.TableStays': WHATEVER THE INPUT: true; the input reads as it did. -/
def tableStaysSpec : ChangeSpec := { name := "tableStays", fn := fun _ => fun
  | [d1, d2] => { results := [.lit (.bool true)], args := [d1, d2] }
  | _ => none }
def tableStaysRow : OpenClaim := { program := "ytbcbknajhdaneaa", sum := "761f6c01636ff7d5733ca0cd0ed62213e22d2f1acbfc6004581b963450385e16", func := "windrose/windroselaw09.TableStays", spec := "tableStays", unfollowed := true, recurses := true, apart := false }
def TableStaysSaid : Prop := tableStaysRow.holds Try.pinned (OpenSpec.ofChange tableStaysSpec)

/-- ITS FALSE NEIGHBOUR: 'it returns false'. Refute it at one input. -/
def tableStaysWrong : ChangeSpec := { name := "tableStays", fn := fun _ => fun
  | [d1, d2] => { results := [.lit (.bool false)], args := [d1, d2] }
  | _ => none }
def TableStaysWrongFalsely : Prop := tableStaysRow.holds Try.pinned (OpenSpec.ofChange tableStaysWrong)

/-- 'windroselaw09.TableTurn': WHATEVER THE INPUT: true; the input reads as it did. -/
def tableTurnSpec : ChangeSpec := { name := "tableTurn", fn := fun _ => fun
  | [d1, d2, d3] => { results := [.lit (.bool true)], args := [d1, d2, d3] }
  | _ => none }
def tableTurnRow : OpenClaim := { program := "ytbcbknajhdaneaa", sum := "761f6c01636ff7d5733ca0cd0ed62213e22d2f1acbfc6004581b963450385e16", func := "windrose/windroselaw09.TableTurn", spec := "tableTurn", unfollowed := true, recurses := true, apart := false }
def TableTurnSaid : Prop := tableTurnRow.holds Try.pinned (OpenSpec.ofChange tableTurnSpec)

/-- ITS FALSE NEIGHBOUR: 'it returns false'. Refute it at one input. -/
def tableTurnWrong : ChangeSpec := { name := "tableTurn", fn := fun _ => fun
  | [d1, d2, d3] => { results := [.lit (.bool false)], args := [d1, d2, d3] }
  | _ => none }
def TableTurnWrongFalsely : Prop := tableTurnRow.holds Try.pinned (OpenSpec.ofChange tableTurnWrong)

/-- 'windroselaw09.TableGoes': WHATEVER THE INPUT: true; the input reads as it did. -/
def tableGoesSpec : ChangeSpec := { name := "tableGoes", fn := fun _ => fun
  | [d1, d2, d3] => { results := [.lit (.bool true)], args := [d1, d2, d3] }
  | _ => none }
def tableGoesRow : OpenClaim := { program := "ytbcbknajhdaneaa", sum := "761f6c01636ff7d5733ca0cd0ed62213e22d2f1acbfc6004581b963450385e16", func := "windrose/windroselaw09.TableGoes", spec := "tableGoes", unfollowed := true, recurses := true, apart := false }
def TableGoesSaid : Prop := tableGoesRow.holds Try.pinned (OpenSpec.ofChange tableGoesSpec)

/-- ITS FALSE NEIGHBOUR: 'it returns false'. Refute it at one input. -/
def tableGoesWrong : ChangeSpec := { name := "tableGoes", fn := fun _ => fun
  | [d1, d2, d3] => { results := [.lit (.bool false)], args := [d1, d2, d3] }
  | _ => none }
def TableGoesWrongFalsely : Prop := tableGoesRow.holds Try.pinned (OpenSpec.ofChange tableGoesWrong)

/-- 'windroselaw09.TableSets': WHATEVER THE INPUT: true; the input reads as it did. -/
def tableSetsSpec : ChangeSpec := { name := "tableSets", fn := fun _ => fun
  | [d1, d2, d3] => { results := [.lit (.bool true)], args := [d1, d2, d3] }
  | _ => none }
def tableSetsRow : OpenClaim := { program := "ytbcbknajhdaneaa", sum := "761f6c01636ff7d5733ca0cd0ed62213e22d2f1acbfc6004581b963450385e16", func := "windrose/windroselaw09.TableSets", spec := "tableSets", unfollowed := true, recurses := true, apart := false }
def TableSetsSaid : Prop := tableSetsRow.holds Try.pinned (OpenSpec.ofChange tableSetsSpec)

/-- ITS FALSE NEIGHBOUR: 'it returns false'. Refute it at one input. -/
def tableSetsWrong : ChangeSpec := { name := "tableSets", fn := fun _ => fun
  | [d1, d2, d3] => { results := [.lit (.bool false)], args := [d1, d2, d3] }
  | _ => none }
def TableSetsWrongFalsely : Prop := tableSetsRow.holds Try.pinned (OpenSpec.ofChange tableSetsWrong)

/-- 'windroselaw09.TableMay': WHATEVER THE INPUT: true; the input reads as it did. -/
def tableMaySpec : ChangeSpec := { name := "tableMay", fn := fun _ => fun
  | [d1, d2, d3] => { results := [.lit (.bool true)], args := [d1, d2, d3] }
  | _ => none }
def tableMayRow : OpenClaim := { program := "ytbcbknajhdaneaa", sum := "761f6c01636ff7d5733ca0cd0ed62213e22d2f1acbfc6004581b963450385e16", func := "windrose/windroselaw09.TableMay", spec := "tableMay", unfollowed := true, recurses := true, apart := false }
def TableMaySaid : Prop := tableMayRow.holds Try.pinned (OpenSpec.ofChange tableMaySpec)

/-- ITS FALSE NEIGHBOUR: 'it returns false'. Refute it at one input. -/
def tableMayWrong : ChangeSpec := { name := "tableMay", fn := fun _ => fun
  | [d1, d2, d3] => { results := [.lit (.bool false)], args := [d1, d2, d3] }
  | _ => none }
def TableMayWrongFalsely : Prop := tableMayRow.holds Try.pinned (OpenSpec.ofChange tableMayWrong)

/-- 'windroselaw11.ShiftMoves': WHATEVER THE INPUT: true; the input reads as it did. -/
def shiftMovesSpec : ChangeSpec := { name := "shiftMoves", fn := fun _ => fun
  | [d1, d2, d3] => { results := [.lit (.bool true)], args := [d1, d2, d3] }
  | _ => none }
def shiftMovesRow : OpenClaim := { program := "ytbcbknajhdaneaa", sum := "761f6c01636ff7d5733ca0cd0ed62213e22d2f1acbfc6004581b963450385e16", func := "windrose/windroselaw11.ShiftMoves", spec := "shiftMoves", unfollowed := true, recurses := true, apart := false }
def ShiftMovesSaid : Prop := shiftMovesRow.holds Try.pinned (OpenSpec.ofChange shiftMovesSpec)

/-- ITS FALSE NEIGHBOUR: 'it returns false'. Refute it at one input. -/
def shiftMovesWrong : ChangeSpec := { name := "shiftMoves", fn := fun _ => fun
  | [d1, d2, d3] => { results := [.lit (.bool false)], args := [d1, d2, d3] }
  | _ => none }
def ShiftMovesWrongFalsely : Prop := shiftMovesRow.holds Try.pinned (OpenSpec.ofChange shiftMovesWrong)

/-- 'windroselaw11.ShiftAll': WHATEVER THE INPUT: true; the input reads as it did. -/
def shiftAllSpec : ChangeSpec := { name := "shiftAll", fn := fun _ => fun
  | [d1, d2] => { results := [.lit (.bool true)], args := [d1, d2] }
  | _ => none }
def shiftAllRow : OpenClaim := { program := "ytbcbknajhdaneaa", sum := "761f6c01636ff7d5733ca0cd0ed62213e22d2f1acbfc6004581b963450385e16", func := "windrose/windroselaw11.ShiftAll", spec := "shiftAll", unfollowed := true, recurses := true, apart := false }
def ShiftAllSaid : Prop := shiftAllRow.holds Try.pinned (OpenSpec.ofChange shiftAllSpec)

/-- ITS FALSE NEIGHBOUR: 'it returns false'. Refute it at one input. -/
def shiftAllWrong : ChangeSpec := { name := "shiftAll", fn := fun _ => fun
  | [d1, d2] => { results := [.lit (.bool false)], args := [d1, d2] }
  | _ => none }
def ShiftAllWrongFalsely : Prop := shiftAllRow.holds Try.pinned (OpenSpec.ofChange shiftAllWrong)

/-- 'windroselaw11.ShiftBack': WHATEVER THE INPUT: true; the input reads as it did. -/
def shiftBackSpec : ChangeSpec := { name := "shiftBack", fn := fun _ => fun
  | [d1, d2, d3] => { results := [.lit (.bool true)], args := [d1, d2, d3] }
  | _ => none }
def shiftBackRow : OpenClaim := { program := "ytbcbknajhdaneaa", sum := "761f6c01636ff7d5733ca0cd0ed62213e22d2f1acbfc6004581b963450385e16", func := "windrose/windroselaw11.ShiftBack", spec := "shiftBack", unfollowed := true, recurses := true, apart := false }
def ShiftBackSaid : Prop := shiftBackRow.holds Try.pinned (OpenSpec.ofChange shiftBackSpec)

/-- ITS FALSE NEIGHBOUR: 'it returns false'. Refute it at one input. -/
def shiftBackWrong : ChangeSpec := { name := "shiftBack", fn := fun _ => fun
  | [d1, d2, d3] => { results := [.lit (.bool false)], args := [d1, d2, d3] }
  | _ => none }
def ShiftBackWrongFalsely : Prop := shiftBackRow.holds Try.pinned (OpenSpec.ofChange shiftBackWrong)

/- THE SECOND FORM. 'bulk': how many values and letters a reading holds, each counted each time it is reached (what is shared counts as often as it is met; a slice's spare places count too). A statement '..UptoSaid' is the law's where the arguments, and the package variables that the reading takes, are together of bulk at most 1048576: NARROWER than '..Said'. Prove '..Said' where nothing that the law and all that it calls make is longer than what came in: it says more and counts as full. Else prove '..UptoSaid'. A law counts once. -/
mutual
def uptoBulk {H : Type} : DataW H → Nat
  | .lit (.string bytes) => bytes.length + 1
  | .lit _ => 1
  | .nil => 1
  | .ptr d => uptoBulk d + 1
  | .slice elems spare => uptoBulkAll elems + uptoBulkAll spare + 1
  | .agg parts => uptoBulkAll parts + 1
  | .iface _ d => uptoBulk d + 1
  | .map entries => uptoBulkEntries entries + 1
  | .held _ => 1
def uptoBulkAll {H : Type} : List (DataW H) → Nat
  | [] => 0
  | d :: r => uptoBulk d + uptoBulkAll r
def uptoBulkEntries {H : Type} : List (Lit × DataW H) → Nat
  | [] => 0
  | x :: r => uptoBulkEntry x + uptoBulkEntries r
def uptoBulkEntry {H : Type} : Lit × DataW H → Nat
  | (.string bytes, d) => bytes.length + uptoBulk d + 1
  | (_, d) => uptoBulk d + 1
 end
def uptoSmall : (H : Type) → List (DataW H) → Bool := fun _ ds => decide (uptoBulkAll ds ≤ 1048576)
def OpenSpec.upto (s : _root_.Go.ChangeSpec) : _root_.Go.OpenSpec := { _root_.Go.OpenSpec.ofChange s with cond := some uptoSmall }

/-- 'windroselaw09.TablePushes', WHERE WHAT IT READS IS OF BULK AT MOST 1048576: true; the input reads as it did. -/
def tablePushesUptoRow : OpenClaim := { program := "ytbcbknajhdaneaa", sum := "761f6c01636ff7d5733ca0cd0ed62213e22d2f1acbfc6004581b963450385e16", func := "windrose/windroselaw09.TablePushes", spec := "tablePushes", unfollowed := true, recurses := true, apart := false, narrowed := true }
def TablePushesUptoSaid : Prop := tablePushesUptoRow.holds Try.pinned (OpenSpec.upto tablePushesSpec)

/-- 'windroselaw09.TableTells', WHERE WHAT IT READS IS OF BULK AT MOST 1048576: true; the input reads as it did. -/
def tableTellsUptoRow : OpenClaim := { program := "ytbcbknajhdaneaa", sum := "761f6c01636ff7d5733ca0cd0ed62213e22d2f1acbfc6004581b963450385e16", func := "windrose/windroselaw09.TableTells", spec := "tableTells", unfollowed := true, recurses := true, apart := false, narrowed := true }
def TableTellsUptoSaid : Prop := tableTellsUptoRow.holds Try.pinned (OpenSpec.upto tableTellsSpec)

/-- 'windroselaw09.TableStays', WHERE WHAT IT READS IS OF BULK AT MOST 1048576: true; the input reads as it did. -/
def tableStaysUptoRow : OpenClaim := { program := "ytbcbknajhdaneaa", sum := "761f6c01636ff7d5733ca0cd0ed62213e22d2f1acbfc6004581b963450385e16", func := "windrose/windroselaw09.TableStays", spec := "tableStays", unfollowed := true, recurses := true, apart := false, narrowed := true }
def TableStaysUptoSaid : Prop := tableStaysUptoRow.holds Try.pinned (OpenSpec.upto tableStaysSpec)

/-- 'windroselaw09.TableTurn', WHERE WHAT IT READS IS OF BULK AT MOST 1048576: true; the input reads as it did. -/
def tableTurnUptoRow : OpenClaim := { program := "ytbcbknajhdaneaa", sum := "761f6c01636ff7d5733ca0cd0ed62213e22d2f1acbfc6004581b963450385e16", func := "windrose/windroselaw09.TableTurn", spec := "tableTurn", unfollowed := true, recurses := true, apart := false, narrowed := true }
def TableTurnUptoSaid : Prop := tableTurnUptoRow.holds Try.pinned (OpenSpec.upto tableTurnSpec)

/-- 'windroselaw09.TableGoes', WHERE WHAT IT READS IS OF BULK AT MOST 1048576: true; the input reads as it did. -/
def tableGoesUptoRow : OpenClaim := { program := "ytbcbknajhdaneaa", sum := "761f6c01636ff7d5733ca0cd0ed62213e22d2f1acbfc6004581b963450385e16", func := "windrose/windroselaw09.TableGoes", spec := "tableGoes", unfollowed := true, recurses := true, apart := false, narrowed := true }
def TableGoesUptoSaid : Prop := tableGoesUptoRow.holds Try.pinned (OpenSpec.upto tableGoesSpec)

/-- 'windroselaw09.TableSets', WHERE WHAT IT READS IS OF BULK AT MOST 1048576: true; the input reads as it did. -/
def tableSetsUptoRow : OpenClaim := { program := "ytbcbknajhdaneaa", sum := "761f6c01636ff7d5733ca0cd0ed62213e22d2f1acbfc6004581b963450385e16", func := "windrose/windroselaw09.TableSets", spec := "tableSets", unfollowed := true, recurses := true, apart := false, narrowed := true }
def TableSetsUptoSaid : Prop := tableSetsUptoRow.holds Try.pinned (OpenSpec.upto tableSetsSpec)

/-- 'windroselaw09.TableMay', WHERE WHAT IT READS IS OF BULK AT MOST 1048576: true; the input reads as it did. -/
def tableMayUptoRow : OpenClaim := { program := "ytbcbknajhdaneaa", sum := "761f6c01636ff7d5733ca0cd0ed62213e22d2f1acbfc6004581b963450385e16", func := "windrose/windroselaw09.TableMay", spec := "tableMay", unfollowed := true, recurses := true, apart := false, narrowed := true }
def TableMayUptoSaid : Prop := tableMayUptoRow.holds Try.pinned (OpenSpec.upto tableMaySpec)

/-- 'windroselaw11.ShiftMoves', WHERE WHAT IT READS IS OF BULK AT MOST 1048576: true; the input reads as it did. -/
def shiftMovesUptoRow : OpenClaim := { program := "ytbcbknajhdaneaa", sum := "761f6c01636ff7d5733ca0cd0ed62213e22d2f1acbfc6004581b963450385e16", func := "windrose/windroselaw11.ShiftMoves", spec := "shiftMoves", unfollowed := true, recurses := true, apart := false, narrowed := true }
def ShiftMovesUptoSaid : Prop := shiftMovesUptoRow.holds Try.pinned (OpenSpec.upto shiftMovesSpec)

/-- 'windroselaw11.ShiftAll', WHERE WHAT IT READS IS OF BULK AT MOST 1048576: true; the input reads as it did. -/
def shiftAllUptoRow : OpenClaim := { program := "ytbcbknajhdaneaa", sum := "761f6c01636ff7d5733ca0cd0ed62213e22d2f1acbfc6004581b963450385e16", func := "windrose/windroselaw11.ShiftAll", spec := "shiftAll", unfollowed := true, recurses := true, apart := false, narrowed := true }
def ShiftAllUptoSaid : Prop := shiftAllUptoRow.holds Try.pinned (OpenSpec.upto shiftAllSpec)

/-- 'windroselaw11.ShiftBack', WHERE WHAT IT READS IS OF BULK AT MOST 1048576: true; the input reads as it did. -/
def shiftBackUptoRow : OpenClaim := { program := "ytbcbknajhdaneaa", sum := "761f6c01636ff7d5733ca0cd0ed62213e22d2f1acbfc6004581b963450385e16", func := "windrose/windroselaw11.ShiftBack", spec := "shiftBack", unfollowed := true, recurses := true, apart := false, narrowed := true }
def ShiftBackUptoSaid : Prop := shiftBackUptoRow.holds Try.pinned (OpenSpec.upto shiftBackSpec)

end Rows
end Go.Proofs.Ytbcbknajhdaneaa
