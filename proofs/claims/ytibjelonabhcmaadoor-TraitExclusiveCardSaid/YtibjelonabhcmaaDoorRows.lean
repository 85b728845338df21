/-
  NARROWER THAN 'FOR EVERY INPUT', by the rows' own cells (each row's printed sentence says how): TraitMay: laid · TraitPolicies: laid · TraitGoes: laid · TraitTurn: laid · TraitExclusive: laid.
  DERIVED. THE GIVEN ROWS OF THIS SEAT. 5 by the template 'for every input the law returns true; each argument reads behind the call as it read before'; 0 by the template 'total and deterministic' (their statements: YtibjelonabhcmaaDoorTotals.lean).
  GIVEN WITH THE SEED: the statements are not yours to turn. If you find one false, say at which input.
  Laid BY PROGRAM, IN A SANDBOX (cutbox-rows.mjs): the forced cells as the released guide's own fill.sh prints them over the translation 67071eae7154d271… (all of the seat's roots in one cut). By AI agents, Wed Nov 11 2026. No macro, syntax, notation, axiom, sorry.
-/
import Derived.Test.YtibjelonabhcmaaDoorChecked
import GoSem.Claim
import GoSem.ClaimJoined
import GoSem.ClaimMapViews
import Derived.JoinedTies
import Derived.KernelRfl
namespace Go.Proofs.YtibjelonabhcmaaDoor
/- THE CELL 'sum', in the pinned program and in every row, IS THE sha256 OF THE DUMP (.gsa) THAT YtibjelonabhcmaaDoorProg.lean LOADS. Nothing in Lean hashes anything: it is a label: what it is worth is what the hold of that sum in a sandbox is worth. -/
noncomputable def Tryd.pinned : Pinned := { name := "ytibjelonabhcmaadoor", sum := "67071eae7154d2712650cedc303fdb486038f7f99cc89c3941b9ac24c5ec1bb0", checked := Tryd.checked }
namespace Rows
def none {H : Type} : Left H := { results := [], args := [] }

/- WHAT THE LISTED PACKAGE-LEVEL VARIABLES READ AS WHEN THE CALL BEGINS. Each datum BY PROGRAM (the guide's laid-datum.mjs) off the statement by which the dump's own 'gosem.cut.vars' lays the variable. In a bare row this is a premise. The card (YtibjelonabhcmaaDoorCards.lean) ties it to the program's text. -/
def laid_windrose_trait_first {H : Type} : DataW H := .agg [.agg [.lit (.int .i64 1), .agg [.lit (.bool true), .lit (.bool true), .lit (.int .i64 0), .lit (.int .i64 1), .lit (.int .i64 2)]], .agg [.lit (.int .i64 2), .agg [.lit (.bool true), .lit (.bool false), .lit (.int .i64 0), .lit (.int .i64 0), .lit (.int .i64 2)]]]

/-- 'windroselaw13.TraitMay': WHATEVER THE INPUT: true; the input reads as it did. -/
def traitMaySpec : ChangeSpec := { name := "traitMay", fn := fun _ => fun
  | [d] => { results := [.lit (.bool true)], args := [d] }
  | _ => none }
def traitMayRow : OpenClaim := { program := "ytibjelonabhcmaadoor", sum := "67071eae7154d2712650cedc303fdb486038f7f99cc89c3941b9ac24c5ec1bb0", func := "windrose/windroselaw13.TraitMay", spec := "traitMay", unfollowed := true, recurses := true, named := ["windrose/trait.first"], apart := false, laid := [("windrose/trait.first", laid_windrose_trait_first)] }
def TraitMaySaid : Prop := traitMayRow.holds Tryd.pinned (OpenSpec.ofChange traitMaySpec)

/-- ITS FALSE NEIGHBOUR: 'it returns false'. Refute it at one input. -/
def traitMayWrong : ChangeSpec := { name := "traitMay", fn := fun _ => fun
  | [d] => { results := [.lit (.bool false)], args := [d] }
  | _ => none }
def TraitMayWrongFalsely : Prop := traitMayRow.holds Tryd.pinned (OpenSpec.ofChange traitMayWrong)

/-- 'windroselaw13.TraitPolicies': WHATEVER THE INPUT: true; the input reads as it did. -/
def traitPoliciesSpec : ChangeSpec := { name := "traitPolicies", fn := fun _ => fun
  | [d1, d2, d3] => { results := [.lit (.bool true)], args := [d1, d2, d3] }
  | _ => none }
def traitPoliciesRow : OpenClaim := { program := "ytibjelonabhcmaadoor", sum := "67071eae7154d2712650cedc303fdb486038f7f99cc89c3941b9ac24c5ec1bb0", func := "windrose/windroselaw13.TraitPolicies", spec := "traitPolicies", unfollowed := true, recurses := true, named := ["windrose/trait.first"], apart := false, laid := [("windrose/trait.first", laid_windrose_trait_first)] }
def TraitPoliciesSaid : Prop := traitPoliciesRow.holds Tryd.pinned (OpenSpec.ofChange traitPoliciesSpec)

/-- ITS FALSE NEIGHBOUR: 'it returns false'. Refute it at one input. -/
def traitPoliciesWrong : ChangeSpec := { name := "traitPolicies", fn := fun _ => fun
  | [d1, d2, d3] => { results := [.lit (.bool false)], args := [d1, d2, d3] }
  | _ => none }
def TraitPoliciesWrongFalsely : Prop := traitPoliciesRow.holds Tryd.pinned (OpenSpec.ofChange traitPoliciesWrong)

/-- 'windroselaw13.TraitGoes': WHATEVER THE INPUT: true; the input reads as it did. -/
def traitGoesSpec : ChangeSpec := { name := "traitGoes", fn := fun _ => fun
  | [d1, d2, d3] => { results := [.lit (.bool true)], args := [d1, d2, d3] }
  | _ => none }
def traitGoesRow : OpenClaim := { program := "ytibjelonabhcmaadoor", sum := "67071eae7154d2712650cedc303fdb486038f7f99cc89c3941b9ac24c5ec1bb0", func := "windrose/windroselaw13.TraitGoes", spec := "traitGoes", unfollowed := true, recurses := true, named := ["windrose/trait.first"], apart := false, laid := [("windrose/trait.first", laid_windrose_trait_first)] }
def TraitGoesSaid : Prop := traitGoesRow.holds Tryd.pinned (OpenSpec.ofChange traitGoesSpec)

/-- ITS FALSE NEIGHBOUR: 'it returns false'. Refute it at one input. -/
def traitGoesWrong : ChangeSpec := { name := "traitGoes", fn := fun _ => fun
  | [d1, d2, d3] => { results := [.lit (.bool false)], args := [d1, d2, d3] }
  | _ => none }
def TraitGoesWrongFalsely : Prop := traitGoesRow.holds Tryd.pinned (OpenSpec.ofChange traitGoesWrong)

/-- 'windroselaw13.TraitTurn': WHATEVER THE INPUT: true; the input reads as it did. -/
def traitTurnSpec : ChangeSpec := { name := "traitTurn", fn := fun _ => fun
  | [d1, d2] => { results := [.lit (.bool true)], args := [d1, d2] }
  | _ => none }
def traitTurnRow : OpenClaim := { program := "ytibjelonabhcmaadoor", sum := "67071eae7154d2712650cedc303fdb486038f7f99cc89c3941b9ac24c5ec1bb0", func := "windrose/windroselaw13.TraitTurn", spec := "traitTurn", unfollowed := true, recurses := true, named := ["windrose/trait.first"], apart := false, laid := [("windrose/trait.first", laid_windrose_trait_first)] }
def TraitTurnSaid : Prop := traitTurnRow.holds Tryd.pinned (OpenSpec.ofChange traitTurnSpec)

/-- ITS FALSE NEIGHBOUR: 'it returns false'. Refute it at one input. -/
def traitTurnWrong : ChangeSpec := { name := "traitTurn", fn := fun _ => fun
  | [d1, d2] => { results := [.lit (.bool false)], args := [d1, d2] }
  | _ => none }
def TraitTurnWrongFalsely : Prop := traitTurnRow.holds Tryd.pinned (OpenSpec.ofChange traitTurnWrong)

/-- 'windroselaw13.TraitExclusive': WHATEVER THE INPUT: true; the input reads as it did. -/
def traitExclusiveSpec : ChangeSpec := { name := "traitExclusive", fn := fun _ => fun
  | [d1, d2, d3] => { results := [.lit (.bool true)], args := [d1, d2, d3] }
  | _ => none }
def traitExclusiveRow : OpenClaim := { program := "ytibjelonabhcmaadoor", sum := "67071eae7154d2712650cedc303fdb486038f7f99cc89c3941b9ac24c5ec1bb0", func := "windrose/windroselaw13.TraitExclusive", spec := "traitExclusive", unfollowed := true, recurses := true, named := ["windrose/trait.first"], apart := false, laid := [("windrose/trait.first", laid_windrose_trait_first)] }
def TraitExclusiveSaid : Prop := traitExclusiveRow.holds Tryd.pinned (OpenSpec.ofChange traitExclusiveSpec)

/-- ITS FALSE NEIGHBOUR: 'it returns false'. Refute it at one input. -/
def traitExclusiveWrong : ChangeSpec := { name := "traitExclusive", fn := fun _ => fun
  | [d1, d2, d3] => { results := [.lit (.bool false)], args := [d1, d2, d3] }
  | _ => none }
def TraitExclusiveWrongFalsely : Prop := traitExclusiveRow.holds Tryd.pinned (OpenSpec.ofChange traitExclusiveWrong)

/- THE SECOND FORM. 'bulk': how many values and letters a reading holds, each counted each time it is reached (what is shared counts as often as it is met; a slice's spare places count too). A statement '..UptoSaid' is the law's where the arguments, and the package variables that the reading takes, are together of bulk at most 1048576: NARROWER than '..Said'. Prove '..Said' where nothing that the law and all that it calls make is longer than what came in: it says more and counts as full. Else prove '..UptoSaid'. A law counts once. -/
mutual
def uptoBulk {H : Type} : DataW H → Nat
  | .lit (.string bytes) => bytes.length + 1
  | .lit _ => 1
  | .nil => 1
  | .ptr d => uptoBulk d + 1
  | .slice elems spare => uptoBulkAll elems + uptoBulkAll spare + 1
  | .agg parts => uptoBulkAll parts + 1
  | .iface _ d => uptoBulk d + 1
  | .map entries => uptoBulkEntries entries + 1
  | .held _ => 1
def uptoBulkAll {H : Type} : List (DataW H) → Nat
  | [] => 0
  | d :: r => uptoBulk d + uptoBulkAll r
def uptoBulkEntries {H : Type} : List (Lit × DataW H) → Nat
  | [] => 0
  | x :: r => uptoBulkEntry x + uptoBulkEntries r
def uptoBulkEntry {H : Type} : Lit × DataW H → Nat
  | (.string bytes, d) => bytes.length + uptoBulk d + 1
  | (_, d) => uptoBulk d + 1
 end
def uptoSmall : (H : Type) → List (DataW H) → Bool := fun _ ds => decide (uptoBulkAll ds ≤ 1048576)
def OpenSpec.upto (s : _root_.Go.ChangeSpec) : _root_.Go.OpenSpec := { _root_.Go.OpenSpec.ofChange s with cond := some uptoSmall }

/-- 'windroselaw13.TraitMay', WHERE WHAT IT READS IS OF BULK AT MOST 1048576: true; the input reads as it did. -/
def traitMayUptoRow : OpenClaim := { program := "ytibjelonabhcmaadoor", sum := "67071eae7154d2712650cedc303fdb486038f7f99cc89c3941b9ac24c5ec1bb0", func := "windrose/windroselaw13.TraitMay", spec := "traitMay", unfollowed := true, recurses := true, named := ["windrose/trait.first"], apart := false, laid := [("windrose/trait.first", laid_windrose_trait_first)], narrowed := true }
def TraitMayUptoSaid : Prop := traitMayUptoRow.holds Tryd.pinned (OpenSpec.upto traitMaySpec)

/-- 'windroselaw13.TraitPolicies', WHERE WHAT IT READS IS OF BULK AT MOST 1048576: true; the input reads as it did. -/
def traitPoliciesUptoRow : OpenClaim := { program := "ytibjelonabhcmaadoor", sum := "67071eae7154d2712650cedc303fdb486038f7f99cc89c3941b9ac24c5ec1bb0", func := "windrose/windroselaw13.TraitPolicies", spec := "traitPolicies", unfollowed := true, recurses := true, named := ["windrose/trait.first"], apart := false, laid := [("windrose/trait.first", laid_windrose_trait_first)], narrowed := true }
def TraitPoliciesUptoSaid : Prop := traitPoliciesUptoRow.holds Tryd.pinned (OpenSpec.upto traitPoliciesSpec)

/-- 'windroselaw13.TraitGoes', WHERE WHAT IT READS IS OF BULK AT MOST 1048576: true; the input reads as it did. -/
def traitGoesUptoRow : OpenClaim := { program := "ytibjelonabhcmaadoor", sum := "67071eae7154d2712650cedc303fdb486038f7f99cc89c3941b9ac24c5ec1bb0", func := "windrose/windroselaw13.TraitGoes", spec := "traitGoes", unfollowed := true, recurses := true, named := ["windrose/trait.first"], apart := false, laid := [("windrose/trait.first", laid_windrose_trait_first)], narrowed := true }
def TraitGoesUptoSaid : Prop := traitGoesUptoRow.holds Tryd.pinned (OpenSpec.upto traitGoesSpec)

/-- 'windroselaw13.TraitTurn', WHERE WHAT IT READS IS OF BULK AT MOST 1048576: true; the input reads as it did. -/
def traitTurnUptoRow : OpenClaim := { program := "ytibjelonabhcmaadoor", sum := "67071eae7154d2712650cedc303fdb486038f7f99cc89c3941b9ac24c5ec1bb0", func := "windrose/windroselaw13.TraitTurn", spec := "traitTurn", unfollowed := true, recurses := true, named := ["windrose/trait.first"], apart := false, laid := [("windrose/trait.first", laid_windrose_trait_first)], narrowed := true }
def TraitTurnUptoSaid : Prop := traitTurnUptoRow.holds Tryd.pinned (OpenSpec.upto traitTurnSpec)

/-- 'windroselaw13.TraitExclusive', WHERE WHAT IT READS IS OF BULK AT MOST 1048576: true; the input reads as it did. -/
def traitExclusiveUptoRow : OpenClaim := { program := "ytibjelonabhcmaadoor", sum := "67071eae7154d2712650cedc303fdb486038f7f99cc89c3941b9ac24c5ec1bb0", func := "windrose/windroselaw13.TraitExclusive", spec := "traitExclusive", unfollowed := true, recurses := true, named := ["windrose/trait.first"], apart := false, laid := [("windrose/trait.first", laid_windrose_trait_first)], narrowed := true }
def TraitExclusiveUptoSaid : Prop := traitExclusiveUptoRow.holds Tryd.pinned (OpenSpec.upto traitExclusiveSpec)

end Rows
end Go.Proofs.YtibjelonabhcmaaDoor
