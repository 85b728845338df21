/-
  No cell of these rows narrows 'for every input' (looked for: loops, veiled, ifaces, maps, wideKeys, modest, calm, conditions, laid).
  DERIVED. THE GIVEN ROWS OF THIS SEAT. 5 by the template 'for every input the law returns true; each argument reads behind the call as it read before'; 0 by the template 'total and deterministic' (their statements: YtkhkjenmajenjaaTotals.lean).
  GIVEN WITH THE SEED: the statements are not yours to turn. If you find one false, say at which input.
  Laid BY PROGRAM, IN A SANDBOX (cutbox-rows.mjs): the forced cells as the released guide's own fill.sh prints them over the translation 34fa4cc4bd3d75f2… (all of the seat's roots in one cut). By AI agents, Wed Nov 11 2026. No macro, syntax, notation, axiom, sorry.
-/
import Derived.Test.YtkhkjenmajenjaaChecked
import GoSem.Claim
import GoSem.ClaimJoined
import GoSem.ClaimMapViews
import Derived.JoinedTies
import Derived.KernelRfl
namespace Go.Proofs.Ytkhkjenmajenjaa
/- THE CELL 'sum', in the pinned program and in every row, IS THE sha256 OF THE DUMP (.gsa) THAT YtkhkjenmajenjaaProg.lean LOADS. Nothing in Lean hashes anything: it is a label: what it is worth is what the hold of that sum in a sandbox is worth. -/
noncomputable def Try.pinned : Pinned := { name := "ytkhkjenmajenjaa", sum := "34fa4cc4bd3d75f29412865d953c03b41dc224d5ad6c1b6638508cf2b6b94dbd", checked := Try.checked }
namespace Rows
def none {H : Type} : Left H := { results := [], args := [] }

/-- 'windroselaw05.RealOne': WHATEVER THE INPUT: true; the input reads as it did. -/
def realOneSpec : ChangeSpec := { name := "realOne", fn := fun _ => fun
  | [d1, d2, d3] => { results := [.lit (.bool true)], args := [d1, d2, d3] }
  | _ => none }
def realOneRow : OpenClaim := { program := "ytkhkjenmajenjaa", sum := "34fa4cc4bd3d75f29412865d953c03b41dc224d5ad6c1b6638508cf2b6b94dbd", func := "windrose/windroselaw05.RealOne", spec := "realOne", inPlace := ["math.Float64frombits", "math.Float64bits"], unfollowed := true, recurses := true, apart := false }
def RealOneSaid : Prop := realOneRow.holds Try.pinned (OpenSpec.ofChange realOneSpec)

/-- ITS FALSE NEIGHBOUR: 'it returns false'. Refute it at one input. -/
def realOneWrong : ChangeSpec := { name := "realOne", fn := fun _ => fun
  | [d1, d2, d3] => { results := [.lit (.bool false)], args := [d1, d2, d3] }
  | _ => none }
def RealOneWrongFalsely : Prop := realOneRow.holds Try.pinned (OpenSpec.ofChange realOneWrong)

/-- 'windroselaw05.RealNext': WHATEVER THE INPUT: true; the input reads as it did. -/
def realNextSpec : ChangeSpec := { name := "realNext", fn := fun _ => fun
  | [d1, d2] => { results := [.lit (.bool true)], args := [d1, d2] }
  | _ => none }
def realNextRow : OpenClaim := { program := "ytkhkjenmajenjaa", sum := "34fa4cc4bd3d75f29412865d953c03b41dc224d5ad6c1b6638508cf2b6b94dbd", func := "windrose/windroselaw05.RealNext", spec := "realNext", inPlace := ["math.Float64frombits", "math.Float64bits"], unfollowed := true, recurses := true, apart := false }
def RealNextSaid : Prop := realNextRow.holds Try.pinned (OpenSpec.ofChange realNextSpec)

/-- ITS FALSE NEIGHBOUR: 'it returns false'. Refute it at one input. -/
def realNextWrong : ChangeSpec := { name := "realNext", fn := fun _ => fun
  | [d1, d2] => { results := [.lit (.bool false)], args := [d1, d2] }
  | _ => none }
def RealNextWrongFalsely : Prop := realNextRow.holds Try.pinned (OpenSpec.ofChange realNextWrong)

/-- 'windroselaw05.RealTests': WHATEVER THE INPUT: true; the input reads as it did. -/
def realTestsSpec : ChangeSpec := { name := "realTests", fn := fun _ => fun
  | [d1, d2] => { results := [.lit (.bool true)], args := [d1, d2] }
  | _ => none }
def realTestsRow : OpenClaim := { program := "ytkhkjenmajenjaa", sum := "34fa4cc4bd3d75f29412865d953c03b41dc224d5ad6c1b6638508cf2b6b94dbd", func := "windrose/windroselaw05.RealTests", spec := "realTests", inPlace := ["math.Float64frombits", "math.Float64bits"], unfollowed := true, recurses := true, apart := false }
def RealTestsSaid : Prop := realTestsRow.holds Try.pinned (OpenSpec.ofChange realTestsSpec)

/-- ITS FALSE NEIGHBOUR: 'it returns false'. Refute it at one input. -/
def realTestsWrong : ChangeSpec := { name := "realTests", fn := fun _ => fun
  | [d1, d2] => { results := [.lit (.bool false)], args := [d1, d2] }
  | _ => none }
def RealTestsWrongFalsely : Prop := realTestsRow.holds Try.pinned (OpenSpec.ofChange realTestsWrong)

/-- 'windroselaw05.RealTells': WHATEVER THE INPUT: true; the input reads as it did. -/
def realTellsSpec : ChangeSpec := { name := "realTells", fn := fun _ => fun
  | [d1, d2] => { results := [.lit (.bool true)], args := [d1, d2] }
  | _ => none }
def realTellsRow : OpenClaim := { program := "ytkhkjenmajenjaa", sum := "34fa4cc4bd3d75f29412865d953c03b41dc224d5ad6c1b6638508cf2b6b94dbd", func := "windrose/windroselaw05.RealTells", spec := "realTells", inPlace := ["math.Float64frombits", "math.Float64bits"], unfollowed := true, recurses := true, apart := false }
def RealTellsSaid : Prop := realTellsRow.holds Try.pinned (OpenSpec.ofChange realTellsSpec)

/-- ITS FALSE NEIGHBOUR: 'it returns false'. Refute it at one input. -/
def realTellsWrong : ChangeSpec := { name := "realTells", fn := fun _ => fun
  | [d1, d2] => { results := [.lit (.bool false)], args := [d1, d2] }
  | _ => none }
def RealTellsWrongFalsely : Prop := realTellsRow.holds Try.pinned (OpenSpec.ofChange realTellsWrong)

/-- 'windroselaw05.RealSums': WHATEVER THE INPUT: true; the input reads as it did. -/
def realSumsSpec : ChangeSpec := { name := "realSums", fn := fun _ => fun
  | [d1, d2] => { results := [.lit (.bool true)], args := [d1, d2] }
  | _ => none }
def realSumsRow : OpenClaim := { program := "ytkhkjenmajenjaa", sum := "34fa4cc4bd3d75f29412865d953c03b41dc224d5ad6c1b6638508cf2b6b94dbd", func := "windrose/windroselaw05.RealSums", spec := "realSums", inPlace := ["math.Float64frombits", "math.Float64bits"], unfollowed := true, recurses := true, apart := false }
def RealSumsSaid : Prop := realSumsRow.holds Try.pinned (OpenSpec.ofChange realSumsSpec)

/-- ITS FALSE NEIGHBOUR: 'it returns false'. Refute it at one input. -/
def realSumsWrong : ChangeSpec := { name := "realSums", fn := fun _ => fun
  | [d1, d2] => { results := [.lit (.bool false)], args := [d1, d2] }
  | _ => none }
def RealSumsWrongFalsely : Prop := realSumsRow.holds Try.pinned (OpenSpec.ofChange realSumsWrong)

/- THE SECOND FORM. 'bulk': how many values and letters a reading holds, each counted each time it is reached (what is shared counts as often as it is met; a slice's spare places count too). A statement '..UptoSaid' is the law's where the arguments, and the package variables that the reading takes, are together of bulk at most 1048576: NARROWER than '..Said'. Prove '..Said' where nothing that the law and all that it calls make is longer than what came in: it says more and counts as full. Else prove '..UptoSaid'. A law counts once. -/
mutual
def uptoBulk {H : Type} : DataW H → Nat
  | .lit (.string bytes) => bytes.length + 1
  | .lit _ => 1
  | .nil => 1
  | .ptr d => uptoBulk d + 1
  | .slice elems spare => uptoBulkAll elems + uptoBulkAll spare + 1
  | .agg parts => uptoBulkAll parts + 1
  | .iface _ d => uptoBulk d + 1
  | .map entries => uptoBulkEntries entries + 1
  | .held _ => 1
def uptoBulkAll {H : Type} : List (DataW H) → Nat
  | [] => 0
  | d :: r => uptoBulk d + uptoBulkAll r
def uptoBulkEntries {H : Type} : List (Lit × DataW H) → Nat
  | [] => 0
  | x :: r => uptoBulkEntry x + uptoBulkEntries r
def uptoBulkEntry {H : Type} : Lit × DataW H → Nat
  | (.string bytes, d) => bytes.length + uptoBulk d + 1
  | (_, d) => uptoBulk d + 1
 end
def uptoSmall : (H : Type) → List (DataW H) → Bool := fun _ ds => decide (uptoBulkAll ds ≤ 1048576)
def OpenSpec.upto (s : _root_.Go.ChangeSpec) : _root_.Go.OpenSpec := { _root_.Go.OpenSpec.ofChange s with cond := some uptoSmall }

/-- 'windroselaw05.RealOne', WHERE WHAT IT READS IS OF BULK AT MOST 1048576: true; the input reads as it did. -/
def realOneUptoRow : OpenClaim := { program := "ytkhkjenmajenjaa", sum := "34fa4cc4bd3d75f29412865d953c03b41dc224d5ad6c1b6638508cf2b6b94dbd", func := "windrose/windroselaw05.RealOne", spec := "realOne", inPlace := ["math.Float64frombits", "math.Float64bits"], unfollowed := true, recurses := true, apart := false, narrowed := true }
def RealOneUptoSaid : Prop := realOneUptoRow.holds Try.pinned (OpenSpec.upto realOneSpec)

/-- 'windroselaw05.RealNext', WHERE WHAT IT READS IS OF BULK AT MOST 1048576: true; the input reads as it did. -/
def realNextUptoRow : OpenClaim := { program := "ytkhkjenmajenjaa", sum := "34fa4cc4bd3d75f29412865d953c03b41dc224d5ad6c1b6638508cf2b6b94dbd", func := "windrose/windroselaw05.RealNext", spec := "realNext", inPlace := ["math.Float64frombits", "math.Float64bits"], unfollowed := true, recurses := true, apart := false, narrowed := true }
def RealNextUptoSaid : Prop := realNextUptoRow.holds Try.pinned (OpenSpec.upto realNextSpec)

/-- 'windroselaw05.RealTests', WHERE WHAT IT READS IS OF BULK AT MOST 1048576: true; the input reads as it did. -/
def realTestsUptoRow : OpenClaim := { program := "ytkhkjenmajenjaa", sum := "34fa4cc4bd3d75f29412865d953c03b41dc224d5ad6c1b6638508cf2b6b94dbd", func := "windrose/windroselaw05.RealTests", spec := "realTests", inPlace := ["math.Float64frombits", "math.Float64bits"], unfollowed := true, recurses := true, apart := false, narrowed := true }
def RealTestsUptoSaid : Prop := realTestsUptoRow.holds Try.pinned (OpenSpec.upto realTestsSpec)

/-- 'windroselaw05.RealTells', WHERE WHAT IT READS IS OF BULK AT MOST 1048576: true; the input reads as it did. -/
def realTellsUptoRow : OpenClaim := { program := "ytkhkjenmajenjaa", sum := "34fa4cc4bd3d75f29412865d953c03b41dc224d5ad6c1b6638508cf2b6b94dbd", func := "windrose/windroselaw05.RealTells", spec := "realTells", inPlace := ["math.Float64frombits", "math.Float64bits"], unfollowed := true, recurses := true, apart := false, narrowed := true }
def RealTellsUptoSaid : Prop := realTellsUptoRow.holds Try.pinned (OpenSpec.upto realTellsSpec)

/-- 'windroselaw05.RealSums', WHERE WHAT IT READS IS OF BULK AT MOST 1048576: true; the input reads as it did. -/
def realSumsUptoRow : OpenClaim := { program := "ytkhkjenmajenjaa", sum := "34fa4cc4bd3d75f29412865d953c03b41dc224d5ad6c1b6638508cf2b6b94dbd", func := "windrose/windroselaw05.RealSums", spec := "realSums", inPlace := ["math.Float64frombits", "math.Float64bits"], unfollowed := true, recurses := true, apart := false, narrowed := true }
def RealSumsUptoSaid : Prop := realSumsUptoRow.holds Try.pinned (OpenSpec.upto realSumsSpec)

end Rows
end Go.Proofs.Ytkhkjenmajenjaa
