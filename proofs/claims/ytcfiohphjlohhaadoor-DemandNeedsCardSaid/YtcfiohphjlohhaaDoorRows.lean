/-
  NARROWER THAN 'FOR EVERY INPUT', by the rows' own cells (each row's printed sentence says how): AndersenSolve: laid · AndersenTells: laid · AndersenLeast: laid · AndersenOrder: laid · AndersenGrows: laid · DemandQuery: laid · DemandSlice: laid · DemandEqual: laid · DemandNeeds: laid.
  DERIVED. THE GIVEN ROWS OF THIS SEAT. 9 by the template 'for every input the law returns true; each argument reads behind the call as it read before'; 0 by the template 'total and deterministic' (their statements: YtcfiohphjlohhaaDoorTotals.lean).
  GIVEN WITH THE SEED: the statements are not yours to turn. If you find one false, say at which input.
  Laid BY PROGRAM, IN A SANDBOX (cutbox-rows.mjs): the forced cells as the released guide's own fill.sh prints them over the translation 96372abe5d934727… (all of the seat's roots in one cut). By AI agents, Wed Nov 11 2026. No macro, syntax, notation, axiom, sorry.
-/
import Derived.Test.YtcfiohphjlohhaaDoorChecked
import GoSem.Claim
import GoSem.ClaimJoined
import GoSem.ClaimMapViews
import Derived.JoinedTies
import Derived.KernelRfl
namespace Go.Proofs.YtcfiohphjlohhaaDoor
/- THE CELL 'sum', in the pinned program and in every row, IS THE sha256 OF THE DUMP (.gsa) THAT YtcfiohphjlohhaaDoorProg.lean LOADS. Nothing in Lean hashes anything: it is a label: what it is worth is what the hold of that sum in a sandbox is worth. -/
noncomputable def Tryd.pinned : Pinned := { name := "ytcfiohphjlohhaadoor", sum := "96372abe5d934727217133b48705c68058eb3322f4c0b08874a50f1b8cfd49a7", checked := Tryd.checked }
namespace Rows
def none {H : Type} : Left H := { results := [], args := [] }

/- WHAT THE LISTED PACKAGE-LEVEL VARIABLES READ AS WHEN THE CALL BEGINS. Each datum BY PROGRAM (the guide's laid-datum.mjs) off the statement by which the dump's own 'gosem.cut.vars' lays the variable. In a bare row this is a premise. The card (YtcfiohphjlohhaaDoorCards.lean) ties it to the program's text. -/
def laid_math_bits_deBruijn64tab {H : Type} : DataW H := .agg [.lit (.int .u8 0), .lit (.int .u8 1), .lit (.int .u8 56), .lit (.int .u8 2), .lit (.int .u8 57), .lit (.int .u8 49), .lit (.int .u8 28), .lit (.int .u8 3), .lit (.int .u8 61), .lit (.int .u8 58), .lit (.int .u8 42), .lit (.int .u8 50), .lit (.int .u8 38), .lit (.int .u8 29), .lit (.int .u8 17), .lit (.int .u8 4), .lit (.int .u8 62), .lit (.int .u8 47), .lit (.int .u8 59), .lit (.int .u8 36), .lit (.int .u8 45), .lit (.int .u8 43), .lit (.int .u8 51), .lit (.int .u8 22), .lit (.int .u8 53), .lit (.int .u8 39), .lit (.int .u8 33), .lit (.int .u8 30), .lit (.int .u8 24), .lit (.int .u8 18), .lit (.int .u8 12), .lit (.int .u8 5), .lit (.int .u8 63), .lit (.int .u8 55), .lit (.int .u8 48), .lit (.int .u8 27), .lit (.int .u8 60), .lit (.int .u8 41), .lit (.int .u8 37), .lit (.int .u8 16), .lit (.int .u8 46), .lit (.int .u8 35), .lit (.int .u8 44), .lit (.int .u8 21), .lit (.int .u8 52), .lit (.int .u8 32), .lit (.int .u8 23), .lit (.int .u8 11), .lit (.int .u8 54), .lit (.int .u8 26), .lit (.int .u8 40), .lit (.int .u8 15), .lit (.int .u8 34), .lit (.int .u8 20), .lit (.int .u8 31), .lit (.int .u8 10), .lit (.int .u8 25), .lit (.int .u8 14), .lit (.int .u8 19), .lit (.int .u8 9), .lit (.int .u8 13), .lit (.int .u8 8), .lit (.int .u8 7), .lit (.int .u8 6)]

/-- 'dataflowlaw18.AndersenSolve': WHATEVER THE INPUT: true; the input reads as it did. -/
def andersenSolveSpec : ChangeSpec := { name := "andersenSolve", fn := fun _ => fun
  | [d] => { results := [.lit (.bool true)], args := [d] }
  | _ => none }
def andersenSolveRow : OpenClaim := { program := "ytcfiohphjlohhaadoor", sum := "96372abe5d934727217133b48705c68058eb3322f4c0b08874a50f1b8cfd49a7", func := "dataflow/dataflowlaw18.AndersenSolve", spec := "andersenSolve", unfollowed := true, recurses := true, named := ["math/bits.deBruijn64tab"], apart := false, laid := [("math/bits.deBruijn64tab", laid_math_bits_deBruijn64tab)] }
def AndersenSolveSaid : Prop := andersenSolveRow.holds Tryd.pinned (OpenSpec.ofChange andersenSolveSpec)

/-- ITS FALSE NEIGHBOUR: 'it returns false'. Refute it at one input. -/
def andersenSolveWrong : ChangeSpec := { name := "andersenSolve", fn := fun _ => fun
  | [d] => { results := [.lit (.bool false)], args := [d] }
  | _ => none }
def AndersenSolveWrongFalsely : Prop := andersenSolveRow.holds Tryd.pinned (OpenSpec.ofChange andersenSolveWrong)

/-- 'dataflowlaw18.AndersenTells': WHATEVER THE INPUT: true; the input reads as it did. -/
def andersenTellsSpec : ChangeSpec := { name := "andersenTells", fn := fun _ => fun
  | [d1, d2, d3] => { results := [.lit (.bool true)], args := [d1, d2, d3] }
  | _ => none }
def andersenTellsRow : OpenClaim := { program := "ytcfiohphjlohhaadoor", sum := "96372abe5d934727217133b48705c68058eb3322f4c0b08874a50f1b8cfd49a7", func := "dataflow/dataflowlaw18.AndersenTells", spec := "andersenTells", unfollowed := true, recurses := true, named := ["math/bits.deBruijn64tab"], apart := false, laid := [("math/bits.deBruijn64tab", laid_math_bits_deBruijn64tab)] }
def AndersenTellsSaid : Prop := andersenTellsRow.holds Tryd.pinned (OpenSpec.ofChange andersenTellsSpec)

/-- ITS FALSE NEIGHBOUR: 'it returns false'. Refute it at one input. -/
def andersenTellsWrong : ChangeSpec := { name := "andersenTells", fn := fun _ => fun
  | [d1, d2, d3] => { results := [.lit (.bool false)], args := [d1, d2, d3] }
  | _ => none }
def AndersenTellsWrongFalsely : Prop := andersenTellsRow.holds Tryd.pinned (OpenSpec.ofChange andersenTellsWrong)

/-- 'dataflowlaw18.AndersenLeast': WHATEVER THE INPUT: true; the input reads as it did. -/
def andersenLeastSpec : ChangeSpec := { name := "andersenLeast", fn := fun _ => fun
  | [d1, d2] => { results := [.lit (.bool true)], args := [d1, d2] }
  | _ => none }
def andersenLeastRow : OpenClaim := { program := "ytcfiohphjlohhaadoor", sum := "96372abe5d934727217133b48705c68058eb3322f4c0b08874a50f1b8cfd49a7", func := "dataflow/dataflowlaw18.AndersenLeast", spec := "andersenLeast", unfollowed := true, recurses := true, named := ["math/bits.deBruijn64tab"], apart := false, laid := [("math/bits.deBruijn64tab", laid_math_bits_deBruijn64tab)] }
def AndersenLeastSaid : Prop := andersenLeastRow.holds Tryd.pinned (OpenSpec.ofChange andersenLeastSpec)

/-- ITS FALSE NEIGHBOUR: 'it returns false'. Refute it at one input. -/
def andersenLeastWrong : ChangeSpec := { name := "andersenLeast", fn := fun _ => fun
  | [d1, d2] => { results := [.lit (.bool false)], args := [d1, d2] }
  | _ => none }
def AndersenLeastWrongFalsely : Prop := andersenLeastRow.holds Tryd.pinned (OpenSpec.ofChange andersenLeastWrong)

/-- 'dataflowlaw18.AndersenOrder': WHATEVER THE INPUT: true; the input reads as it did. -/
def andersenOrderSpec : ChangeSpec := { name := "andersenOrder", fn := fun _ => fun
  | [d] => { results := [.lit (.bool true)], args := [d] }
  | _ => none }
def andersenOrderRow : OpenClaim := { program := "ytcfiohphjlohhaadoor", sum := "96372abe5d934727217133b48705c68058eb3322f4c0b08874a50f1b8cfd49a7", func := "dataflow/dataflowlaw18.AndersenOrder", spec := "andersenOrder", unfollowed := true, recurses := true, named := ["math/bits.deBruijn64tab"], apart := false, laid := [("math/bits.deBruijn64tab", laid_math_bits_deBruijn64tab)] }
def AndersenOrderSaid : Prop := andersenOrderRow.holds Tryd.pinned (OpenSpec.ofChange andersenOrderSpec)

/-- ITS FALSE NEIGHBOUR: 'it returns false'. Refute it at one input. -/
def andersenOrderWrong : ChangeSpec := { name := "andersenOrder", fn := fun _ => fun
  | [d] => { results := [.lit (.bool false)], args := [d] }
  | _ => none }
def AndersenOrderWrongFalsely : Prop := andersenOrderRow.holds Tryd.pinned (OpenSpec.ofChange andersenOrderWrong)

/-- 'dataflowlaw18.AndersenGrows': WHATEVER THE INPUT: true; the input reads as it did. -/
def andersenGrowsSpec : ChangeSpec := { name := "andersenGrows", fn := fun _ => fun
  | [d1, d2] => { results := [.lit (.bool true)], args := [d1, d2] }
  | _ => none }
def andersenGrowsRow : OpenClaim := { program := "ytcfiohphjlohhaadoor", sum := "96372abe5d934727217133b48705c68058eb3322f4c0b08874a50f1b8cfd49a7", func := "dataflow/dataflowlaw18.AndersenGrows", spec := "andersenGrows", unfollowed := true, recurses := true, named := ["math/bits.deBruijn64tab"], apart := false, laid := [("math/bits.deBruijn64tab", laid_math_bits_deBruijn64tab)] }
def AndersenGrowsSaid : Prop := andersenGrowsRow.holds Tryd.pinned (OpenSpec.ofChange andersenGrowsSpec)

/-- ITS FALSE NEIGHBOUR: 'it returns false'. Refute it at one input. -/
def andersenGrowsWrong : ChangeSpec := { name := "andersenGrows", fn := fun _ => fun
  | [d1, d2] => { results := [.lit (.bool false)], args := [d1, d2] }
  | _ => none }
def AndersenGrowsWrongFalsely : Prop := andersenGrowsRow.holds Tryd.pinned (OpenSpec.ofChange andersenGrowsWrong)

/-- 'dataflowlaw24.DemandQuery': WHATEVER THE INPUT: true; the input reads as it did. -/
def demandQuerySpec : ChangeSpec := { name := "demandQuery", fn := fun _ => fun
  | [d1, d2, d3] => { results := [.lit (.bool true)], args := [d1, d2, d3] }
  | _ => none }
def demandQueryRow : OpenClaim := { program := "ytcfiohphjlohhaadoor", sum := "96372abe5d934727217133b48705c68058eb3322f4c0b08874a50f1b8cfd49a7", func := "dataflow/dataflowlaw24.DemandQuery", spec := "demandQuery", unfollowed := true, recurses := true, named := ["math/bits.deBruijn64tab"], apart := false, laid := [("math/bits.deBruijn64tab", laid_math_bits_deBruijn64tab)] }
def DemandQuerySaid : Prop := demandQueryRow.holds Tryd.pinned (OpenSpec.ofChange demandQuerySpec)

/-- ITS FALSE NEIGHBOUR: 'it returns false'. Refute it at one input. -/
def demandQueryWrong : ChangeSpec := { name := "demandQuery", fn := fun _ => fun
  | [d1, d2, d3] => { results := [.lit (.bool false)], args := [d1, d2, d3] }
  | _ => none }
def DemandQueryWrongFalsely : Prop := demandQueryRow.holds Tryd.pinned (OpenSpec.ofChange demandQueryWrong)

/-- 'dataflowlaw24.DemandSlice': WHATEVER THE INPUT: true; the input reads as it did. -/
def demandSliceSpec : ChangeSpec := { name := "demandSlice", fn := fun _ => fun
  | [d1, d2] => { results := [.lit (.bool true)], args := [d1, d2] }
  | _ => none }
def demandSliceRow : OpenClaim := { program := "ytcfiohphjlohhaadoor", sum := "96372abe5d934727217133b48705c68058eb3322f4c0b08874a50f1b8cfd49a7", func := "dataflow/dataflowlaw24.DemandSlice", spec := "demandSlice", unfollowed := true, recurses := true, named := ["math/bits.deBruijn64tab"], apart := false, laid := [("math/bits.deBruijn64tab", laid_math_bits_deBruijn64tab)] }
def DemandSliceSaid : Prop := demandSliceRow.holds Tryd.pinned (OpenSpec.ofChange demandSliceSpec)

/-- ITS FALSE NEIGHBOUR: 'it returns false'. Refute it at one input. -/
def demandSliceWrong : ChangeSpec := { name := "demandSlice", fn := fun _ => fun
  | [d1, d2] => { results := [.lit (.bool false)], args := [d1, d2] }
  | _ => none }
def DemandSliceWrongFalsely : Prop := demandSliceRow.holds Tryd.pinned (OpenSpec.ofChange demandSliceWrong)

/-- 'dataflowlaw24.DemandEqual': WHATEVER THE INPUT: true; the input reads as it did. -/
def demandEqualSpec : ChangeSpec := { name := "demandEqual", fn := fun _ => fun
  | [d1, d2, d3] => { results := [.lit (.bool true)], args := [d1, d2, d3] }
  | _ => none }
def demandEqualRow : OpenClaim := { program := "ytcfiohphjlohhaadoor", sum := "96372abe5d934727217133b48705c68058eb3322f4c0b08874a50f1b8cfd49a7", func := "dataflow/dataflowlaw24.DemandEqual", spec := "demandEqual", unfollowed := true, recurses := true, named := ["math/bits.deBruijn64tab"], apart := false, laid := [("math/bits.deBruijn64tab", laid_math_bits_deBruijn64tab)] }
def DemandEqualSaid : Prop := demandEqualRow.holds Tryd.pinned (OpenSpec.ofChange demandEqualSpec)

/-- ITS FALSE NEIGHBOUR: 'it returns false'. Refute it at one input. -/
def demandEqualWrong : ChangeSpec := { name := "demandEqual", fn := fun _ => fun
  | [d1, d2, d3] => { results := [.lit (.bool false)], args := [d1, d2, d3] }
  | _ => none }
def DemandEqualWrongFalsely : Prop := demandEqualRow.holds Tryd.pinned (OpenSpec.ofChange demandEqualWrong)

/-- 'dataflowlaw24.DemandNeeds': WHATEVER THE INPUT: true; the input reads as it did. -/
def demandNeedsSpec : ChangeSpec := { name := "demandNeeds", fn := fun _ => fun
  | [d1, d2] => { results := [.lit (.bool true)], args := [d1, d2] }
  | _ => none }
def demandNeedsRow : OpenClaim := { program := "ytcfiohphjlohhaadoor", sum := "96372abe5d934727217133b48705c68058eb3322f4c0b08874a50f1b8cfd49a7", func := "dataflow/dataflowlaw24.DemandNeeds", spec := "demandNeeds", unfollowed := true, recurses := true, named := ["math/bits.deBruijn64tab"], apart := false, laid := [("math/bits.deBruijn64tab", laid_math_bits_deBruijn64tab)] }
def DemandNeedsSaid : Prop := demandNeedsRow.holds Tryd.pinned (OpenSpec.ofChange demandNeedsSpec)

/-- ITS FALSE NEIGHBOUR: 'it returns false'. Refute it at one input. -/
def demandNeedsWrong : ChangeSpec := { name := "demandNeeds", fn := fun _ => fun
  | [d1, d2] => { results := [.lit (.bool false)], args := [d1, d2] }
  | _ => none }
def DemandNeedsWrongFalsely : Prop := demandNeedsRow.holds Tryd.pinned (OpenSpec.ofChange demandNeedsWrong)

/- THE SECOND FORM. 'bulk': how many values and letters a reading holds, each counted each time it is reached (what is shared counts as often as it is met; a slice's spare places count too). A statement '..UptoSaid' is the law's where the arguments, and the package variables that the reading takes, are together of bulk at most 1048576: NARROWER than '..Said'. Prove '..Said' where nothing that the law and all that it calls make is longer than what came in: it says more and counts as full. Else prove '..UptoSaid'. A law counts once. -/
mutual
def uptoBulk {H : Type} : DataW H → Nat
  | .lit (.string bytes) => bytes.length + 1
  | .lit _ => 1
  | .nil => 1
  | .ptr d => uptoBulk d + 1
  | .slice elems spare => uptoBulkAll elems + uptoBulkAll spare + 1
  | .agg parts => uptoBulkAll parts + 1
  | .iface _ d => uptoBulk d + 1
  | .map entries => uptoBulkEntries entries + 1
  | .held _ => 1
def uptoBulkAll {H : Type} : List (DataW H) → Nat
  | [] => 0
  | d :: r => uptoBulk d + uptoBulkAll r
def uptoBulkEntries {H : Type} : List (Lit × DataW H) → Nat
  | [] => 0
  | x :: r => uptoBulkEntry x + uptoBulkEntries r
def uptoBulkEntry {H : Type} : Lit × DataW H → Nat
  | (.string bytes, d) => bytes.length + uptoBulk d + 1
  | (_, d) => uptoBulk d + 1
 end
def uptoSmall : (H : Type) → List (DataW H) → Bool := fun _ ds => decide (uptoBulkAll ds ≤ 1048576)
def OpenSpec.upto (s : _root_.Go.ChangeSpec) : _root_.Go.OpenSpec := { _root_.Go.OpenSpec.ofChange s with cond := some uptoSmall }

/-- 'dataflowlaw18.AndersenSolve', WHERE WHAT IT READS IS OF BULK AT MOST 1048576: true; the input reads as it did. -/
def andersenSolveUptoRow : OpenClaim := { program := "ytcfiohphjlohhaadoor", sum := "96372abe5d934727217133b48705c68058eb3322f4c0b08874a50f1b8cfd49a7", func := "dataflow/dataflowlaw18.AndersenSolve", spec := "andersenSolve", unfollowed := true, recurses := true, named := ["math/bits.deBruijn64tab"], apart := false, laid := [("math/bits.deBruijn64tab", laid_math_bits_deBruijn64tab)], narrowed := true }
def AndersenSolveUptoSaid : Prop := andersenSolveUptoRow.holds Tryd.pinned (OpenSpec.upto andersenSolveSpec)

/-- 'dataflowlaw18.AndersenTells', WHERE WHAT IT READS IS OF BULK AT MOST 1048576: true; the input reads as it did. -/
def andersenTellsUptoRow : OpenClaim := { program := "ytcfiohphjlohhaadoor", sum := "96372abe5d934727217133b48705c68058eb3322f4c0b08874a50f1b8cfd49a7", func := "dataflow/dataflowlaw18.AndersenTells", spec := "andersenTells", unfollowed := true, recurses := true, named := ["math/bits.deBruijn64tab"], apart := false, laid := [("math/bits.deBruijn64tab", laid_math_bits_deBruijn64tab)], narrowed := true }
def AndersenTellsUptoSaid : Prop := andersenTellsUptoRow.holds Tryd.pinned (OpenSpec.upto andersenTellsSpec)

/-- 'dataflowlaw18.AndersenLeast', WHERE WHAT IT READS IS OF BULK AT MOST 1048576: true; the input reads as it did. -/
def andersenLeastUptoRow : OpenClaim := { program := "ytcfiohphjlohhaadoor", sum := "96372abe5d934727217133b48705c68058eb3322f4c0b08874a50f1b8cfd49a7", func := "dataflow/dataflowlaw18.AndersenLeast", spec := "andersenLeast", unfollowed := true, recurses := true, named := ["math/bits.deBruijn64tab"], apart := false, laid := [("math/bits.deBruijn64tab", laid_math_bits_deBruijn64tab)], narrowed := true }
def AndersenLeastUptoSaid : Prop := andersenLeastUptoRow.holds Tryd.pinned (OpenSpec.upto andersenLeastSpec)

/-- 'dataflowlaw18.AndersenOrder', WHERE WHAT IT READS IS OF BULK AT MOST 1048576: true; the input reads as it did. -/
def andersenOrderUptoRow : OpenClaim := { program := "ytcfiohphjlohhaadoor", sum := "96372abe5d934727217133b48705c68058eb3322f4c0b08874a50f1b8cfd49a7", func := "dataflow/dataflowlaw18.AndersenOrder", spec := "andersenOrder", unfollowed := true, recurses := true, named := ["math/bits.deBruijn64tab"], apart := false, laid := [("math/bits.deBruijn64tab", laid_math_bits_deBruijn64tab)], narrowed := true }
def AndersenOrderUptoSaid : Prop := andersenOrderUptoRow.holds Tryd.pinned (OpenSpec.upto andersenOrderSpec)

/-- 'dataflowlaw18.AndersenGrows', WHERE WHAT IT READS IS OF BULK AT MOST 1048576: true; the input reads as it did. -/
def andersenGrowsUptoRow : OpenClaim := { program := "ytcfiohphjlohhaadoor", sum := "96372abe5d934727217133b48705c68058eb3322f4c0b08874a50f1b8cfd49a7", func := "dataflow/dataflowlaw18.AndersenGrows", spec := "andersenGrows", unfollowed := true, recurses := true, named := ["math/bits.deBruijn64tab"], apart := false, laid := [("math/bits.deBruijn64tab", laid_math_bits_deBruijn64tab)], narrowed := true }
def AndersenGrowsUptoSaid : Prop := andersenGrowsUptoRow.holds Tryd.pinned (OpenSpec.upto andersenGrowsSpec)

/-- 'dataflowlaw24.DemandQuery', WHERE WHAT IT READS IS OF BULK AT MOST 1048576: true; the input reads as it did. -/
def demandQueryUptoRow : OpenClaim := { program := "ytcfiohphjlohhaadoor", sum := "96372abe5d934727217133b48705c68058eb3322f4c0b08874a50f1b8cfd49a7", func := "dataflow/dataflowlaw24.DemandQuery", spec := "demandQuery", unfollowed := true, recurses := true, named := ["math/bits.deBruijn64tab"], apart := false, laid := [("math/bits.deBruijn64tab", laid_math_bits_deBruijn64tab)], narrowed := true }
def DemandQueryUptoSaid : Prop := demandQueryUptoRow.holds Tryd.pinned (OpenSpec.upto demandQuerySpec)

/-- 'dataflowlaw24.DemandSlice', WHERE WHAT IT READS IS OF BULK AT MOST 1048576: true; the input reads as it did. -/
def demandSliceUptoRow : OpenClaim := { program := "ytcfiohphjlohhaadoor", sum := "96372abe5d934727217133b48705c68058eb3322f4c0b08874a50f1b8cfd49a7", func := "dataflow/dataflowlaw24.DemandSlice", spec := "demandSlice", unfollowed := true, recurses := true, named := ["math/bits.deBruijn64tab"], apart := false, laid := [("math/bits.deBruijn64tab", laid_math_bits_deBruijn64tab)], narrowed := true }
def DemandSliceUptoSaid : Prop := demandSliceUptoRow.holds Tryd.pinned (OpenSpec.upto demandSliceSpec)

/-- 'dataflowlaw24.DemandEqual', WHERE WHAT IT READS IS OF BULK AT MOST 1048576: true; the input reads as it did. -/
def demandEqualUptoRow : OpenClaim := { program := "ytcfiohphjlohhaadoor", sum := "96372abe5d934727217133b48705c68058eb3322f4c0b08874a50f1b8cfd49a7", func := "dataflow/dataflowlaw24.DemandEqual", spec := "demandEqual", unfollowed := true, recurses := true, named := ["math/bits.deBruijn64tab"], apart := false, laid := [("math/bits.deBruijn64tab", laid_math_bits_deBruijn64tab)], narrowed := true }
def DemandEqualUptoSaid : Prop := demandEqualUptoRow.holds Tryd.pinned (OpenSpec.upto demandEqualSpec)

/-- 'dataflowlaw24.DemandNeeds', WHERE WHAT IT READS IS OF BULK AT MOST 1048576: true; the input reads as it did. -/
def demandNeedsUptoRow : OpenClaim := { program := "ytcfiohphjlohhaadoor", sum := "96372abe5d934727217133b48705c68058eb3322f4c0b08874a50f1b8cfd49a7", func := "dataflow/dataflowlaw24.DemandNeeds", spec := "demandNeeds", unfollowed := true, recurses := true, named := ["math/bits.deBruijn64tab"], apart := false, laid := [("math/bits.deBruijn64tab", laid_math_bits_deBruijn64tab)], narrowed := true }
def DemandNeedsUptoSaid : Prop := demandNeedsUptoRow.holds Tryd.pinned (OpenSpec.upto demandNeedsSpec)

end Rows
end Go.Proofs.YtcfiohphjlohhaaDoor
