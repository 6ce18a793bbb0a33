/-
  DERIVED. GIVEN WITH THE SEED: THE CARDS: each row of YtcfiohphjlohhaaDoorRows.lean that lists a variable, with what it lists TIED to the program's text (the seventh form; the later family's looks); each row that meets fmt, with fmt's text TOLD by the authors' own Lean function (tested against real Go, not proved from fmt's source: count such statements apart). THE CARD IS WHAT COUNTS. Prove the row's statement (the work); the ties are given (YtcfiohphjlohhaaDoorTie.lean); close each card by the builder's one call (the guide's Derived/Test/ToyasCard.lean, 'card_holds'). Laid BY PROGRAM, IN A SANDBOX (cutbox-door.mjs). By AI agents, Wed Nov 11 2026. No macro, syntax, notation, axiom, sorry.
-/
import Derived.Test.YtcfiohphjlohhaaDoorRows
import GoSem.ClaimSeven
namespace Go.Proofs.YtcfiohphjlohhaaDoor
namespace Rows

/-- THE TIED CARD OF 'dataflowlaw18.AndersenSolve'. -/
def andersenSolveCard : Claim7 := { stood := { row := andersenSolveRow, standIns := [], harness := (true, "84252574bc15657c8efc48afe25d821ae64db79ce414581eb6d72191001b3ad9"), looks := false }, kinds := [], alts := [], laidByText := true, laidKinds := [.data], laidTests := true, laidLooks := .later }
def AndersenSolveCardSaid : Prop := Claim7.holds Tryd.pinned (.plain (OpenSpec.ofChange andersenSolveSpec)) andersenSolveCard

/-- THE TIED CARD OF 'dataflowlaw18.AndersenTells'. -/
def andersenTellsCard : Claim7 := { stood := { row := andersenTellsRow, standIns := [], harness := (true, "84252574bc15657c8efc48afe25d821ae64db79ce414581eb6d72191001b3ad9"), looks := false }, kinds := [], alts := [], laidByText := true, laidKinds := [.data], laidTests := true, laidLooks := .later }
def AndersenTellsCardSaid : Prop := Claim7.holds Tryd.pinned (.plain (OpenSpec.ofChange andersenTellsSpec)) andersenTellsCard

/-- THE TIED CARD OF 'dataflowlaw18.AndersenLeast'. -/
def andersenLeastCard : Claim7 := { stood := { row := andersenLeastRow, standIns := [], harness := (true, "84252574bc15657c8efc48afe25d821ae64db79ce414581eb6d72191001b3ad9"), looks := false }, kinds := [], alts := [], laidByText := true, laidKinds := [.data], laidTests := true, laidLooks := .later }
def AndersenLeastCardSaid : Prop := Claim7.holds Tryd.pinned (.plain (OpenSpec.ofChange andersenLeastSpec)) andersenLeastCard

/-- THE TIED CARD OF 'dataflowlaw18.AndersenOrder'. -/
def andersenOrderCard : Claim7 := { stood := { row := andersenOrderRow, standIns := [], harness := (true, "84252574bc15657c8efc48afe25d821ae64db79ce414581eb6d72191001b3ad9"), looks := false }, kinds := [], alts := [], laidByText := true, laidKinds := [.data], laidTests := true, laidLooks := .later }
def AndersenOrderCardSaid : Prop := Claim7.holds Tryd.pinned (.plain (OpenSpec.ofChange andersenOrderSpec)) andersenOrderCard

/-- THE TIED CARD OF 'dataflowlaw18.AndersenGrows'. -/
def andersenGrowsCard : Claim7 := { stood := { row := andersenGrowsRow, standIns := [], harness := (true, "84252574bc15657c8efc48afe25d821ae64db79ce414581eb6d72191001b3ad9"), looks := false }, kinds := [], alts := [], laidByText := true, laidKinds := [.data], laidTests := true, laidLooks := .later }
def AndersenGrowsCardSaid : Prop := Claim7.holds Tryd.pinned (.plain (OpenSpec.ofChange andersenGrowsSpec)) andersenGrowsCard

/-- THE TIED CARD OF 'dataflowlaw24.DemandQuery'. -/
def demandQueryCard : Claim7 := { stood := { row := demandQueryRow, standIns := [], harness := (true, "84252574bc15657c8efc48afe25d821ae64db79ce414581eb6d72191001b3ad9"), looks := false }, kinds := [], alts := [], laidByText := true, laidKinds := [.data], laidTests := true, laidLooks := .later }
def DemandQueryCardSaid : Prop := Claim7.holds Tryd.pinned (.plain (OpenSpec.ofChange demandQuerySpec)) demandQueryCard

/-- THE TIED CARD OF 'dataflowlaw24.DemandSlice'. -/
def demandSliceCard : Claim7 := { stood := { row := demandSliceRow, standIns := [], harness := (true, "84252574bc15657c8efc48afe25d821ae64db79ce414581eb6d72191001b3ad9"), looks := false }, kinds := [], alts := [], laidByText := true, laidKinds := [.data], laidTests := true, laidLooks := .later }
def DemandSliceCardSaid : Prop := Claim7.holds Tryd.pinned (.plain (OpenSpec.ofChange demandSliceSpec)) demandSliceCard

/-- THE TIED CARD OF 'dataflowlaw24.DemandEqual'. -/
def demandEqualCard : Claim7 := { stood := { row := demandEqualRow, standIns := [], harness := (true, "84252574bc15657c8efc48afe25d821ae64db79ce414581eb6d72191001b3ad9"), looks := false }, kinds := [], alts := [], laidByText := true, laidKinds := [.data], laidTests := true, laidLooks := .later }
def DemandEqualCardSaid : Prop := Claim7.holds Tryd.pinned (.plain (OpenSpec.ofChange demandEqualSpec)) demandEqualCard

/-- THE TIED CARD OF 'dataflowlaw24.DemandNeeds'. -/
def demandNeedsCard : Claim7 := { stood := { row := demandNeedsRow, standIns := [], harness := (true, "84252574bc15657c8efc48afe25d821ae64db79ce414581eb6d72191001b3ad9"), looks := false }, kinds := [], alts := [], laidByText := true, laidKinds := [.data], laidTests := true, laidLooks := .later }
def DemandNeedsCardSaid : Prop := Claim7.holds Tryd.pinned (.plain (OpenSpec.ofChange demandNeedsSpec)) demandNeedsCard

/-- THE SECOND FORM's CARD OF 'dataflowlaw18.AndersenSolve'. -/
def andersenSolveUptoCard : Claim7 := { stood := { row := andersenSolveUptoRow, standIns := [], harness := (true, "84252574bc15657c8efc48afe25d821ae64db79ce414581eb6d72191001b3ad9"), looks := false }, kinds := [], alts := [], laidByText := true, laidKinds := [.data], laidTests := true, laidLooks := .later }
def AndersenSolveUptoCardSaid : Prop := Claim7.holds Tryd.pinned (.plain (OpenSpec.upto andersenSolveSpec)) andersenSolveUptoCard

/-- THE SECOND FORM's CARD OF 'dataflowlaw18.AndersenTells'. -/
def andersenTellsUptoCard : Claim7 := { stood := { row := andersenTellsUptoRow, standIns := [], harness := (true, "84252574bc15657c8efc48afe25d821ae64db79ce414581eb6d72191001b3ad9"), looks := false }, kinds := [], alts := [], laidByText := true, laidKinds := [.data], laidTests := true, laidLooks := .later }
def AndersenTellsUptoCardSaid : Prop := Claim7.holds Tryd.pinned (.plain (OpenSpec.upto andersenTellsSpec)) andersenTellsUptoCard

/-- THE SECOND FORM's CARD OF 'dataflowlaw18.AndersenLeast'. -/
def andersenLeastUptoCard : Claim7 := { stood := { row := andersenLeastUptoRow, standIns := [], harness := (true, "84252574bc15657c8efc48afe25d821ae64db79ce414581eb6d72191001b3ad9"), looks := false }, kinds := [], alts := [], laidByText := true, laidKinds := [.data], laidTests := true, laidLooks := .later }
def AndersenLeastUptoCardSaid : Prop := Claim7.holds Tryd.pinned (.plain (OpenSpec.upto andersenLeastSpec)) andersenLeastUptoCard

/-- THE SECOND FORM's CARD OF 'dataflowlaw18.AndersenOrder'. -/
def andersenOrderUptoCard : Claim7 := { stood := { row := andersenOrderUptoRow, standIns := [], harness := (true, "84252574bc15657c8efc48afe25d821ae64db79ce414581eb6d72191001b3ad9"), looks := false }, kinds := [], alts := [], laidByText := true, laidKinds := [.data], laidTests := true, laidLooks := .later }
def AndersenOrderUptoCardSaid : Prop := Claim7.holds Tryd.pinned (.plain (OpenSpec.upto andersenOrderSpec)) andersenOrderUptoCard

/-- THE SECOND FORM's CARD OF 'dataflowlaw18.AndersenGrows'. -/
def andersenGrowsUptoCard : Claim7 := { stood := { row := andersenGrowsUptoRow, standIns := [], harness := (true, "84252574bc15657c8efc48afe25d821ae64db79ce414581eb6d72191001b3ad9"), looks := false }, kinds := [], alts := [], laidByText := true, laidKinds := [.data], laidTests := true, laidLooks := .later }
def AndersenGrowsUptoCardSaid : Prop := Claim7.holds Tryd.pinned (.plain (OpenSpec.upto andersenGrowsSpec)) andersenGrowsUptoCard

/-- THE SECOND FORM's CARD OF 'dataflowlaw24.DemandQuery'. -/
def demandQueryUptoCard : Claim7 := { stood := { row := demandQueryUptoRow, standIns := [], harness := (true, "84252574bc15657c8efc48afe25d821ae64db79ce414581eb6d72191001b3ad9"), looks := false }, kinds := [], alts := [], laidByText := true, laidKinds := [.data], laidTests := true, laidLooks := .later }
def DemandQueryUptoCardSaid : Prop := Claim7.holds Tryd.pinned (.plain (OpenSpec.upto demandQuerySpec)) demandQueryUptoCard

/-- THE SECOND FORM's CARD OF 'dataflowlaw24.DemandSlice'. -/
def demandSliceUptoCard : Claim7 := { stood := { row := demandSliceUptoRow, standIns := [], harness := (true, "84252574bc15657c8efc48afe25d821ae64db79ce414581eb6d72191001b3ad9"), looks := false }, kinds := [], alts := [], laidByText := true, laidKinds := [.data], laidTests := true, laidLooks := .later }
def DemandSliceUptoCardSaid : Prop := Claim7.holds Tryd.pinned (.plain (OpenSpec.upto demandSliceSpec)) demandSliceUptoCard

/-- THE SECOND FORM's CARD OF 'dataflowlaw24.DemandEqual'. -/
def demandEqualUptoCard : Claim7 := { stood := { row := demandEqualUptoRow, standIns := [], harness := (true, "84252574bc15657c8efc48afe25d821ae64db79ce414581eb6d72191001b3ad9"), looks := false }, kinds := [], alts := [], laidByText := true, laidKinds := [.data], laidTests := true, laidLooks := .later }
def DemandEqualUptoCardSaid : Prop := Claim7.holds Tryd.pinned (.plain (OpenSpec.upto demandEqualSpec)) demandEqualUptoCard

/-- THE SECOND FORM's CARD OF 'dataflowlaw24.DemandNeeds'. -/
def demandNeedsUptoCard : Claim7 := { stood := { row := demandNeedsUptoRow, standIns := [], harness := (true, "84252574bc15657c8efc48afe25d821ae64db79ce414581eb6d72191001b3ad9"), looks := false }, kinds := [], alts := [], laidByText := true, laidKinds := [.data], laidTests := true, laidLooks := .later }
def DemandNeedsUptoCardSaid : Prop := Claim7.holds Tryd.pinned (.plain (OpenSpec.upto demandNeedsSpec)) demandNeedsUptoCard
end Rows
end Go.Proofs.YtcfiohphjlohhaaDoor
