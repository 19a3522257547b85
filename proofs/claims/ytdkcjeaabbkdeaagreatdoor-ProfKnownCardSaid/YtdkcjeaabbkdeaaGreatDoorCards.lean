/-
  DERIVED. GIVEN WITH THE SEED: THE CARDS: each row of YtdkcjeaabbkdeaaGreatDoorRows.lean that lists a variable, with what it lists TIED to the program's text (the seventh form; the later family's looks); each row that meets fmt, with fmt's text TOLD by the authors' own Lean function (tested against real Go, not proved from fmt's source: count such statements apart). THE CARD IS WHAT COUNTS. Prove the row's statement (the work); the ties are given (YtdkcjeaabbkdeaaGreatDoorTie.lean); close each card by the builder's one call (the guide's Derived/Test/ToyasCard.lean, 'card_holds'). Laid BY PROGRAM, IN A SANDBOX (cutbox-door.mjs). By AI agents, Wed Nov 11 2026. No macro, syntax, notation, axiom, sorry.
-/
import Derived.Test.YtdkcjeaabbkdeaaGreatDoorRows
import GoSem.ClaimSeven
namespace Go.Proofs.YtdkcjeaabbkdeaaGreatDoor
namespace Rows

/-- THE TIED CARD OF 'sheafworkslaw31.ProfCosts'. -/
def profCostsCard : Claim7 := { stood := { row := profCostsRow, standIns := [], harness := (true, "2840bd1dea59425f3c1017161ec9298680b29d3a186cc757cab9535e6b832389"), looks := true }, kinds := [], alts := [], laidByText := true, laidKinds := [.data, .data, .data, .sentinel, .sentinel, .funcs, .data, .data, .data, .funcsDeep], laidTests := true, laidLooks := .later }
def ProfCostsCardSaid : Prop := Claim7.holds Tryz.pinned (.plain (OpenSpec.ofChange profCostsSpec)) profCostsCard

/-- THE TIED CARD OF 'sheafworkslaw31.ProfTops'. -/
def profTopsCard : Claim7 := { stood := { row := profTopsRow, standIns := [], harness := (true, "2840bd1dea59425f3c1017161ec9298680b29d3a186cc757cab9535e6b832389"), looks := true }, kinds := [], alts := [], laidByText := true, laidKinds := [.data, .data, .data, .sentinel, .sentinel, .funcs, .data, .data, .data, .funcsDeep], laidTests := true, laidLooks := .later }
def ProfTopsCardSaid : Prop := Claim7.holds Tryz.pinned (.plain (OpenSpec.ofChange profTopsSpec)) profTopsCard

/-- THE TIED CARD OF 'sheafworkslaw31.ProfLines'. -/
def profLinesCard : Claim7 := { stood := { row := profLinesRow, standIns := [], harness := (true, "2840bd1dea59425f3c1017161ec9298680b29d3a186cc757cab9535e6b832389"), looks := true }, kinds := [], alts := [], laidByText := true, laidKinds := [.data, .data, .data, .sentinel, .sentinel, .funcs, .data, .data, .data, .funcsDeep], laidTests := true, laidLooks := .later }
def ProfLinesCardSaid : Prop := Claim7.holds Tryz.pinned (.plain (OpenSpec.ofChange profLinesSpec)) profLinesCard

/-- THE TIED CARD OF 'sheafworkslaw31.ProfStacks'. -/
def profStacksCard : Claim7 := { stood := { row := profStacksRow, standIns := [], harness := (true, "2840bd1dea59425f3c1017161ec9298680b29d3a186cc757cab9535e6b832389"), looks := true }, kinds := [], alts := [], laidByText := true, laidKinds := [.data, .data, .data, .sentinel, .sentinel, .funcs, .data, .data, .data, .funcsDeep], laidTests := true, laidLooks := .later }
def ProfStacksCardSaid : Prop := Claim7.holds Tryz.pinned (.plain (OpenSpec.ofChange profStacksSpec)) profStacksCard

/-- THE TIED CARD OF 'sheafworkslaw31.ProfLanes'. -/
def profLanesCard : Claim7 := { stood := { row := profLanesRow, standIns := [], harness := (true, "2840bd1dea59425f3c1017161ec9298680b29d3a186cc757cab9535e6b832389"), looks := true }, kinds := [], alts := [], laidByText := true, laidKinds := [.data, .data, .data, .sentinel, .sentinel, .funcs, .data, .data, .data, .funcsDeep], laidTests := true, laidLooks := .later }
def ProfLanesCardSaid : Prop := Claim7.holds Tryz.pinned (.plain (OpenSpec.ofChange profLanesSpec)) profLanesCard

/-- THE TIED CARD OF 'sheafworkslaw31.ProfBack'. -/
def profBackCard : Claim7 := { stood := { row := profBackRow, standIns := [], harness := (true, "2840bd1dea59425f3c1017161ec9298680b29d3a186cc757cab9535e6b832389"), looks := true }, kinds := [], alts := [], laidByText := true, laidKinds := [.data, .data, .data, .sentinel, .sentinel, .funcs, .data, .data, .data, .funcsDeep], laidTests := true, laidLooks := .later }
def ProfBackCardSaid : Prop := Claim7.holds Tryz.pinned (.plain (OpenSpec.ofChange profBackSpec)) profBackCard

/-- THE TIED CARD OF 'sheafworkslaw31.ProfDiffs'. -/
def profDiffsCard : Claim7 := { stood := { row := profDiffsRow, standIns := [], harness := (true, "2840bd1dea59425f3c1017161ec9298680b29d3a186cc757cab9535e6b832389"), looks := true }, kinds := [], alts := [], laidByText := true, laidKinds := [.data, .data, .data, .sentinel, .sentinel, .funcs, .data, .data, .data, .funcsDeep], laidTests := true, laidLooks := .later }
def ProfDiffsCardSaid : Prop := Claim7.holds Tryz.pinned (.plain (OpenSpec.ofChange profDiffsSpec)) profDiffsCard

/-- THE TIED CARD OF 'sheafworkslaw31.ProfKnown'. -/
def profKnownCard : Claim7 := { stood := { row := profKnownRow, standIns := [], harness := (true, "2840bd1dea59425f3c1017161ec9298680b29d3a186cc757cab9535e6b832389"), looks := true }, kinds := [], alts := [], laidByText := true, laidKinds := [.data, .data, .data, .sentinel, .sentinel, .funcs, .data, .data, .data, .funcsDeep], laidTests := true, laidLooks := .later }
def ProfKnownCardSaid : Prop := Claim7.holds Tryz.pinned (.plain (OpenSpec.ofChange profKnownSpec)) profKnownCard

/-- THE TIED CARD OF 'sheafworkslaw31.ProfWhole'. -/
def profWholeCard : Claim7 := { stood := { row := profWholeRow, standIns := [], harness := (true, "2840bd1dea59425f3c1017161ec9298680b29d3a186cc757cab9535e6b832389"), looks := true }, kinds := [], alts := [], laidByText := true, laidKinds := [.data, .data, .data, .sentinel, .sentinel, .funcs, .data, .data, .data, .funcsDeep], laidTests := true, laidLooks := .later }
def ProfWholeCardSaid : Prop := Claim7.holds Tryz.pinned (.plain (OpenSpec.ofChange profWholeSpec)) profWholeCard

/-- THE SECOND FORM's CARD OF 'sheafworkslaw31.ProfCosts'. -/
def profCostsUptoCard : Claim7 := { stood := { row := profCostsUptoRow, standIns := [], harness := (true, "2840bd1dea59425f3c1017161ec9298680b29d3a186cc757cab9535e6b832389"), looks := true }, kinds := [], alts := [], laidByText := true, laidKinds := [.data, .data, .data, .sentinel, .sentinel, .funcs, .data, .data, .data, .funcsDeep], laidTests := true, laidLooks := .later }
def ProfCostsUptoCardSaid : Prop := Claim7.holds Tryz.pinned (.plain (OpenSpec.upto profCostsSpec)) profCostsUptoCard

/-- THE SECOND FORM's CARD OF 'sheafworkslaw31.ProfTops'. -/
def profTopsUptoCard : Claim7 := { stood := { row := profTopsUptoRow, standIns := [], harness := (true, "2840bd1dea59425f3c1017161ec9298680b29d3a186cc757cab9535e6b832389"), looks := true }, kinds := [], alts := [], laidByText := true, laidKinds := [.data, .data, .data, .sentinel, .sentinel, .funcs, .data, .data, .data, .funcsDeep], laidTests := true, laidLooks := .later }
def ProfTopsUptoCardSaid : Prop := Claim7.holds Tryz.pinned (.plain (OpenSpec.upto profTopsSpec)) profTopsUptoCard

/-- THE SECOND FORM's CARD OF 'sheafworkslaw31.ProfLines'. -/
def profLinesUptoCard : Claim7 := { stood := { row := profLinesUptoRow, standIns := [], harness := (true, "2840bd1dea59425f3c1017161ec9298680b29d3a186cc757cab9535e6b832389"), looks := true }, kinds := [], alts := [], laidByText := true, laidKinds := [.data, .data, .data, .sentinel, .sentinel, .funcs, .data, .data, .data, .funcsDeep], laidTests := true, laidLooks := .later }
def ProfLinesUptoCardSaid : Prop := Claim7.holds Tryz.pinned (.plain (OpenSpec.upto profLinesSpec)) profLinesUptoCard

/-- THE SECOND FORM's CARD OF 'sheafworkslaw31.ProfStacks'. -/
def profStacksUptoCard : Claim7 := { stood := { row := profStacksUptoRow, standIns := [], harness := (true, "2840bd1dea59425f3c1017161ec9298680b29d3a186cc757cab9535e6b832389"), looks := true }, kinds := [], alts := [], laidByText := true, laidKinds := [.data, .data, .data, .sentinel, .sentinel, .funcs, .data, .data, .data, .funcsDeep], laidTests := true, laidLooks := .later }
def ProfStacksUptoCardSaid : Prop := Claim7.holds Tryz.pinned (.plain (OpenSpec.upto profStacksSpec)) profStacksUptoCard

/-- THE SECOND FORM's CARD OF 'sheafworkslaw31.ProfLanes'. -/
def profLanesUptoCard : Claim7 := { stood := { row := profLanesUptoRow, standIns := [], harness := (true, "2840bd1dea59425f3c1017161ec9298680b29d3a186cc757cab9535e6b832389"), looks := true }, kinds := [], alts := [], laidByText := true, laidKinds := [.data, .data, .data, .sentinel, .sentinel, .funcs, .data, .data, .data, .funcsDeep], laidTests := true, laidLooks := .later }
def ProfLanesUptoCardSaid : Prop := Claim7.holds Tryz.pinned (.plain (OpenSpec.upto profLanesSpec)) profLanesUptoCard

/-- THE SECOND FORM's CARD OF 'sheafworkslaw31.ProfBack'. -/
def profBackUptoCard : Claim7 := { stood := { row := profBackUptoRow, standIns := [], harness := (true, "2840bd1dea59425f3c1017161ec9298680b29d3a186cc757cab9535e6b832389"), looks := true }, kinds := [], alts := [], laidByText := true, laidKinds := [.data, .data, .data, .sentinel, .sentinel, .funcs, .data, .data, .data, .funcsDeep], laidTests := true, laidLooks := .later }
def ProfBackUptoCardSaid : Prop := Claim7.holds Tryz.pinned (.plain (OpenSpec.upto profBackSpec)) profBackUptoCard

/-- THE SECOND FORM's CARD OF 'sheafworkslaw31.ProfDiffs'. -/
def profDiffsUptoCard : Claim7 := { stood := { row := profDiffsUptoRow, standIns := [], harness := (true, "2840bd1dea59425f3c1017161ec9298680b29d3a186cc757cab9535e6b832389"), looks := true }, kinds := [], alts := [], laidByText := true, laidKinds := [.data, .data, .data, .sentinel, .sentinel, .funcs, .data, .data, .data, .funcsDeep], laidTests := true, laidLooks := .later }
def ProfDiffsUptoCardSaid : Prop := Claim7.holds Tryz.pinned (.plain (OpenSpec.upto profDiffsSpec)) profDiffsUptoCard

/-- THE SECOND FORM's CARD OF 'sheafworkslaw31.ProfKnown'. -/
def profKnownUptoCard : Claim7 := { stood := { row := profKnownUptoRow, standIns := [], harness := (true, "2840bd1dea59425f3c1017161ec9298680b29d3a186cc757cab9535e6b832389"), looks := true }, kinds := [], alts := [], laidByText := true, laidKinds := [.data, .data, .data, .sentinel, .sentinel, .funcs, .data, .data, .data, .funcsDeep], laidTests := true, laidLooks := .later }
def ProfKnownUptoCardSaid : Prop := Claim7.holds Tryz.pinned (.plain (OpenSpec.upto profKnownSpec)) profKnownUptoCard

/-- THE SECOND FORM's CARD OF 'sheafworkslaw31.ProfWhole'. -/
def profWholeUptoCard : Claim7 := { stood := { row := profWholeUptoRow, standIns := [], harness := (true, "2840bd1dea59425f3c1017161ec9298680b29d3a186cc757cab9535e6b832389"), looks := true }, kinds := [], alts := [], laidByText := true, laidKinds := [.data, .data, .data, .sentinel, .sentinel, .funcs, .data, .data, .data, .funcsDeep], laidTests := true, laidLooks := .later }
def ProfWholeUptoCardSaid : Prop := Claim7.holds Tryz.pinned (.plain (OpenSpec.upto profWholeSpec)) profWholeUptoCard
end Rows
end Go.Proofs.YtdkcjeaabbkdeaaGreatDoor
