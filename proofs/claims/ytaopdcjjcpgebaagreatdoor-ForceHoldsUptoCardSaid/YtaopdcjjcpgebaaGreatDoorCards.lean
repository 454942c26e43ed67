/-
  DERIVED. GIVEN WITH THE SEED: THE CARDS: each row of YtaopdcjjcpgebaaGreatDoorRows.lean that lists a variable, with what it lists TIED to the program's text (the seventh form; the later family's looks); each row that meets fmt, with fmt's text TOLD by the authors' own Lean function (tested against real Go, not proved from fmt's source: count such statements apart). THE CARD IS WHAT COUNTS. Prove the row's statement (the work); the ties are given (YtaopdcjjcpgebaaGreatDoorTie.lean); close each card by the builder's one call (the guide's Derived/Test/ToyasCard.lean, 'card_holds'). Laid BY PROGRAM, IN A SANDBOX (cutbox-door.mjs). By AI agents, Wed Nov 11 2026. No macro, syntax, notation, axiom, sorry.
-/
import Derived.Test.YtaopdcjjcpgebaaGreatDoorRows
import GoSem.ClaimSeven
namespace Go.Proofs.YtaopdcjjcpgebaaGreatDoor
namespace Rows

/-- THE TIED CARD OF 'dictumlaw18.ForceHolds'. -/
def forceHoldsCard : Claim7 := { stood := { row := forceHoldsRow, standIns := [], harness := (true, "434dacd1be6305c4e9296fce879bb5f1f6560c19430171bc21a2394ffa97b18d"), looks := false }, kinds := [], alts := [], laidByText := true, laidKinds := [.data], laidTests := true, laidLooks := .later }
def ForceHoldsCardSaid : Prop := Claim7.holds Tryz.pinned (.plain (OpenSpec.ofChange forceHoldsSpec)) forceHoldsCard

/-- THE TIED CARD OF 'dictumlaw18.ForceFrames'. -/
def forceFramesCard : Claim7 := { stood := { row := forceFramesRow, standIns := [], harness := (true, "434dacd1be6305c4e9296fce879bb5f1f6560c19430171bc21a2394ffa97b18d"), looks := false }, kinds := [], alts := [], laidByText := true, laidKinds := [.data], laidTests := true, laidLooks := .later }
def ForceFramesCardSaid : Prop := Claim7.holds Tryz.pinned (.plain (OpenSpec.ofChange forceFramesSpec)) forceFramesCard

/-- THE TIED CARD OF 'dictumlaw18.ForceClassic'. -/
def forceClassicCard : Claim7 := { stood := { row := forceClassicRow, standIns := [], harness := (true, "434dacd1be6305c4e9296fce879bb5f1f6560c19430171bc21a2394ffa97b18d"), looks := false }, kinds := [], alts := [], laidByText := true, laidKinds := [.data], laidTests := true, laidLooks := .later }
def ForceClassicCardSaid : Prop := Claim7.holds Tryz.pinned (.plain (OpenSpec.ofChange forceClassicSpec)) forceClassicCard

/-- THE TIED CARD OF 'dictumlaw18.ForceDeduces'. -/
def forceDeducesCard : Claim7 := { stood := { row := forceDeducesRow, standIns := [], harness := (true, "434dacd1be6305c4e9296fce879bb5f1f6560c19430171bc21a2394ffa97b18d"), looks := false }, kinds := [], alts := [], laidByText := true, laidKinds := [.data], laidTests := true, laidLooks := .later }
def ForceDeducesCardSaid : Prop := Claim7.holds Tryz.pinned (.plain (OpenSpec.ofChange forceDeducesSpec)) forceDeducesCard

/-- THE TIED CARD OF 'dictumlaw18.ForceTells'. -/
def forceTellsCard : Claim7 := { stood := { row := forceTellsRow, standIns := [], harness := (true, "434dacd1be6305c4e9296fce879bb5f1f6560c19430171bc21a2394ffa97b18d"), looks := false }, kinds := [], alts := [], laidByText := true, laidKinds := [.data], laidTests := true, laidLooks := .later }
def ForceTellsCardSaid : Prop := Claim7.holds Tryz.pinned (.plain (OpenSpec.ofChange forceTellsSpec)) forceTellsCard

/-- THE TIED CARD OF 'dictumlaw18.ForceStays'. -/
def forceStaysCard : Claim7 := { stood := { row := forceStaysRow, standIns := [], harness := (true, "434dacd1be6305c4e9296fce879bb5f1f6560c19430171bc21a2394ffa97b18d"), looks := false }, kinds := [], alts := [], laidByText := true, laidKinds := [.data], laidTests := true, laidLooks := .later }
def ForceStaysCardSaid : Prop := Claim7.holds Tryz.pinned (.plain (OpenSpec.ofChange forceStaysSpec)) forceStaysCard

/-- THE TIED CARD OF 'dictumlaw18.ForceSteps'. -/
def forceStepsCard : Claim7 := { stood := { row := forceStepsRow, standIns := [], harness := (true, "434dacd1be6305c4e9296fce879bb5f1f6560c19430171bc21a2394ffa97b18d"), looks := false }, kinds := [], alts := [], laidByText := true, laidKinds := [.data], laidTests := true, laidLooks := .later }
def ForceStepsCardSaid : Prop := Claim7.holds Tryz.pinned (.plain (OpenSpec.ofChange forceStepsSpec)) forceStepsCard

/-- THE TIED CARD OF 'dictumlaw18.ForceHilbert'. -/
def forceHilbertCard : Claim7 := { stood := { row := forceHilbertRow, standIns := [], harness := (true, "434dacd1be6305c4e9296fce879bb5f1f6560c19430171bc21a2394ffa97b18d"), looks := false }, kinds := [], alts := [], laidByText := true, laidKinds := [.data], laidTests := true, laidLooks := .later }
def ForceHilbertCardSaid : Prop := Claim7.holds Tryz.pinned (.plain (OpenSpec.ofChange forceHilbertSpec)) forceHilbertCard

/-- THE TIED CARD OF 'dictumlaw18.ForceRules'. -/
def forceRulesCard : Claim7 := { stood := { row := forceRulesRow, standIns := [], harness := (true, "434dacd1be6305c4e9296fce879bb5f1f6560c19430171bc21a2394ffa97b18d"), looks := false }, kinds := [], alts := [], laidByText := true, laidKinds := [.data], laidTests := true, laidLooks := .later }
def ForceRulesCardSaid : Prop := Claim7.holds Tryz.pinned (.plain (OpenSpec.ofChange forceRulesSpec)) forceRulesCard

/-- THE SECOND FORM's CARD OF 'dictumlaw18.ForceHolds'. -/
def forceHoldsUptoCard : Claim7 := { stood := { row := forceHoldsUptoRow, standIns := [], harness := (true, "434dacd1be6305c4e9296fce879bb5f1f6560c19430171bc21a2394ffa97b18d"), looks := false }, kinds := [], alts := [], laidByText := true, laidKinds := [.data], laidTests := true, laidLooks := .later }
def ForceHoldsUptoCardSaid : Prop := Claim7.holds Tryz.pinned (.plain (OpenSpec.upto forceHoldsSpec)) forceHoldsUptoCard

/-- THE SECOND FORM's CARD OF 'dictumlaw18.ForceFrames'. -/
def forceFramesUptoCard : Claim7 := { stood := { row := forceFramesUptoRow, standIns := [], harness := (true, "434dacd1be6305c4e9296fce879bb5f1f6560c19430171bc21a2394ffa97b18d"), looks := false }, kinds := [], alts := [], laidByText := true, laidKinds := [.data], laidTests := true, laidLooks := .later }
def ForceFramesUptoCardSaid : Prop := Claim7.holds Tryz.pinned (.plain (OpenSpec.upto forceFramesSpec)) forceFramesUptoCard

/-- THE SECOND FORM's CARD OF 'dictumlaw18.ForceClassic'. -/
def forceClassicUptoCard : Claim7 := { stood := { row := forceClassicUptoRow, standIns := [], harness := (true, "434dacd1be6305c4e9296fce879bb5f1f6560c19430171bc21a2394ffa97b18d"), looks := false }, kinds := [], alts := [], laidByText := true, laidKinds := [.data], laidTests := true, laidLooks := .later }
def ForceClassicUptoCardSaid : Prop := Claim7.holds Tryz.pinned (.plain (OpenSpec.upto forceClassicSpec)) forceClassicUptoCard

/-- THE SECOND FORM's CARD OF 'dictumlaw18.ForceDeduces'. -/
def forceDeducesUptoCard : Claim7 := { stood := { row := forceDeducesUptoRow, standIns := [], harness := (true, "434dacd1be6305c4e9296fce879bb5f1f6560c19430171bc21a2394ffa97b18d"), looks := false }, kinds := [], alts := [], laidByText := true, laidKinds := [.data], laidTests := true, laidLooks := .later }
def ForceDeducesUptoCardSaid : Prop := Claim7.holds Tryz.pinned (.plain (OpenSpec.upto forceDeducesSpec)) forceDeducesUptoCard

/-- THE SECOND FORM's CARD OF 'dictumlaw18.ForceTells'. -/
def forceTellsUptoCard : Claim7 := { stood := { row := forceTellsUptoRow, standIns := [], harness := (true, "434dacd1be6305c4e9296fce879bb5f1f6560c19430171bc21a2394ffa97b18d"), looks := false }, kinds := [], alts := [], laidByText := true, laidKinds := [.data], laidTests := true, laidLooks := .later }
def ForceTellsUptoCardSaid : Prop := Claim7.holds Tryz.pinned (.plain (OpenSpec.upto forceTellsSpec)) forceTellsUptoCard

/-- THE SECOND FORM's CARD OF 'dictumlaw18.ForceStays'. -/
def forceStaysUptoCard : Claim7 := { stood := { row := forceStaysUptoRow, standIns := [], harness := (true, "434dacd1be6305c4e9296fce879bb5f1f6560c19430171bc21a2394ffa97b18d"), looks := false }, kinds := [], alts := [], laidByText := true, laidKinds := [.data], laidTests := true, laidLooks := .later }
def ForceStaysUptoCardSaid : Prop := Claim7.holds Tryz.pinned (.plain (OpenSpec.upto forceStaysSpec)) forceStaysUptoCard

/-- THE SECOND FORM's CARD OF 'dictumlaw18.ForceSteps'. -/
def forceStepsUptoCard : Claim7 := { stood := { row := forceStepsUptoRow, standIns := [], harness := (true, "434dacd1be6305c4e9296fce879bb5f1f6560c19430171bc21a2394ffa97b18d"), looks := false }, kinds := [], alts := [], laidByText := true, laidKinds := [.data], laidTests := true, laidLooks := .later }
def ForceStepsUptoCardSaid : Prop := Claim7.holds Tryz.pinned (.plain (OpenSpec.upto forceStepsSpec)) forceStepsUptoCard

/-- THE SECOND FORM's CARD OF 'dictumlaw18.ForceHilbert'. -/
def forceHilbertUptoCard : Claim7 := { stood := { row := forceHilbertUptoRow, standIns := [], harness := (true, "434dacd1be6305c4e9296fce879bb5f1f6560c19430171bc21a2394ffa97b18d"), looks := false }, kinds := [], alts := [], laidByText := true, laidKinds := [.data], laidTests := true, laidLooks := .later }
def ForceHilbertUptoCardSaid : Prop := Claim7.holds Tryz.pinned (.plain (OpenSpec.upto forceHilbertSpec)) forceHilbertUptoCard

/-- THE SECOND FORM's CARD OF 'dictumlaw18.ForceRules'. -/
def forceRulesUptoCard : Claim7 := { stood := { row := forceRulesUptoRow, standIns := [], harness := (true, "434dacd1be6305c4e9296fce879bb5f1f6560c19430171bc21a2394ffa97b18d"), looks := false }, kinds := [], alts := [], laidByText := true, laidKinds := [.data], laidTests := true, laidLooks := .later }
def ForceRulesUptoCardSaid : Prop := Claim7.holds Tryz.pinned (.plain (OpenSpec.upto forceRulesSpec)) forceRulesUptoCard
end Rows
end Go.Proofs.YtaopdcjjcpgebaaGreatDoor
