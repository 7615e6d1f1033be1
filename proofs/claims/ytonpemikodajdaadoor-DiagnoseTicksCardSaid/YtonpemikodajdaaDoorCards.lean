/-
  DERIVED. GIVEN WITH THE SEED: THE CARDS: each row of YtonpemikodajdaaDoorRows.lean that lists a variable, with what it lists TIED to the program's text (the seventh form; the later family's looks); each row that meets fmt, with fmt's text TOLD by the authors' own Lean function (tested against real Go, not proved from fmt's source: count such statements apart). THE CARD IS WHAT COUNTS. Prove the row's statement (the work); the ties are given (YtonpemikodajdaaDoorTie.lean); close each card by the builder's one call (the guide's Derived/Test/ToyasCard.lean, 'card_holds'). Laid BY PROGRAM, IN A SANDBOX (cutbox-door.mjs). By AI agents, Wed Nov 11 2026. No macro, syntax, notation, axiom, sorry.
-/
import Derived.Test.YtonpemikodajdaaDoorRows
import GoSem.ClaimSeven
namespace Go.Proofs.YtonpemikodajdaaDoor
namespace Rows

/-- THE TIED CARD OF 'ignitionlaw10.DiagnoseWatches'. -/
def diagnoseWatchesCard : Claim7 := { stood := { row := diagnoseWatchesRow, standIns := [], harness := (true, "80f0aa6ca1f6dc6133d4a762749f249a8e2a62611a81026334c8a5dce61134d3"), looks := false }, kinds := [], alts := [], laidByText := true, laidKinds := [.data, .data], laidTests := true, laidLooks := .later }
def DiagnoseWatchesCardSaid : Prop := Claim7.holds Tryd.pinned (.plain (OpenSpec.ofChange diagnoseWatchesSpec)) diagnoseWatchesCard

/-- THE TIED CARD OF 'ignitionlaw10.DiagnoseGuides'. -/
def diagnoseGuidesCard : Claim7 := { stood := { row := diagnoseGuidesRow, standIns := [], harness := (true, "80f0aa6ca1f6dc6133d4a762749f249a8e2a62611a81026334c8a5dce61134d3"), looks := false }, kinds := [], alts := [], laidByText := true, laidKinds := [.data, .data], laidTests := true, laidLooks := .later }
def DiagnoseGuidesCardSaid : Prop := Claim7.holds Tryd.pinned (.plain (OpenSpec.ofChange diagnoseGuidesSpec)) diagnoseGuidesCard

/-- THE TIED CARD OF 'ignitionlaw10.DiagnoseSets'. -/
def diagnoseSetsCard : Claim7 := { stood := { row := diagnoseSetsRow, standIns := [], harness := (true, "80f0aa6ca1f6dc6133d4a762749f249a8e2a62611a81026334c8a5dce61134d3"), looks := false }, kinds := [], alts := [], laidByText := true, laidKinds := [.data, .data], laidTests := true, laidLooks := .later }
def DiagnoseSetsCardSaid : Prop := Claim7.holds Tryd.pinned (.plain (OpenSpec.ofChange diagnoseSetsSpec)) diagnoseSetsCard

/-- THE TIED CARD OF 'ignitionlaw10.DiagnoseMore'. -/
def diagnoseMoreCard : Claim7 := { stood := { row := diagnoseMoreRow, standIns := [], harness := (true, "80f0aa6ca1f6dc6133d4a762749f249a8e2a62611a81026334c8a5dce61134d3"), looks := false }, kinds := [], alts := [], laidByText := true, laidKinds := [.data, .data], laidTests := true, laidLooks := .later }
def DiagnoseMoreCardSaid : Prop := Claim7.holds Tryd.pinned (.plain (OpenSpec.ofChange diagnoseMoreSpec)) diagnoseMoreCard

/-- THE TIED CARD OF 'ignitionlaw10.DiagnoseGroups'. -/
def diagnoseGroupsCard : Claim7 := { stood := { row := diagnoseGroupsRow, standIns := [], harness := (true, "80f0aa6ca1f6dc6133d4a762749f249a8e2a62611a81026334c8a5dce61134d3"), looks := false }, kinds := [], alts := [], laidByText := true, laidKinds := [.data, .data], laidTests := true, laidLooks := .later }
def DiagnoseGroupsCardSaid : Prop := Claim7.holds Tryd.pinned (.plain (OpenSpec.ofChange diagnoseGroupsSpec)) diagnoseGroupsCard

/-- THE TIED CARD OF 'ignitionlaw10.DiagnoseTicks'. -/
def diagnoseTicksCard : Claim7 := { stood := { row := diagnoseTicksRow, standIns := [], harness := (true, "80f0aa6ca1f6dc6133d4a762749f249a8e2a62611a81026334c8a5dce61134d3"), looks := false }, kinds := [], alts := [], laidByText := true, laidKinds := [.data, .data], laidTests := true, laidLooks := .later }
def DiagnoseTicksCardSaid : Prop := Claim7.holds Tryd.pinned (.plain (OpenSpec.ofChange diagnoseTicksSpec)) diagnoseTicksCard

/-- THE TIED CARD OF 'ignitionlaw10.DiagnoseFolded'. -/
def diagnoseFoldedCard : Claim7 := { stood := { row := diagnoseFoldedRow, standIns := [], harness := (true, "80f0aa6ca1f6dc6133d4a762749f249a8e2a62611a81026334c8a5dce61134d3"), looks := false }, kinds := [], alts := [], laidByText := true, laidKinds := [.data, .data], laidTests := true, laidLooks := .later }
def DiagnoseFoldedCardSaid : Prop := Claim7.holds Tryd.pinned (.plain (OpenSpec.ofChange diagnoseFoldedSpec)) diagnoseFoldedCard

/-- THE TIED CARD OF 'ignitionlaw10.DiagnoseCheapest'. -/
def diagnoseCheapestCard : Claim7 := { stood := { row := diagnoseCheapestRow, standIns := [], harness := (true, "80f0aa6ca1f6dc6133d4a762749f249a8e2a62611a81026334c8a5dce61134d3"), looks := false }, kinds := [], alts := [], laidByText := true, laidKinds := [.data, .data], laidTests := true, laidLooks := .later }
def DiagnoseCheapestCardSaid : Prop := Claim7.holds Tryd.pinned (.plain (OpenSpec.ofChange diagnoseCheapestSpec)) diagnoseCheapestCard

/-- THE TIED CARD OF 'ignitionlaw10.DiagnoseTrees'. -/
def diagnoseTreesCard : Claim7 := { stood := { row := diagnoseTreesRow, standIns := [], harness := (true, "80f0aa6ca1f6dc6133d4a762749f249a8e2a62611a81026334c8a5dce61134d3"), looks := false }, kinds := [], alts := [], laidByText := true, laidKinds := [.data, .data], laidTests := true, laidLooks := .later }
def DiagnoseTreesCardSaid : Prop := Claim7.holds Tryd.pinned (.plain (OpenSpec.ofChange diagnoseTreesSpec)) diagnoseTreesCard

/-- THE TIED CARD OF 'ignitionlaw10.DiagnoseTalks'. -/
def diagnoseTalksCard : Claim7 := { stood := { row := diagnoseTalksRow, standIns := [], harness := (true, "80f0aa6ca1f6dc6133d4a762749f249a8e2a62611a81026334c8a5dce61134d3"), looks := false }, kinds := [], alts := [], laidByText := true, laidKinds := [.data, .data], laidTests := true, laidLooks := .later }
def DiagnoseTalksCardSaid : Prop := Claim7.holds Tryd.pinned (.plain (OpenSpec.ofChange diagnoseTalksSpec)) diagnoseTalksCard

/-- THE TIED CARD OF 'ignitionlaw10.DiagnoseLocked'. -/
def diagnoseLockedCard : Claim7 := { stood := { row := diagnoseLockedRow, standIns := [], harness := (true, "80f0aa6ca1f6dc6133d4a762749f249a8e2a62611a81026334c8a5dce61134d3"), looks := false }, kinds := [], alts := [], laidByText := true, laidKinds := [.data, .data], laidTests := true, laidLooks := .later }
def DiagnoseLockedCardSaid : Prop := Claim7.holds Tryd.pinned (.plain (OpenSpec.ofChange diagnoseLockedSpec)) diagnoseLockedCard

/-- THE TIED CARD OF 'ignitionlaw10.DiagnoseFinds'. -/
def diagnoseFindsCard : Claim7 := { stood := { row := diagnoseFindsRow, standIns := [], harness := (true, "80f0aa6ca1f6dc6133d4a762749f249a8e2a62611a81026334c8a5dce61134d3"), looks := false }, kinds := [], alts := [], laidByText := true, laidKinds := [.data, .data], laidTests := true, laidLooks := .later }
def DiagnoseFindsCardSaid : Prop := Claim7.holds Tryd.pinned (.plain (OpenSpec.ofChange diagnoseFindsSpec)) diagnoseFindsCard

/-- THE SECOND FORM's CARD OF 'ignitionlaw10.DiagnoseWatches'. -/
def diagnoseWatchesUptoCard : Claim7 := { stood := { row := diagnoseWatchesUptoRow, standIns := [], harness := (true, "80f0aa6ca1f6dc6133d4a762749f249a8e2a62611a81026334c8a5dce61134d3"), looks := false }, kinds := [], alts := [], laidByText := true, laidKinds := [.data, .data], laidTests := true, laidLooks := .later }
def DiagnoseWatchesUptoCardSaid : Prop := Claim7.holds Tryd.pinned (.plain (OpenSpec.upto diagnoseWatchesSpec)) diagnoseWatchesUptoCard

/-- THE SECOND FORM's CARD OF 'ignitionlaw10.DiagnoseGuides'. -/
def diagnoseGuidesUptoCard : Claim7 := { stood := { row := diagnoseGuidesUptoRow, standIns := [], harness := (true, "80f0aa6ca1f6dc6133d4a762749f249a8e2a62611a81026334c8a5dce61134d3"), looks := false }, kinds := [], alts := [], laidByText := true, laidKinds := [.data, .data], laidTests := true, laidLooks := .later }
def DiagnoseGuidesUptoCardSaid : Prop := Claim7.holds Tryd.pinned (.plain (OpenSpec.upto diagnoseGuidesSpec)) diagnoseGuidesUptoCard

/-- THE SECOND FORM's CARD OF 'ignitionlaw10.DiagnoseSets'. -/
def diagnoseSetsUptoCard : Claim7 := { stood := { row := diagnoseSetsUptoRow, standIns := [], harness := (true, "80f0aa6ca1f6dc6133d4a762749f249a8e2a62611a81026334c8a5dce61134d3"), looks := false }, kinds := [], alts := [], laidByText := true, laidKinds := [.data, .data], laidTests := true, laidLooks := .later }
def DiagnoseSetsUptoCardSaid : Prop := Claim7.holds Tryd.pinned (.plain (OpenSpec.upto diagnoseSetsSpec)) diagnoseSetsUptoCard

/-- THE SECOND FORM's CARD OF 'ignitionlaw10.DiagnoseMore'. -/
def diagnoseMoreUptoCard : Claim7 := { stood := { row := diagnoseMoreUptoRow, standIns := [], harness := (true, "80f0aa6ca1f6dc6133d4a762749f249a8e2a62611a81026334c8a5dce61134d3"), looks := false }, kinds := [], alts := [], laidByText := true, laidKinds := [.data, .data], laidTests := true, laidLooks := .later }
def DiagnoseMoreUptoCardSaid : Prop := Claim7.holds Tryd.pinned (.plain (OpenSpec.upto diagnoseMoreSpec)) diagnoseMoreUptoCard

/-- THE SECOND FORM's CARD OF 'ignitionlaw10.DiagnoseGroups'. -/
def diagnoseGroupsUptoCard : Claim7 := { stood := { row := diagnoseGroupsUptoRow, standIns := [], harness := (true, "80f0aa6ca1f6dc6133d4a762749f249a8e2a62611a81026334c8a5dce61134d3"), looks := false }, kinds := [], alts := [], laidByText := true, laidKinds := [.data, .data], laidTests := true, laidLooks := .later }
def DiagnoseGroupsUptoCardSaid : Prop := Claim7.holds Tryd.pinned (.plain (OpenSpec.upto diagnoseGroupsSpec)) diagnoseGroupsUptoCard

/-- THE SECOND FORM's CARD OF 'ignitionlaw10.DiagnoseTicks'. -/
def diagnoseTicksUptoCard : Claim7 := { stood := { row := diagnoseTicksUptoRow, standIns := [], harness := (true, "80f0aa6ca1f6dc6133d4a762749f249a8e2a62611a81026334c8a5dce61134d3"), looks := false }, kinds := [], alts := [], laidByText := true, laidKinds := [.data, .data], laidTests := true, laidLooks := .later }
def DiagnoseTicksUptoCardSaid : Prop := Claim7.holds Tryd.pinned (.plain (OpenSpec.upto diagnoseTicksSpec)) diagnoseTicksUptoCard

/-- THE SECOND FORM's CARD OF 'ignitionlaw10.DiagnoseFolded'. -/
def diagnoseFoldedUptoCard : Claim7 := { stood := { row := diagnoseFoldedUptoRow, standIns := [], harness := (true, "80f0aa6ca1f6dc6133d4a762749f249a8e2a62611a81026334c8a5dce61134d3"), looks := false }, kinds := [], alts := [], laidByText := true, laidKinds := [.data, .data], laidTests := true, laidLooks := .later }
def DiagnoseFoldedUptoCardSaid : Prop := Claim7.holds Tryd.pinned (.plain (OpenSpec.upto diagnoseFoldedSpec)) diagnoseFoldedUptoCard

/-- THE SECOND FORM's CARD OF 'ignitionlaw10.DiagnoseCheapest'. -/
def diagnoseCheapestUptoCard : Claim7 := { stood := { row := diagnoseCheapestUptoRow, standIns := [], harness := (true, "80f0aa6ca1f6dc6133d4a762749f249a8e2a62611a81026334c8a5dce61134d3"), looks := false }, kinds := [], alts := [], laidByText := true, laidKinds := [.data, .data], laidTests := true, laidLooks := .later }
def DiagnoseCheapestUptoCardSaid : Prop := Claim7.holds Tryd.pinned (.plain (OpenSpec.upto diagnoseCheapestSpec)) diagnoseCheapestUptoCard

/-- THE SECOND FORM's CARD OF 'ignitionlaw10.DiagnoseTrees'. -/
def diagnoseTreesUptoCard : Claim7 := { stood := { row := diagnoseTreesUptoRow, standIns := [], harness := (true, "80f0aa6ca1f6dc6133d4a762749f249a8e2a62611a81026334c8a5dce61134d3"), looks := false }, kinds := [], alts := [], laidByText := true, laidKinds := [.data, .data], laidTests := true, laidLooks := .later }
def DiagnoseTreesUptoCardSaid : Prop := Claim7.holds Tryd.pinned (.plain (OpenSpec.upto diagnoseTreesSpec)) diagnoseTreesUptoCard

/-- THE SECOND FORM's CARD OF 'ignitionlaw10.DiagnoseTalks'. -/
def diagnoseTalksUptoCard : Claim7 := { stood := { row := diagnoseTalksUptoRow, standIns := [], harness := (true, "80f0aa6ca1f6dc6133d4a762749f249a8e2a62611a81026334c8a5dce61134d3"), looks := false }, kinds := [], alts := [], laidByText := true, laidKinds := [.data, .data], laidTests := true, laidLooks := .later }
def DiagnoseTalksUptoCardSaid : Prop := Claim7.holds Tryd.pinned (.plain (OpenSpec.upto diagnoseTalksSpec)) diagnoseTalksUptoCard

/-- THE SECOND FORM's CARD OF 'ignitionlaw10.DiagnoseLocked'. -/
def diagnoseLockedUptoCard : Claim7 := { stood := { row := diagnoseLockedUptoRow, standIns := [], harness := (true, "80f0aa6ca1f6dc6133d4a762749f249a8e2a62611a81026334c8a5dce61134d3"), looks := false }, kinds := [], alts := [], laidByText := true, laidKinds := [.data, .data], laidTests := true, laidLooks := .later }
def DiagnoseLockedUptoCardSaid : Prop := Claim7.holds Tryd.pinned (.plain (OpenSpec.upto diagnoseLockedSpec)) diagnoseLockedUptoCard

/-- THE SECOND FORM's CARD OF 'ignitionlaw10.DiagnoseFinds'. -/
def diagnoseFindsUptoCard : Claim7 := { stood := { row := diagnoseFindsUptoRow, standIns := [], harness := (true, "80f0aa6ca1f6dc6133d4a762749f249a8e2a62611a81026334c8a5dce61134d3"), looks := false }, kinds := [], alts := [], laidByText := true, laidKinds := [.data, .data], laidTests := true, laidLooks := .later }
def DiagnoseFindsUptoCardSaid : Prop := Claim7.holds Tryd.pinned (.plain (OpenSpec.upto diagnoseFindsSpec)) diagnoseFindsUptoCard
end Rows
end Go.Proofs.YtonpemikodajdaaDoor
