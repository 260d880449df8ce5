/-
  DERIVED. GIVEN WITH THE SEED: THE CARDS: each row of YtfickkmgbecamaaDoorRows.lean that lists a variable, with what it lists TIED to the program's text (the seventh form; the later family's looks); each row that meets fmt, with fmt's text TOLD by the authors' own Lean function (tested against real Go, not proved from fmt's source: count such statements apart). THE CARD IS WHAT COUNTS. Prove the row's statement (the work); the ties are given (YtfickkmgbecamaaDoorTie.lean); close each card by the builder's one call (the guide's Derived/Test/ToyasCard.lean, 'card_holds'). Laid BY PROGRAM, IN A SANDBOX (cutbox-door.mjs). By AI agents, Wed Nov 11 2026. No macro, syntax, notation, axiom, sorry.
-/
import Derived.Test.YtfickkmgbecamaaDoorRows
import GoSem.ClaimSeven
namespace Go.Proofs.YtfickkmgbecamaaDoor
namespace Rows

/-- THE TIED CARD OF 'angeluslaw18.CutCuts'. -/
def cutCutsCard : Claim7 := { stood := { row := cutCutsRow, standIns := [], harness := (true, "fe653b9597107df6fe9ca6c30d64f9c1bbccc133622e2f69375cb7d957815eab"), looks := false }, kinds := [], alts := [], laidByText := true, laidKinds := [.data], laidTests := true, laidLooks := .later }
def CutCutsCardSaid : Prop := Claim7.holds Tryd.pinned (.plain (OpenSpec.ofChange cutCutsSpec)) cutCutsCard

/-- THE TIED CARD OF 'angeluslaw18.CutSafe'. -/
def cutSafeCard : Claim7 := { stood := { row := cutSafeRow, standIns := [], harness := (true, "fe653b9597107df6fe9ca6c30d64f9c1bbccc133622e2f69375cb7d957815eab"), looks := false }, kinds := [], alts := [], laidByText := true, laidKinds := [.data], laidTests := true, laidLooks := .later }
def CutSafeCardSaid : Prop := Claim7.holds Tryd.pinned (.plain (OpenSpec.ofChange cutSafeSpec)) cutSafeCard

/-- THE TIED CARD OF 'angeluslaw18.CutSets'. -/
def cutSetsCard : Claim7 := { stood := { row := cutSetsRow, standIns := [], harness := (true, "fe653b9597107df6fe9ca6c30d64f9c1bbccc133622e2f69375cb7d957815eab"), looks := false }, kinds := [], alts := [], laidByText := true, laidKinds := [.data], laidTests := true, laidLooks := .later }
def CutSetsCardSaid : Prop := Claim7.holds Tryd.pinned (.plain (OpenSpec.ofChange cutSetsSpec)) cutSetsCard

/-- THE TIED CARD OF 'angeluslaw48.ConfigFaults'. -/
def configFaultsCard : Claim7 := { stood := { row := configFaultsRow, standIns := [], harness := (true, "fe653b9597107df6fe9ca6c30d64f9c1bbccc133622e2f69375cb7d957815eab"), looks := false }, kinds := [], alts := [], laidByText := true, laidKinds := [.data], laidTests := true, laidLooks := .later }
def ConfigFaultsCardSaid : Prop := Claim7.holds Tryd.pinned (.plain (OpenSpec.ofChange configFaultsSpec)) configFaultsCard

/-- THE TIED CARD OF 'angeluslaw48.ConfigSmall'. -/
def configSmallCard : Claim7 := { stood := { row := configSmallRow, standIns := [], harness := (true, "fe653b9597107df6fe9ca6c30d64f9c1bbccc133622e2f69375cb7d957815eab"), looks := false }, kinds := [], alts := [], laidByText := true, laidKinds := [.data], laidTests := true, laidLooks := .later }
def ConfigSmallCardSaid : Prop := Claim7.holds Tryd.pinned (.plain (OpenSpec.ofChange configSmallSpec)) configSmallCard

/-- THE TIED CARD OF 'angeluslaw48.ConfigWhole'. -/
def configWholeCard : Claim7 := { stood := { row := configWholeRow, standIns := [], harness := (true, "fe653b9597107df6fe9ca6c30d64f9c1bbccc133622e2f69375cb7d957815eab"), looks := false }, kinds := [], alts := [], laidByText := true, laidKinds := [.data], laidTests := true, laidLooks := .later }
def ConfigWholeCardSaid : Prop := Claim7.holds Tryd.pinned (.plain (OpenSpec.ofChange configWholeSpec)) configWholeCard

/-- THE SECOND FORM's CARD OF 'angeluslaw18.CutCuts'. -/
def cutCutsUptoCard : Claim7 := { stood := { row := cutCutsUptoRow, standIns := [], harness := (true, "fe653b9597107df6fe9ca6c30d64f9c1bbccc133622e2f69375cb7d957815eab"), looks := false }, kinds := [], alts := [], laidByText := true, laidKinds := [.data], laidTests := true, laidLooks := .later }
def CutCutsUptoCardSaid : Prop := Claim7.holds Tryd.pinned (.plain (OpenSpec.upto cutCutsSpec)) cutCutsUptoCard

/-- THE SECOND FORM's CARD OF 'angeluslaw18.CutSafe'. -/
def cutSafeUptoCard : Claim7 := { stood := { row := cutSafeUptoRow, standIns := [], harness := (true, "fe653b9597107df6fe9ca6c30d64f9c1bbccc133622e2f69375cb7d957815eab"), looks := false }, kinds := [], alts := [], laidByText := true, laidKinds := [.data], laidTests := true, laidLooks := .later }
def CutSafeUptoCardSaid : Prop := Claim7.holds Tryd.pinned (.plain (OpenSpec.upto cutSafeSpec)) cutSafeUptoCard

/-- THE SECOND FORM's CARD OF 'angeluslaw18.CutSets'. -/
def cutSetsUptoCard : Claim7 := { stood := { row := cutSetsUptoRow, standIns := [], harness := (true, "fe653b9597107df6fe9ca6c30d64f9c1bbccc133622e2f69375cb7d957815eab"), looks := false }, kinds := [], alts := [], laidByText := true, laidKinds := [.data], laidTests := true, laidLooks := .later }
def CutSetsUptoCardSaid : Prop := Claim7.holds Tryd.pinned (.plain (OpenSpec.upto cutSetsSpec)) cutSetsUptoCard

/-- THE SECOND FORM's CARD OF 'angeluslaw48.ConfigFaults'. -/
def configFaultsUptoCard : Claim7 := { stood := { row := configFaultsUptoRow, standIns := [], harness := (true, "fe653b9597107df6fe9ca6c30d64f9c1bbccc133622e2f69375cb7d957815eab"), looks := false }, kinds := [], alts := [], laidByText := true, laidKinds := [.data], laidTests := true, laidLooks := .later }
def ConfigFaultsUptoCardSaid : Prop := Claim7.holds Tryd.pinned (.plain (OpenSpec.upto configFaultsSpec)) configFaultsUptoCard

/-- THE SECOND FORM's CARD OF 'angeluslaw48.ConfigSmall'. -/
def configSmallUptoCard : Claim7 := { stood := { row := configSmallUptoRow, standIns := [], harness := (true, "fe653b9597107df6fe9ca6c30d64f9c1bbccc133622e2f69375cb7d957815eab"), looks := false }, kinds := [], alts := [], laidByText := true, laidKinds := [.data], laidTests := true, laidLooks := .later }
def ConfigSmallUptoCardSaid : Prop := Claim7.holds Tryd.pinned (.plain (OpenSpec.upto configSmallSpec)) configSmallUptoCard

/-- THE SECOND FORM's CARD OF 'angeluslaw48.ConfigWhole'. -/
def configWholeUptoCard : Claim7 := { stood := { row := configWholeUptoRow, standIns := [], harness := (true, "fe653b9597107df6fe9ca6c30d64f9c1bbccc133622e2f69375cb7d957815eab"), looks := false }, kinds := [], alts := [], laidByText := true, laidKinds := [.data], laidTests := true, laidLooks := .later }
def ConfigWholeUptoCardSaid : Prop := Claim7.holds Tryd.pinned (.plain (OpenSpec.upto configWholeSpec)) configWholeUptoCard
end Rows
end Go.Proofs.YtfickkmgbecamaaDoor
