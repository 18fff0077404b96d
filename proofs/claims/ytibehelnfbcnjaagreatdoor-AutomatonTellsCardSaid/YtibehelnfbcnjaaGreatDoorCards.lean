/-
  DERIVED. GIVEN WITH THE SEED: THE CARDS: each row of YtibehelnfbcnjaaGreatDoorRows.lean that lists a variable, with what it lists TIED to the program's text (the seventh form; the later family's looks); each row that meets fmt, with fmt's text TOLD by the authors' own Lean function (tested against real Go, not proved from fmt's source: count such statements apart). THE CARD IS WHAT COUNTS. Prove the row's statement (the work); the ties are given (YtibehelnfbcnjaaGreatDoorTie.lean); close each card by the builder's one call (the guide's Derived/Test/ToyasCard.lean, 'card_holds'). Laid BY PROGRAM, IN A SANDBOX (cutbox-door.mjs). By AI agents, Wed Nov 11 2026. No macro, syntax, notation, axiom, sorry.
-/
import Derived.Test.YtibehelnfbcnjaaGreatDoorRows
import GoSem.ClaimSeven
namespace Go.Proofs.YtibehelnfbcnjaaGreatDoor
namespace Rows

/-- THE TIED CARD OF 'retargetlaw29.AutomatonBuilds'. -/
def automatonBuildsCard : Claim7 := { stood := { row := automatonBuildsRow, standIns := [], harness := (true, "f3f1c8dfa5a92b7fe8ab2100c7aa43c876deaaaae71338ee5bf4f1a7da31c274"), looks := false }, kinds := [], alts := [], laidByText := true, laidKinds := [.data], laidTests := true, laidLooks := .later }
def AutomatonBuildsCardSaid : Prop := Claim7.holds Tryz.pinned (.plain (OpenSpec.ofChange automatonBuildsSpec)) automatonBuildsCard

/-- THE TIED CARD OF 'retargetlaw29.AutomatonTells'. -/
def automatonTellsCard : Claim7 := { stood := { row := automatonTellsRow, standIns := [], harness := (true, "f3f1c8dfa5a92b7fe8ab2100c7aa43c876deaaaae71338ee5bf4f1a7da31c274"), looks := false }, kinds := [], alts := [], laidByText := true, laidKinds := [.data], laidTests := true, laidLooks := .later }
def AutomatonTellsCardSaid : Prop := Claim7.holds Tryz.pinned (.plain (OpenSpec.ofChange automatonTellsSpec)) automatonTellsCard

/-- THE TIED CARD OF 'retargetlaw29.AutomatonLegal'. -/
def automatonLegalCard : Claim7 := { stood := { row := automatonLegalRow, standIns := [], harness := (true, "f3f1c8dfa5a92b7fe8ab2100c7aa43c876deaaaae71338ee5bf4f1a7da31c274"), looks := false }, kinds := [], alts := [], laidByText := true, laidKinds := [.data], laidTests := true, laidLooks := .later }
def AutomatonLegalCardSaid : Prop := Claim7.holds Tryz.pinned (.plain (OpenSpec.ofChange automatonLegalSpec)) automatonLegalCard

/-- THE SECOND FORM's CARD OF 'retargetlaw29.AutomatonBuilds'. -/
def automatonBuildsUptoCard : Claim7 := { stood := { row := automatonBuildsUptoRow, standIns := [], harness := (true, "f3f1c8dfa5a92b7fe8ab2100c7aa43c876deaaaae71338ee5bf4f1a7da31c274"), looks := false }, kinds := [], alts := [], laidByText := true, laidKinds := [.data], laidTests := true, laidLooks := .later }
def AutomatonBuildsUptoCardSaid : Prop := Claim7.holds Tryz.pinned (.plain (OpenSpec.upto automatonBuildsSpec)) automatonBuildsUptoCard

/-- THE SECOND FORM's CARD OF 'retargetlaw29.AutomatonTells'. -/
def automatonTellsUptoCard : Claim7 := { stood := { row := automatonTellsUptoRow, standIns := [], harness := (true, "f3f1c8dfa5a92b7fe8ab2100c7aa43c876deaaaae71338ee5bf4f1a7da31c274"), looks := false }, kinds := [], alts := [], laidByText := true, laidKinds := [.data], laidTests := true, laidLooks := .later }
def AutomatonTellsUptoCardSaid : Prop := Claim7.holds Tryz.pinned (.plain (OpenSpec.upto automatonTellsSpec)) automatonTellsUptoCard

/-- THE SECOND FORM's CARD OF 'retargetlaw29.AutomatonLegal'. -/
def automatonLegalUptoCard : Claim7 := { stood := { row := automatonLegalUptoRow, standIns := [], harness := (true, "f3f1c8dfa5a92b7fe8ab2100c7aa43c876deaaaae71338ee5bf4f1a7da31c274"), looks := false }, kinds := [], alts := [], laidByText := true, laidKinds := [.data], laidTests := true, laidLooks := .later }
def AutomatonLegalUptoCardSaid : Prop := Claim7.holds Tryz.pinned (.plain (OpenSpec.upto automatonLegalSpec)) automatonLegalUptoCard
end Rows
end Go.Proofs.YtibehelnfbcnjaaGreatDoor
