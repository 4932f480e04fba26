/-
  DERIVED. GIVEN WITH THE SEED: THE CARDS: each row of YtdconlmpjehohaaDoorRows.lean that lists a variable, with what it lists TIED to the program's text (the seventh form; the later family's looks); each row that meets fmt, with fmt's text TOLD by the authors' own Lean function (tested against real Go, not proved from fmt's source: count such statements apart). THE CARD IS WHAT COUNTS. Prove the row's statement (the work); the ties are given (YtdconlmpjehohaaDoorTie.lean); close each card by the builder's one call (the guide's Derived/Test/ToyasCard.lean, 'card_holds'). Laid BY PROGRAM, IN A SANDBOX (cutbox-door.mjs). By AI agents, Wed Nov 11 2026. No macro, syntax, notation, axiom, sorry.
-/
import Derived.Test.YtdconlmpjehohaaDoorRows
import GoSem.ClaimSeven
namespace Go.Proofs.YtdconlmpjehohaaDoor
namespace Rows

/-- THE TIED CARD OF 'cressetlaw06.TowerPowers'. -/
def towerPowersCard : Claim7 := { stood := { row := towerPowersRow, standIns := [], harness := (true, "a767f3282545a9846386b352db92821e9f3b3377a5f98ead2ccdb8c06b594ad5"), looks := false }, kinds := [], alts := [], laidByText := true, laidKinds := [.data, .data], laidTests := true, laidLooks := .later }
def TowerPowersCardSaid : Prop := Claim7.holds Tryd.pinned (.plain (OpenSpec.ofChange towerPowersSpec)) towerPowersCard

/-- THE TIED CARD OF 'cressetlaw06.TowerLines'. -/
def towerLinesCard : Claim7 := { stood := { row := towerLinesRow, standIns := [], harness := (true, "a767f3282545a9846386b352db92821e9f3b3377a5f98ead2ccdb8c06b594ad5"), looks := false }, kinds := [], alts := [], laidByText := true, laidKinds := [.data, .data], laidTests := true, laidLooks := .later }
def TowerLinesCardSaid : Prop := Claim7.holds Tryd.pinned (.plain (OpenSpec.ofChange towerLinesSpec)) towerLinesCard

/-- THE TIED CARD OF 'cressetlaw06.TowerCubics'. -/
def towerCubicsCard : Claim7 := { stood := { row := towerCubicsRow, standIns := [], harness := (true, "a767f3282545a9846386b352db92821e9f3b3377a5f98ead2ccdb8c06b594ad5"), looks := false }, kinds := [], alts := [], laidByText := true, laidKinds := [.data, .data], laidTests := true, laidLooks := .later }
def TowerCubicsCardSaid : Prop := Claim7.holds Tryd.pinned (.plain (OpenSpec.ofChange towerCubicsSpec)) towerCubicsCard

/-- THE TIED CARD OF 'cressetlaw06.TowerFrob'. -/
def towerFrobCard : Claim7 := { stood := { row := towerFrobRow, standIns := [], harness := (true, "a767f3282545a9846386b352db92821e9f3b3377a5f98ead2ccdb8c06b594ad5"), looks := false }, kinds := [], alts := [], laidByText := true, laidKinds := [.data, .data], laidTests := true, laidLooks := .later }
def TowerFrobCardSaid : Prop := Claim7.holds Tryd.pinned (.plain (OpenSpec.ofChange towerFrobSpec)) towerFrobCard

/-- THE TIED CARD OF 'cressetlaw06.TowerReckons'. -/
def towerReckonsCard : Claim7 := { stood := { row := towerReckonsRow, standIns := [], harness := (true, "a767f3282545a9846386b352db92821e9f3b3377a5f98ead2ccdb8c06b594ad5"), looks := false }, kinds := [], alts := [], laidByText := true, laidKinds := [.data, .data], laidTests := true, laidLooks := .later }
def TowerReckonsCardSaid : Prop := Claim7.holds Tryd.pinned (.plain (OpenSpec.ofChange towerReckonsSpec)) towerReckonsCard

/-- THE TIED CARD OF 'cressetlaw06.TowerRules'. -/
def towerRulesCard : Claim7 := { stood := { row := towerRulesRow, standIns := [], harness := (true, "a767f3282545a9846386b352db92821e9f3b3377a5f98ead2ccdb8c06b594ad5"), looks := false }, kinds := [], alts := [], laidByText := true, laidKinds := [.data, .data], laidTests := true, laidLooks := .later }
def TowerRulesCardSaid : Prop := Claim7.holds Tryd.pinned (.plain (OpenSpec.ofChange towerRulesSpec)) towerRulesCard

/-- THE SECOND FORM's CARD OF 'cressetlaw06.TowerPowers'. -/
def towerPowersUptoCard : Claim7 := { stood := { row := towerPowersUptoRow, standIns := [], harness := (true, "a767f3282545a9846386b352db92821e9f3b3377a5f98ead2ccdb8c06b594ad5"), looks := false }, kinds := [], alts := [], laidByText := true, laidKinds := [.data, .data], laidTests := true, laidLooks := .later }
def TowerPowersUptoCardSaid : Prop := Claim7.holds Tryd.pinned (.plain (OpenSpec.upto towerPowersSpec)) towerPowersUptoCard

/-- THE SECOND FORM's CARD OF 'cressetlaw06.TowerLines'. -/
def towerLinesUptoCard : Claim7 := { stood := { row := towerLinesUptoRow, standIns := [], harness := (true, "a767f3282545a9846386b352db92821e9f3b3377a5f98ead2ccdb8c06b594ad5"), looks := false }, kinds := [], alts := [], laidByText := true, laidKinds := [.data, .data], laidTests := true, laidLooks := .later }
def TowerLinesUptoCardSaid : Prop := Claim7.holds Tryd.pinned (.plain (OpenSpec.upto towerLinesSpec)) towerLinesUptoCard

/-- THE SECOND FORM's CARD OF 'cressetlaw06.TowerCubics'. -/
def towerCubicsUptoCard : Claim7 := { stood := { row := towerCubicsUptoRow, standIns := [], harness := (true, "a767f3282545a9846386b352db92821e9f3b3377a5f98ead2ccdb8c06b594ad5"), looks := false }, kinds := [], alts := [], laidByText := true, laidKinds := [.data, .data], laidTests := true, laidLooks := .later }
def TowerCubicsUptoCardSaid : Prop := Claim7.holds Tryd.pinned (.plain (OpenSpec.upto towerCubicsSpec)) towerCubicsUptoCard

/-- THE SECOND FORM's CARD OF 'cressetlaw06.TowerFrob'. -/
def towerFrobUptoCard : Claim7 := { stood := { row := towerFrobUptoRow, standIns := [], harness := (true, "a767f3282545a9846386b352db92821e9f3b3377a5f98ead2ccdb8c06b594ad5"), looks := false }, kinds := [], alts := [], laidByText := true, laidKinds := [.data, .data], laidTests := true, laidLooks := .later }
def TowerFrobUptoCardSaid : Prop := Claim7.holds Tryd.pinned (.plain (OpenSpec.upto towerFrobSpec)) towerFrobUptoCard

/-- THE SECOND FORM's CARD OF 'cressetlaw06.TowerReckons'. -/
def towerReckonsUptoCard : Claim7 := { stood := { row := towerReckonsUptoRow, standIns := [], harness := (true, "a767f3282545a9846386b352db92821e9f3b3377a5f98ead2ccdb8c06b594ad5"), looks := false }, kinds := [], alts := [], laidByText := true, laidKinds := [.data, .data], laidTests := true, laidLooks := .later }
def TowerReckonsUptoCardSaid : Prop := Claim7.holds Tryd.pinned (.plain (OpenSpec.upto towerReckonsSpec)) towerReckonsUptoCard

/-- THE SECOND FORM's CARD OF 'cressetlaw06.TowerRules'. -/
def towerRulesUptoCard : Claim7 := { stood := { row := towerRulesUptoRow, standIns := [], harness := (true, "a767f3282545a9846386b352db92821e9f3b3377a5f98ead2ccdb8c06b594ad5"), looks := false }, kinds := [], alts := [], laidByText := true, laidKinds := [.data, .data], laidTests := true, laidLooks := .later }
def TowerRulesUptoCardSaid : Prop := Claim7.holds Tryd.pinned (.plain (OpenSpec.upto towerRulesSpec)) towerRulesUptoCard
end Rows
end Go.Proofs.YtdconlmpjehohaaDoor
