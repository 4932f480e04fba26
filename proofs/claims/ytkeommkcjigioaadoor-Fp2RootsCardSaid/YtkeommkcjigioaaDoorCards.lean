/-
  DERIVED. GIVEN WITH THE SEED: THE CARDS: each row of YtkeommkcjigioaaDoorRows.lean that lists a variable, with what it lists TIED to the program's text (the seventh form; the later family's looks); each row that meets fmt, with fmt's text TOLD by the authors' own Lean function (tested against real Go, not proved from fmt's source: count such statements apart). THE CARD IS WHAT COUNTS. Prove the row's statement (the work); the ties are given (YtkeommkcjigioaaDoorTie.lean); close each card by the builder's one call (the guide's Derived/Test/ToyasCard.lean, 'card_holds'). Laid BY PROGRAM, IN A SANDBOX (cutbox-door.mjs). By AI agents, Wed Nov 11 2026. No macro, syntax, notation, axiom, sorry.
-/
import Derived.Test.YtkeommkcjigioaaDoorRows
import GoSem.ClaimSeven
namespace Go.Proofs.YtkeommkcjigioaaDoor
namespace Rows

/-- THE TIED CARD OF 'cressetlaw05.Fp2Turns'. -/
def fp2TurnsCard : Claim7 := { stood := { row := fp2TurnsRow, standIns := [], harness := (true, "1ab7164bdef477ce19df989d1d2527b35e99c6c2f580a664b1c38d46d4a5bc20"), looks := false }, kinds := [], alts := [], laidByText := true, laidKinds := [.data], laidTests := true, laidLooks := .later }
def Fp2TurnsCardSaid : Prop := Claim7.holds Tryd.pinned (.plain (OpenSpec.ofChange fp2TurnsSpec)) fp2TurnsCard

/-- THE TIED CARD OF 'cressetlaw05.Fp2Rules'. -/
def fp2RulesCard : Claim7 := { stood := { row := fp2RulesRow, standIns := [], harness := (true, "1ab7164bdef477ce19df989d1d2527b35e99c6c2f580a664b1c38d46d4a5bc20"), looks := false }, kinds := [], alts := [], laidByText := true, laidKinds := [.data], laidTests := true, laidLooks := .later }
def Fp2RulesCardSaid : Prop := Claim7.holds Tryd.pinned (.plain (OpenSpec.ofChange fp2RulesSpec)) fp2RulesCard

/-- THE TIED CARD OF 'cressetlaw05.Fp2Reads'. -/
def fp2ReadsCard : Claim7 := { stood := { row := fp2ReadsRow, standIns := [], harness := (true, "1ab7164bdef477ce19df989d1d2527b35e99c6c2f580a664b1c38d46d4a5bc20"), looks := false }, kinds := [], alts := [], laidByText := true, laidKinds := [.data, .data], laidTests := true, laidLooks := .later }
def Fp2ReadsCardSaid : Prop := Claim7.holds Tryd.pinned (.plain (OpenSpec.ofChange fp2ReadsSpec)) fp2ReadsCard

/-- THE TIED CARD OF 'cressetlaw05.Fp2Reckons'. -/
def fp2ReckonsCard : Claim7 := { stood := { row := fp2ReckonsRow, standIns := [], harness := (true, "1ab7164bdef477ce19df989d1d2527b35e99c6c2f580a664b1c38d46d4a5bc20"), looks := false }, kinds := [], alts := [], laidByText := true, laidKinds := [.data, .data], laidTests := true, laidLooks := .later }
def Fp2ReckonsCardSaid : Prop := Claim7.holds Tryd.pinned (.plain (OpenSpec.ofChange fp2ReckonsSpec)) fp2ReckonsCard

/-- THE TIED CARD OF 'cressetlaw05.Fp2Squares'. -/
def fp2SquaresCard : Claim7 := { stood := { row := fp2SquaresRow, standIns := [], harness := (true, "1ab7164bdef477ce19df989d1d2527b35e99c6c2f580a664b1c38d46d4a5bc20"), looks := false }, kinds := [], alts := [], laidByText := true, laidKinds := [.data, .data], laidTests := true, laidLooks := .later }
def Fp2SquaresCardSaid : Prop := Claim7.holds Tryd.pinned (.plain (OpenSpec.ofChange fp2SquaresSpec)) fp2SquaresCard

/-- THE TIED CARD OF 'cressetlaw05.Fp2Roots'. -/
def fp2RootsCard : Claim7 := { stood := { row := fp2RootsRow, standIns := [], harness := (true, "1ab7164bdef477ce19df989d1d2527b35e99c6c2f580a664b1c38d46d4a5bc20"), looks := false }, kinds := [], alts := [], laidByText := true, laidKinds := [.data, .data], laidTests := true, laidLooks := .later }
def Fp2RootsCardSaid : Prop := Claim7.holds Tryd.pinned (.plain (OpenSpec.ofChange fp2RootsSpec)) fp2RootsCard

/-- THE SECOND FORM's CARD OF 'cressetlaw05.Fp2Turns'. -/
def fp2TurnsUptoCard : Claim7 := { stood := { row := fp2TurnsUptoRow, standIns := [], harness := (true, "1ab7164bdef477ce19df989d1d2527b35e99c6c2f580a664b1c38d46d4a5bc20"), looks := false }, kinds := [], alts := [], laidByText := true, laidKinds := [.data], laidTests := true, laidLooks := .later }
def Fp2TurnsUptoCardSaid : Prop := Claim7.holds Tryd.pinned (.plain (OpenSpec.upto fp2TurnsSpec)) fp2TurnsUptoCard

/-- THE SECOND FORM's CARD OF 'cressetlaw05.Fp2Rules'. -/
def fp2RulesUptoCard : Claim7 := { stood := { row := fp2RulesUptoRow, standIns := [], harness := (true, "1ab7164bdef477ce19df989d1d2527b35e99c6c2f580a664b1c38d46d4a5bc20"), looks := false }, kinds := [], alts := [], laidByText := true, laidKinds := [.data], laidTests := true, laidLooks := .later }
def Fp2RulesUptoCardSaid : Prop := Claim7.holds Tryd.pinned (.plain (OpenSpec.upto fp2RulesSpec)) fp2RulesUptoCard

/-- THE SECOND FORM's CARD OF 'cressetlaw05.Fp2Reads'. -/
def fp2ReadsUptoCard : Claim7 := { stood := { row := fp2ReadsUptoRow, standIns := [], harness := (true, "1ab7164bdef477ce19df989d1d2527b35e99c6c2f580a664b1c38d46d4a5bc20"), looks := false }, kinds := [], alts := [], laidByText := true, laidKinds := [.data, .data], laidTests := true, laidLooks := .later }
def Fp2ReadsUptoCardSaid : Prop := Claim7.holds Tryd.pinned (.plain (OpenSpec.upto fp2ReadsSpec)) fp2ReadsUptoCard

/-- THE SECOND FORM's CARD OF 'cressetlaw05.Fp2Reckons'. -/
def fp2ReckonsUptoCard : Claim7 := { stood := { row := fp2ReckonsUptoRow, standIns := [], harness := (true, "1ab7164bdef477ce19df989d1d2527b35e99c6c2f580a664b1c38d46d4a5bc20"), looks := false }, kinds := [], alts := [], laidByText := true, laidKinds := [.data, .data], laidTests := true, laidLooks := .later }
def Fp2ReckonsUptoCardSaid : Prop := Claim7.holds Tryd.pinned (.plain (OpenSpec.upto fp2ReckonsSpec)) fp2ReckonsUptoCard

/-- THE SECOND FORM's CARD OF 'cressetlaw05.Fp2Squares'. -/
def fp2SquaresUptoCard : Claim7 := { stood := { row := fp2SquaresUptoRow, standIns := [], harness := (true, "1ab7164bdef477ce19df989d1d2527b35e99c6c2f580a664b1c38d46d4a5bc20"), looks := false }, kinds := [], alts := [], laidByText := true, laidKinds := [.data, .data], laidTests := true, laidLooks := .later }
def Fp2SquaresUptoCardSaid : Prop := Claim7.holds Tryd.pinned (.plain (OpenSpec.upto fp2SquaresSpec)) fp2SquaresUptoCard

/-- THE SECOND FORM's CARD OF 'cressetlaw05.Fp2Roots'. -/
def fp2RootsUptoCard : Claim7 := { stood := { row := fp2RootsUptoRow, standIns := [], harness := (true, "1ab7164bdef477ce19df989d1d2527b35e99c6c2f580a664b1c38d46d4a5bc20"), looks := false }, kinds := [], alts := [], laidByText := true, laidKinds := [.data, .data], laidTests := true, laidLooks := .later }
def Fp2RootsUptoCardSaid : Prop := Claim7.holds Tryd.pinned (.plain (OpenSpec.upto fp2RootsSpec)) fp2RootsUptoCard
end Rows
end Go.Proofs.YtkeommkcjigioaaDoor
