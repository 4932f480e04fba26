/-
  DERIVED. GIVEN WITH THE SEED: THE CARDS: each row of YteeckamdncdleaaDoorRows.lean that lists a variable, with what it lists TIED to the program's text (the seventh form; the later family's looks); each row that meets fmt, with fmt's text TOLD by the authors' own Lean function (tested against real Go, not proved from fmt's source: count such statements apart). THE CARD IS WHAT COUNTS. Prove the row's statement (the work); the ties are given (YteeckamdncdleaaDoorTie.lean); close each card by the builder's one call (the guide's Derived/Test/ToyasCard.lean, 'card_holds'). Laid BY PROGRAM, IN A SANDBOX (cutbox-door.mjs). By AI agents, Wed Nov 11 2026. No macro, syntax, notation, axiom, sorry.
-/
import Derived.Test.YteeckamdncdleaaDoorRows
import GoSem.ClaimSeven
namespace Go.Proofs.YteeckamdncdleaaDoor
namespace Rows

/-- THE TIED CARD OF 'cressetlaw04.FpRules'. -/
def fpRulesCard : Claim7 := { stood := { row := fpRulesRow, standIns := [], harness := (true, "5a4a00d018cc90f4b7ce7f5130ad5b81f41b537f3bf9a719045e887cac5778b3"), looks := false }, kinds := [], alts := [], laidByText := true, laidKinds := [.data, .data], laidTests := true, laidLooks := .later }
def FpRulesCardSaid : Prop := Claim7.holds Tryd.pinned (.plain (OpenSpec.ofChange fpRulesSpec)) fpRulesCard

/-- THE TIED CARD OF 'cressetlaw04.FpSquares'. -/
def fpSquaresCard : Claim7 := { stood := { row := fpSquaresRow, standIns := [], harness := (true, "5a4a00d018cc90f4b7ce7f5130ad5b81f41b537f3bf9a719045e887cac5778b3"), looks := false }, kinds := [], alts := [], laidByText := true, laidKinds := [.data, .data], laidTests := true, laidLooks := .later }
def FpSquaresCardSaid : Prop := Claim7.holds Tryd.pinned (.plain (OpenSpec.ofChange fpSquaresSpec)) fpSquaresCard

/-- THE TIED CARD OF 'cressetlaw04.FpInverts'. -/
def fpInvertsCard : Claim7 := { stood := { row := fpInvertsRow, standIns := [], harness := (true, "5a4a00d018cc90f4b7ce7f5130ad5b81f41b537f3bf9a719045e887cac5778b3"), looks := false }, kinds := [], alts := [], laidByText := true, laidKinds := [.data, .data], laidTests := true, laidLooks := .later }
def FpInvertsCardSaid : Prop := Claim7.holds Tryd.pinned (.plain (OpenSpec.ofChange fpInvertsSpec)) fpInvertsCard

/-- THE TIED CARD OF 'cressetlaw04.FpWide'. -/
def fpWideCard : Claim7 := { stood := { row := fpWideRow, standIns := [], harness := (true, "5a4a00d018cc90f4b7ce7f5130ad5b81f41b537f3bf9a719045e887cac5778b3"), looks := false }, kinds := [], alts := [], laidByText := true, laidKinds := [.data, .data], laidTests := true, laidLooks := .later }
def FpWideCardSaid : Prop := Claim7.holds Tryd.pinned (.plain (OpenSpec.ofChange fpWideSpec)) fpWideCard

/-- THE TIED CARD OF 'cressetlaw04.FpReads'. -/
def fpReadsCard : Claim7 := { stood := { row := fpReadsRow, standIns := [], harness := (true, "5a4a00d018cc90f4b7ce7f5130ad5b81f41b537f3bf9a719045e887cac5778b3"), looks := false }, kinds := [], alts := [], laidByText := true, laidKinds := [.data, .data], laidTests := true, laidLooks := .later }
def FpReadsCardSaid : Prop := Claim7.holds Tryd.pinned (.plain (OpenSpec.ofChange fpReadsSpec)) fpReadsCard

/-- THE TIED CARD OF 'cressetlaw04.FpRoots'. -/
def fpRootsCard : Claim7 := { stood := { row := fpRootsRow, standIns := [], harness := (true, "5a4a00d018cc90f4b7ce7f5130ad5b81f41b537f3bf9a719045e887cac5778b3"), looks := false }, kinds := [], alts := [], laidByText := true, laidKinds := [.data, .data], laidTests := true, laidLooks := .later }
def FpRootsCardSaid : Prop := Claim7.holds Tryd.pinned (.plain (OpenSpec.ofChange fpRootsSpec)) fpRootsCard

/-- THE TIED CARD OF 'cressetlaw04.FpReckons'. -/
def fpReckonsCard : Claim7 := { stood := { row := fpReckonsRow, standIns := [], harness := (true, "5a4a00d018cc90f4b7ce7f5130ad5b81f41b537f3bf9a719045e887cac5778b3"), looks := false }, kinds := [], alts := [], laidByText := true, laidKinds := [.data, .data], laidTests := true, laidLooks := .later }
def FpReckonsCardSaid : Prop := Claim7.holds Tryd.pinned (.plain (OpenSpec.ofChange fpReckonsSpec)) fpReckonsCard

/-- THE TIED CARD OF 'cressetlaw04.FpForms'. -/
def fpFormsCard : Claim7 := { stood := { row := fpFormsRow, standIns := [], harness := (true, "5a4a00d018cc90f4b7ce7f5130ad5b81f41b537f3bf9a719045e887cac5778b3"), looks := false }, kinds := [], alts := [], laidByText := true, laidKinds := [.data, .data], laidTests := true, laidLooks := .later }
def FpFormsCardSaid : Prop := Claim7.holds Tryd.pinned (.plain (OpenSpec.ofChange fpFormsSpec)) fpFormsCard

/-- THE SECOND FORM's CARD OF 'cressetlaw04.FpRules'. -/
def fpRulesUptoCard : Claim7 := { stood := { row := fpRulesUptoRow, standIns := [], harness := (true, "5a4a00d018cc90f4b7ce7f5130ad5b81f41b537f3bf9a719045e887cac5778b3"), looks := false }, kinds := [], alts := [], laidByText := true, laidKinds := [.data, .data], laidTests := true, laidLooks := .later }
def FpRulesUptoCardSaid : Prop := Claim7.holds Tryd.pinned (.plain (OpenSpec.upto fpRulesSpec)) fpRulesUptoCard

/-- THE SECOND FORM's CARD OF 'cressetlaw04.FpSquares'. -/
def fpSquaresUptoCard : Claim7 := { stood := { row := fpSquaresUptoRow, standIns := [], harness := (true, "5a4a00d018cc90f4b7ce7f5130ad5b81f41b537f3bf9a719045e887cac5778b3"), looks := false }, kinds := [], alts := [], laidByText := true, laidKinds := [.data, .data], laidTests := true, laidLooks := .later }
def FpSquaresUptoCardSaid : Prop := Claim7.holds Tryd.pinned (.plain (OpenSpec.upto fpSquaresSpec)) fpSquaresUptoCard

/-- THE SECOND FORM's CARD OF 'cressetlaw04.FpInverts'. -/
def fpInvertsUptoCard : Claim7 := { stood := { row := fpInvertsUptoRow, standIns := [], harness := (true, "5a4a00d018cc90f4b7ce7f5130ad5b81f41b537f3bf9a719045e887cac5778b3"), looks := false }, kinds := [], alts := [], laidByText := true, laidKinds := [.data, .data], laidTests := true, laidLooks := .later }
def FpInvertsUptoCardSaid : Prop := Claim7.holds Tryd.pinned (.plain (OpenSpec.upto fpInvertsSpec)) fpInvertsUptoCard

/-- THE SECOND FORM's CARD OF 'cressetlaw04.FpWide'. -/
def fpWideUptoCard : Claim7 := { stood := { row := fpWideUptoRow, standIns := [], harness := (true, "5a4a00d018cc90f4b7ce7f5130ad5b81f41b537f3bf9a719045e887cac5778b3"), looks := false }, kinds := [], alts := [], laidByText := true, laidKinds := [.data, .data], laidTests := true, laidLooks := .later }
def FpWideUptoCardSaid : Prop := Claim7.holds Tryd.pinned (.plain (OpenSpec.upto fpWideSpec)) fpWideUptoCard

/-- THE SECOND FORM's CARD OF 'cressetlaw04.FpReads'. -/
def fpReadsUptoCard : Claim7 := { stood := { row := fpReadsUptoRow, standIns := [], harness := (true, "5a4a00d018cc90f4b7ce7f5130ad5b81f41b537f3bf9a719045e887cac5778b3"), looks := false }, kinds := [], alts := [], laidByText := true, laidKinds := [.data, .data], laidTests := true, laidLooks := .later }
def FpReadsUptoCardSaid : Prop := Claim7.holds Tryd.pinned (.plain (OpenSpec.upto fpReadsSpec)) fpReadsUptoCard

/-- THE SECOND FORM's CARD OF 'cressetlaw04.FpRoots'. -/
def fpRootsUptoCard : Claim7 := { stood := { row := fpRootsUptoRow, standIns := [], harness := (true, "5a4a00d018cc90f4b7ce7f5130ad5b81f41b537f3bf9a719045e887cac5778b3"), looks := false }, kinds := [], alts := [], laidByText := true, laidKinds := [.data, .data], laidTests := true, laidLooks := .later }
def FpRootsUptoCardSaid : Prop := Claim7.holds Tryd.pinned (.plain (OpenSpec.upto fpRootsSpec)) fpRootsUptoCard

/-- THE SECOND FORM's CARD OF 'cressetlaw04.FpReckons'. -/
def fpReckonsUptoCard : Claim7 := { stood := { row := fpReckonsUptoRow, standIns := [], harness := (true, "5a4a00d018cc90f4b7ce7f5130ad5b81f41b537f3bf9a719045e887cac5778b3"), looks := false }, kinds := [], alts := [], laidByText := true, laidKinds := [.data, .data], laidTests := true, laidLooks := .later }
def FpReckonsUptoCardSaid : Prop := Claim7.holds Tryd.pinned (.plain (OpenSpec.upto fpReckonsSpec)) fpReckonsUptoCard

/-- THE SECOND FORM's CARD OF 'cressetlaw04.FpForms'. -/
def fpFormsUptoCard : Claim7 := { stood := { row := fpFormsUptoRow, standIns := [], harness := (true, "5a4a00d018cc90f4b7ce7f5130ad5b81f41b537f3bf9a719045e887cac5778b3"), looks := false }, kinds := [], alts := [], laidByText := true, laidKinds := [.data, .data], laidTests := true, laidLooks := .later }
def FpFormsUptoCardSaid : Prop := Claim7.holds Tryd.pinned (.plain (OpenSpec.upto fpFormsSpec)) fpFormsUptoCard
end Rows
end Go.Proofs.YteeckamdncdleaaDoor
