/-
  DERIVED. GIVEN WITH THE SEED: THE CARDS: each row of YtpinopjnlcbipaaDoorRows.lean that lists a variable, with what it lists TIED to the program's text (the seventh form; the later family's looks); each row that meets fmt, with fmt's text TOLD by the authors' own Lean function (tested against real Go, not proved from fmt's source: count such statements apart). THE CARD IS WHAT COUNTS. Prove the row's statement (the work); the ties are given (YtpinopjnlcbipaaDoorTie.lean); close each card by the builder's one call (the guide's Derived/Test/ToyasCard.lean, 'card_holds'). Laid BY PROGRAM, IN A SANDBOX (cutbox-door.mjs). By AI agents, Wed Nov 11 2026. No macro, syntax, notation, axiom, sorry.
-/
import Derived.Test.YtpinopjnlcbipaaDoorRows
import GoSem.ClaimSeven
namespace Go.Proofs.YtpinopjnlcbipaaDoor
namespace Rows

/-- THE TIED CARD OF 'cressetlaw03.FrCounts'. -/
def frCountsCard : Claim7 := { stood := { row := frCountsRow, standIns := [], harness := (true, "0bc45206b7c1a81e6b283bd63f403c85907873f6afec169a5b2ef2916fe14feb"), looks := false }, kinds := [], alts := [], laidByText := true, laidKinds := [.data, .data], laidTests := true, laidLooks := .later }
def FrCountsCardSaid : Prop := Claim7.holds Tryd.pinned (.plain (OpenSpec.ofChange frCountsSpec)) frCountsCard

/-- THE TIED CARD OF 'cressetlaw03.FrWide'. -/
def frWideCard : Claim7 := { stood := { row := frWideRow, standIns := [], harness := (true, "0bc45206b7c1a81e6b283bd63f403c85907873f6afec169a5b2ef2916fe14feb"), looks := false }, kinds := [], alts := [], laidByText := true, laidKinds := [.data, .data], laidTests := true, laidLooks := .later }
def FrWideCardSaid : Prop := Claim7.holds Tryd.pinned (.plain (OpenSpec.ofChange frWideSpec)) frWideCard

/-- THE TIED CARD OF 'cressetlaw03.FrInverts'. -/
def frInvertsCard : Claim7 := { stood := { row := frInvertsRow, standIns := [], harness := (true, "0bc45206b7c1a81e6b283bd63f403c85907873f6afec169a5b2ef2916fe14feb"), looks := false }, kinds := [], alts := [], laidByText := true, laidKinds := [.data, .data], laidTests := true, laidLooks := .later }
def FrInvertsCardSaid : Prop := Claim7.holds Tryd.pinned (.plain (OpenSpec.ofChange frInvertsSpec)) frInvertsCard

/-- THE TIED CARD OF 'cressetlaw03.FrRules'. -/
def frRulesCard : Claim7 := { stood := { row := frRulesRow, standIns := [], harness := (true, "0bc45206b7c1a81e6b283bd63f403c85907873f6afec169a5b2ef2916fe14feb"), looks := false }, kinds := [], alts := [], laidByText := true, laidKinds := [.data, .data], laidTests := true, laidLooks := .later }
def FrRulesCardSaid : Prop := Claim7.holds Tryd.pinned (.plain (OpenSpec.ofChange frRulesSpec)) frRulesCard

/-- THE TIED CARD OF 'cressetlaw03.FrReads'. -/
def frReadsCard : Claim7 := { stood := { row := frReadsRow, standIns := [], harness := (true, "0bc45206b7c1a81e6b283bd63f403c85907873f6afec169a5b2ef2916fe14feb"), looks := false }, kinds := [], alts := [], laidByText := true, laidKinds := [.data, .data], laidTests := true, laidLooks := .later }
def FrReadsCardSaid : Prop := Claim7.holds Tryd.pinned (.plain (OpenSpec.ofChange frReadsSpec)) frReadsCard

/-- THE TIED CARD OF 'cressetlaw03.FrReckons'. -/
def frReckonsCard : Claim7 := { stood := { row := frReckonsRow, standIns := [], harness := (true, "0bc45206b7c1a81e6b283bd63f403c85907873f6afec169a5b2ef2916fe14feb"), looks := false }, kinds := [], alts := [], laidByText := true, laidKinds := [.data, .data], laidTests := true, laidLooks := .later }
def FrReckonsCardSaid : Prop := Claim7.holds Tryd.pinned (.plain (OpenSpec.ofChange frReckonsSpec)) frReckonsCard

/-- THE TIED CARD OF 'cressetlaw03.FrForms'. -/
def frFormsCard : Claim7 := { stood := { row := frFormsRow, standIns := [], harness := (true, "0bc45206b7c1a81e6b283bd63f403c85907873f6afec169a5b2ef2916fe14feb"), looks := false }, kinds := [], alts := [], laidByText := true, laidKinds := [.data, .data], laidTests := true, laidLooks := .later }
def FrFormsCardSaid : Prop := Claim7.holds Tryd.pinned (.plain (OpenSpec.ofChange frFormsSpec)) frFormsCard

/-- THE SECOND FORM's CARD OF 'cressetlaw03.FrCounts'. -/
def frCountsUptoCard : Claim7 := { stood := { row := frCountsUptoRow, standIns := [], harness := (true, "0bc45206b7c1a81e6b283bd63f403c85907873f6afec169a5b2ef2916fe14feb"), looks := false }, kinds := [], alts := [], laidByText := true, laidKinds := [.data, .data], laidTests := true, laidLooks := .later }
def FrCountsUptoCardSaid : Prop := Claim7.holds Tryd.pinned (.plain (OpenSpec.upto frCountsSpec)) frCountsUptoCard

/-- THE SECOND FORM's CARD OF 'cressetlaw03.FrWide'. -/
def frWideUptoCard : Claim7 := { stood := { row := frWideUptoRow, standIns := [], harness := (true, "0bc45206b7c1a81e6b283bd63f403c85907873f6afec169a5b2ef2916fe14feb"), looks := false }, kinds := [], alts := [], laidByText := true, laidKinds := [.data, .data], laidTests := true, laidLooks := .later }
def FrWideUptoCardSaid : Prop := Claim7.holds Tryd.pinned (.plain (OpenSpec.upto frWideSpec)) frWideUptoCard

/-- THE SECOND FORM's CARD OF 'cressetlaw03.FrInverts'. -/
def frInvertsUptoCard : Claim7 := { stood := { row := frInvertsUptoRow, standIns := [], harness := (true, "0bc45206b7c1a81e6b283bd63f403c85907873f6afec169a5b2ef2916fe14feb"), looks := false }, kinds := [], alts := [], laidByText := true, laidKinds := [.data, .data], laidTests := true, laidLooks := .later }
def FrInvertsUptoCardSaid : Prop := Claim7.holds Tryd.pinned (.plain (OpenSpec.upto frInvertsSpec)) frInvertsUptoCard

/-- THE SECOND FORM's CARD OF 'cressetlaw03.FrRules'. -/
def frRulesUptoCard : Claim7 := { stood := { row := frRulesUptoRow, standIns := [], harness := (true, "0bc45206b7c1a81e6b283bd63f403c85907873f6afec169a5b2ef2916fe14feb"), looks := false }, kinds := [], alts := [], laidByText := true, laidKinds := [.data, .data], laidTests := true, laidLooks := .later }
def FrRulesUptoCardSaid : Prop := Claim7.holds Tryd.pinned (.plain (OpenSpec.upto frRulesSpec)) frRulesUptoCard

/-- THE SECOND FORM's CARD OF 'cressetlaw03.FrReads'. -/
def frReadsUptoCard : Claim7 := { stood := { row := frReadsUptoRow, standIns := [], harness := (true, "0bc45206b7c1a81e6b283bd63f403c85907873f6afec169a5b2ef2916fe14feb"), looks := false }, kinds := [], alts := [], laidByText := true, laidKinds := [.data, .data], laidTests := true, laidLooks := .later }
def FrReadsUptoCardSaid : Prop := Claim7.holds Tryd.pinned (.plain (OpenSpec.upto frReadsSpec)) frReadsUptoCard

/-- THE SECOND FORM's CARD OF 'cressetlaw03.FrReckons'. -/
def frReckonsUptoCard : Claim7 := { stood := { row := frReckonsUptoRow, standIns := [], harness := (true, "0bc45206b7c1a81e6b283bd63f403c85907873f6afec169a5b2ef2916fe14feb"), looks := false }, kinds := [], alts := [], laidByText := true, laidKinds := [.data, .data], laidTests := true, laidLooks := .later }
def FrReckonsUptoCardSaid : Prop := Claim7.holds Tryd.pinned (.plain (OpenSpec.upto frReckonsSpec)) frReckonsUptoCard

/-- THE SECOND FORM's CARD OF 'cressetlaw03.FrForms'. -/
def frFormsUptoCard : Claim7 := { stood := { row := frFormsUptoRow, standIns := [], harness := (true, "0bc45206b7c1a81e6b283bd63f403c85907873f6afec169a5b2ef2916fe14feb"), looks := false }, kinds := [], alts := [], laidByText := true, laidKinds := [.data, .data], laidTests := true, laidLooks := .later }
def FrFormsUptoCardSaid : Prop := Claim7.holds Tryd.pinned (.plain (OpenSpec.upto frFormsSpec)) frFormsUptoCard
end Rows
end Go.Proofs.YtpinopjnlcbipaaDoor
