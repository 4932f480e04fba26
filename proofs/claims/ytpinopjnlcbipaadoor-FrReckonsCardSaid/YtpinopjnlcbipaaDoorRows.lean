/-
  NARROWER THAN 'FOR EVERY INPUT', by the rows' own cells (each row's printed sentence says how): FrCounts: laid · FrWide: laid · FrInverts: laid · FrRules: laid · FrReads: laid · FrReckons: laid · FrForms: laid.
  DERIVED. THE GIVEN ROWS OF THIS SEAT. 7 by the template 'for every input the law returns true; each argument reads behind the call as it read before'; 0 by the template 'total and deterministic' (their statements: YtpinopjnlcbipaaDoorTotals.lean).
  GIVEN WITH THE SEED: the statements are not yours to turn. If you find one false, say at which input.
  Laid BY PROGRAM, IN A SANDBOX (cutbox-rows.mjs): the forced cells as the released guide's own fill.sh prints them over the translation 1f60071b516e1a7d… (all of the seat's roots in one cut). By AI agents, Wed Nov 11 2026. No macro, syntax, notation, axiom, sorry.
-/
import Derived.Test.YtpinopjnlcbipaaDoorChecked
import GoSem.Claim
import GoSem.ClaimJoined
import GoSem.ClaimMapViews
import Derived.JoinedTies
import Derived.KernelRfl
namespace Go.Proofs.YtpinopjnlcbipaaDoor
/- THE CELL 'sum', in the pinned program and in every row, IS THE sha256 OF THE DUMP (.gsa) THAT YtpinopjnlcbipaaDoorProg.lean LOADS. Nothing in Lean hashes anything: it is a label: what it is worth is what the hold of that sum in a sandbox is worth. -/
noncomputable def Tryd.pinned : Pinned := { name := "ytpinopjnlcbipaadoor", sum := "1f60071b516e1a7d77b34ceb3792bf774e113b7575f4034bde542233a48047e8", checked := Tryd.checked }
namespace Rows
def none {H : Type} : Left H := { results := [], args := [] }

/- WHAT THE LISTED PACKAGE-LEVEL VARIABLES READ AS WHEN THE CALL BEGINS. Each datum BY PROGRAM (the guide's laid-datum.mjs) off the statement by which the dump's own 'gosem.cut.vars' lays the variable. In a bare row this is a premise. The card (YtpinopjnlcbipaaDoorCards.lean) ties it to the program's text. -/
def laid_cresset_fr_modulus {H : Type} : DataW H := .agg [.lit (.int .u64 18446744069414584321), .lit (.int .u64 6034159408538082302), .lit (.int .u64 3691218898639771653), .lit (.int .u64 8353516859464449352)]
def laid_cresset_fr_square {H : Type} : DataW H := .agg [.lit (.int .u64 14526898881837571181), .lit (.int .u64 3129137299524312099), .lit (.int .u64 419701826671360399), .lit (.int .u64 524908885293268753)]

/-- 'cressetlaw03.FrCounts': WHATEVER THE INPUT: true; the input reads as it did. -/
def frCountsSpec : ChangeSpec := { name := "frCounts", fn := fun _ => fun
  | [d1, d2] => { results := [.lit (.bool true)], args := [d1, d2] }
  | _ => none }
def frCountsRow : OpenClaim := { program := "ytpinopjnlcbipaadoor", sum := "1f60071b516e1a7d77b34ceb3792bf774e113b7575f4034bde542233a48047e8", func := "cresset/cressetlaw03.FrCounts", spec := "frCounts", inPlace := ["math/bits.Add64", "math/bits.Sub64"], named := ["cresset/fr.square", "cresset/fr.modulus"], apart := false, laid := [("cresset/fr.modulus", laid_cresset_fr_modulus), ("cresset/fr.square", laid_cresset_fr_square)] }
def FrCountsSaid : Prop := frCountsRow.holds Tryd.pinned (OpenSpec.ofChange frCountsSpec)

/-- ITS FALSE NEIGHBOUR: 'it returns false'. Refute it at one input. -/
def frCountsWrong : ChangeSpec := { name := "frCounts", fn := fun _ => fun
  | [d1, d2] => { results := [.lit (.bool false)], args := [d1, d2] }
  | _ => none }
def FrCountsWrongFalsely : Prop := frCountsRow.holds Tryd.pinned (OpenSpec.ofChange frCountsWrong)

/-- 'cressetlaw03.FrWide': WHATEVER THE INPUT: true; the input reads as it did. -/
def frWideSpec : ChangeSpec := { name := "frWide", fn := fun _ => fun
  | [d] => { results := [.lit (.bool true)], args := [d] }
  | _ => none }
def frWideRow : OpenClaim := { program := "ytpinopjnlcbipaadoor", sum := "1f60071b516e1a7d77b34ceb3792bf774e113b7575f4034bde542233a48047e8", func := "cresset/cressetlaw03.FrWide", spec := "frWide", inPlace := ["math/bits.Add64", "math/bits.Sub64"], named := ["cresset/fr.square", "cresset/fr.modulus"], apart := false, laid := [("cresset/fr.modulus", laid_cresset_fr_modulus), ("cresset/fr.square", laid_cresset_fr_square)] }
def FrWideSaid : Prop := frWideRow.holds Tryd.pinned (OpenSpec.ofChange frWideSpec)

/-- ITS FALSE NEIGHBOUR: 'it returns false'. Refute it at one input. -/
def frWideWrong : ChangeSpec := { name := "frWide", fn := fun _ => fun
  | [d] => { results := [.lit (.bool false)], args := [d] }
  | _ => none }
def FrWideWrongFalsely : Prop := frWideRow.holds Tryd.pinned (OpenSpec.ofChange frWideWrong)

/-- 'cressetlaw03.FrInverts': WHATEVER THE INPUT: true; the input reads as it did. -/
def frInvertsSpec : ChangeSpec := { name := "frInverts", fn := fun _ => fun
  | [d1, d2] => { results := [.lit (.bool true)], args := [d1, d2] }
  | _ => none }
def frInvertsRow : OpenClaim := { program := "ytpinopjnlcbipaadoor", sum := "1f60071b516e1a7d77b34ceb3792bf774e113b7575f4034bde542233a48047e8", func := "cresset/cressetlaw03.FrInverts", spec := "frInverts", inPlace := ["math/bits.Add64", "math/bits.Sub64"], named := ["cresset/fr.square", "cresset/fr.modulus"], apart := false, laid := [("cresset/fr.modulus", laid_cresset_fr_modulus), ("cresset/fr.square", laid_cresset_fr_square)] }
def FrInvertsSaid : Prop := frInvertsRow.holds Tryd.pinned (OpenSpec.ofChange frInvertsSpec)

/-- ITS FALSE NEIGHBOUR: 'it returns false'. Refute it at one input. -/
def frInvertsWrong : ChangeSpec := { name := "frInverts", fn := fun _ => fun
  | [d1, d2] => { results := [.lit (.bool false)], args := [d1, d2] }
  | _ => none }
def FrInvertsWrongFalsely : Prop := frInvertsRow.holds Tryd.pinned (OpenSpec.ofChange frInvertsWrong)

/-- 'cressetlaw03.FrRules': WHATEVER THE INPUT: true; the input reads as it did. -/
def frRulesSpec : ChangeSpec := { name := "frRules", fn := fun _ => fun
  | [d1, d2, d3] => { results := [.lit (.bool true)], args := [d1, d2, d3] }
  | _ => none }
def frRulesRow : OpenClaim := { program := "ytpinopjnlcbipaadoor", sum := "1f60071b516e1a7d77b34ceb3792bf774e113b7575f4034bde542233a48047e8", func := "cresset/cressetlaw03.FrRules", spec := "frRules", inPlace := ["math/bits.Add64", "math/bits.Sub64"], named := ["cresset/fr.square", "cresset/fr.modulus"], apart := false, laid := [("cresset/fr.modulus", laid_cresset_fr_modulus), ("cresset/fr.square", laid_cresset_fr_square)] }
def FrRulesSaid : Prop := frRulesRow.holds Tryd.pinned (OpenSpec.ofChange frRulesSpec)

/-- ITS FALSE NEIGHBOUR: 'it returns false'. Refute it at one input. -/
def frRulesWrong : ChangeSpec := { name := "frRules", fn := fun _ => fun
  | [d1, d2, d3] => { results := [.lit (.bool false)], args := [d1, d2, d3] }
  | _ => none }
def FrRulesWrongFalsely : Prop := frRulesRow.holds Tryd.pinned (OpenSpec.ofChange frRulesWrong)

/-- 'cressetlaw03.FrReads': WHATEVER THE INPUT: true; the input reads as it did. -/
def frReadsSpec : ChangeSpec := { name := "frReads", fn := fun _ => fun
  | [d1, d2] => { results := [.lit (.bool true)], args := [d1, d2] }
  | _ => none }
def frReadsRow : OpenClaim := { program := "ytpinopjnlcbipaadoor", sum := "1f60071b516e1a7d77b34ceb3792bf774e113b7575f4034bde542233a48047e8", func := "cresset/cressetlaw03.FrReads", spec := "frReads", inPlace := ["math/bits.Add64", "math/bits.Sub64"], named := ["cresset/fr.square", "cresset/fr.modulus"], apart := false, laid := [("cresset/fr.modulus", laid_cresset_fr_modulus), ("cresset/fr.square", laid_cresset_fr_square)] }
def FrReadsSaid : Prop := frReadsRow.holds Tryd.pinned (OpenSpec.ofChange frReadsSpec)

/-- ITS FALSE NEIGHBOUR: 'it returns false'. Refute it at one input. -/
def frReadsWrong : ChangeSpec := { name := "frReads", fn := fun _ => fun
  | [d1, d2] => { results := [.lit (.bool false)], args := [d1, d2] }
  | _ => none }
def FrReadsWrongFalsely : Prop := frReadsRow.holds Tryd.pinned (OpenSpec.ofChange frReadsWrong)

/-- 'cressetlaw03.FrReckons': WHATEVER THE INPUT: true; the input reads as it did. -/
def frReckonsSpec : ChangeSpec := { name := "frReckons", fn := fun _ => fun
  | [d1, d2] => { results := [.lit (.bool true)], args := [d1, d2] }
  | _ => none }
def frReckonsRow : OpenClaim := { program := "ytpinopjnlcbipaadoor", sum := "1f60071b516e1a7d77b34ceb3792bf774e113b7575f4034bde542233a48047e8", func := "cresset/cressetlaw03.FrReckons", spec := "frReckons", inPlace := ["math/bits.Add64", "math/bits.Sub64"], named := ["cresset/fr.square", "cresset/fr.modulus"], apart := false, laid := [("cresset/fr.modulus", laid_cresset_fr_modulus), ("cresset/fr.square", laid_cresset_fr_square)] }
def FrReckonsSaid : Prop := frReckonsRow.holds Tryd.pinned (OpenSpec.ofChange frReckonsSpec)

/-- ITS FALSE NEIGHBOUR: 'it returns false'. Refute it at one input. -/
def frReckonsWrong : ChangeSpec := { name := "frReckons", fn := fun _ => fun
  | [d1, d2] => { results := [.lit (.bool false)], args := [d1, d2] }
  | _ => none }
def FrReckonsWrongFalsely : Prop := frReckonsRow.holds Tryd.pinned (OpenSpec.ofChange frReckonsWrong)

/-- 'cressetlaw03.FrForms': WHATEVER THE INPUT: true; the input reads as it did. -/
def frFormsSpec : ChangeSpec := { name := "frForms", fn := fun _ => fun
  | [d1, d2] => { results := [.lit (.bool true)], args := [d1, d2] }
  | _ => none }
def frFormsRow : OpenClaim := { program := "ytpinopjnlcbipaadoor", sum := "1f60071b516e1a7d77b34ceb3792bf774e113b7575f4034bde542233a48047e8", func := "cresset/cressetlaw03.FrForms", spec := "frForms", inPlace := ["math/bits.Add64", "math/bits.Sub64"], named := ["cresset/fr.square", "cresset/fr.modulus"], apart := false, laid := [("cresset/fr.modulus", laid_cresset_fr_modulus), ("cresset/fr.square", laid_cresset_fr_square)] }
def FrFormsSaid : Prop := frFormsRow.holds Tryd.pinned (OpenSpec.ofChange frFormsSpec)

/-- ITS FALSE NEIGHBOUR: 'it returns false'. Refute it at one input. -/
def frFormsWrong : ChangeSpec := { name := "frForms", fn := fun _ => fun
  | [d1, d2] => { results := [.lit (.bool false)], args := [d1, d2] }
  | _ => none }
def FrFormsWrongFalsely : Prop := frFormsRow.holds Tryd.pinned (OpenSpec.ofChange frFormsWrong)

/- THE SECOND FORM. 'bulk': how many values and letters a reading holds, each counted each time it is reached (what is shared counts as often as it is met; a slice's spare places count too). A statement '..UptoSaid' is the law's where the arguments, and the package variables that the reading takes, are together of bulk at most 1048576: NARROWER than '..Said'. Prove '..Said' where nothing that the law and all that it calls make is longer than what came in: it says more and counts as full. Else prove '..UptoSaid'. A law counts once. -/
mutual
def uptoBulk {H : Type} : DataW H → Nat
  | .lit (.string bytes) => bytes.length + 1
  | .lit _ => 1
  | .nil => 1
  | .ptr d => uptoBulk d + 1
  | .slice elems spare => uptoBulkAll elems + uptoBulkAll spare + 1
  | .agg parts => uptoBulkAll parts + 1
  | .iface _ d => uptoBulk d + 1
  | .map entries => uptoBulkEntries entries + 1
  | .held _ => 1
def uptoBulkAll {H : Type} : List (DataW H) → Nat
  | [] => 0
  | d :: r => uptoBulk d + uptoBulkAll r
def uptoBulkEntries {H : Type} : List (Lit × DataW H) → Nat
  | [] => 0
  | x :: r => uptoBulkEntry x + uptoBulkEntries r
def uptoBulkEntry {H : Type} : Lit × DataW H → Nat
  | (.string bytes, d) => bytes.length + uptoBulk d + 1
  | (_, d) => uptoBulk d + 1
 end
def uptoSmall : (H : Type) → List (DataW H) → Bool := fun _ ds => decide (uptoBulkAll ds ≤ 1048576)
def OpenSpec.upto (s : _root_.Go.ChangeSpec) : _root_.Go.OpenSpec := { _root_.Go.OpenSpec.ofChange s with cond := some uptoSmall }

/-- 'cressetlaw03.FrCounts', WHERE WHAT IT READS IS OF BULK AT MOST 1048576: true; the input reads as it did. -/
def frCountsUptoRow : OpenClaim := { program := "ytpinopjnlcbipaadoor", sum := "1f60071b516e1a7d77b34ceb3792bf774e113b7575f4034bde542233a48047e8", func := "cresset/cressetlaw03.FrCounts", spec := "frCounts", inPlace := ["math/bits.Add64", "math/bits.Sub64"], named := ["cresset/fr.square", "cresset/fr.modulus"], apart := false, laid := [("cresset/fr.modulus", laid_cresset_fr_modulus), ("cresset/fr.square", laid_cresset_fr_square)], narrowed := true }
def FrCountsUptoSaid : Prop := frCountsUptoRow.holds Tryd.pinned (OpenSpec.upto frCountsSpec)

/-- 'cressetlaw03.FrWide', WHERE WHAT IT READS IS OF BULK AT MOST 1048576: true; the input reads as it did. -/
def frWideUptoRow : OpenClaim := { program := "ytpinopjnlcbipaadoor", sum := "1f60071b516e1a7d77b34ceb3792bf774e113b7575f4034bde542233a48047e8", func := "cresset/cressetlaw03.FrWide", spec := "frWide", inPlace := ["math/bits.Add64", "math/bits.Sub64"], named := ["cresset/fr.square", "cresset/fr.modulus"], apart := false, laid := [("cresset/fr.modulus", laid_cresset_fr_modulus), ("cresset/fr.square", laid_cresset_fr_square)], narrowed := true }
def FrWideUptoSaid : Prop := frWideUptoRow.holds Tryd.pinned (OpenSpec.upto frWideSpec)

/-- 'cressetlaw03.FrInverts', WHERE WHAT IT READS IS OF BULK AT MOST 1048576: true; the input reads as it did. -/
def frInvertsUptoRow : OpenClaim := { program := "ytpinopjnlcbipaadoor", sum := "1f60071b516e1a7d77b34ceb3792bf774e113b7575f4034bde542233a48047e8", func := "cresset/cressetlaw03.FrInverts", spec := "frInverts", inPlace := ["math/bits.Add64", "math/bits.Sub64"], named := ["cresset/fr.square", "cresset/fr.modulus"], apart := false, laid := [("cresset/fr.modulus", laid_cresset_fr_modulus), ("cresset/fr.square", laid_cresset_fr_square)], narrowed := true }
def FrInvertsUptoSaid : Prop := frInvertsUptoRow.holds Tryd.pinned (OpenSpec.upto frInvertsSpec)

/-- 'cressetlaw03.FrRules', WHERE WHAT IT READS IS OF BULK AT MOST 1048576: true; the input reads as it did. -/
def frRulesUptoRow : OpenClaim := { program := "ytpinopjnlcbipaadoor", sum := "1f60071b516e1a7d77b34ceb3792bf774e113b7575f4034bde542233a48047e8", func := "cresset/cressetlaw03.FrRules", spec := "frRules", inPlace := ["math/bits.Add64", "math/bits.Sub64"], named := ["cresset/fr.square", "cresset/fr.modulus"], apart := false, laid := [("cresset/fr.modulus", laid_cresset_fr_modulus), ("cresset/fr.square", laid_cresset_fr_square)], narrowed := true }
def FrRulesUptoSaid : Prop := frRulesUptoRow.holds Tryd.pinned (OpenSpec.upto frRulesSpec)

/-- 'cressetlaw03.FrReads', WHERE WHAT IT READS IS OF BULK AT MOST 1048576: true; the input reads as it did. -/
def frReadsUptoRow : OpenClaim := { program := "ytpinopjnlcbipaadoor", sum := "1f60071b516e1a7d77b34ceb3792bf774e113b7575f4034bde542233a48047e8", func := "cresset/cressetlaw03.FrReads", spec := "frReads", inPlace := ["math/bits.Add64", "math/bits.Sub64"], named := ["cresset/fr.square", "cresset/fr.modulus"], apart := false, laid := [("cresset/fr.modulus", laid_cresset_fr_modulus), ("cresset/fr.square", laid_cresset_fr_square)], narrowed := true }
def FrReadsUptoSaid : Prop := frReadsUptoRow.holds Tryd.pinned (OpenSpec.upto frReadsSpec)

/-- 'cressetlaw03.FrReckons', WHERE WHAT IT READS IS OF BULK AT MOST 1048576: true; the input reads as it did. -/
def frReckonsUptoRow : OpenClaim := { program := "ytpinopjnlcbipaadoor", sum := "1f60071b516e1a7d77b34ceb3792bf774e113b7575f4034bde542233a48047e8", func := "cresset/cressetlaw03.FrReckons", spec := "frReckons", inPlace := ["math/bits.Add64", "math/bits.Sub64"], named := ["cresset/fr.square", "cresset/fr.modulus"], apart := false, laid := [("cresset/fr.modulus", laid_cresset_fr_modulus), ("cresset/fr.square", laid_cresset_fr_square)], narrowed := true }
def FrReckonsUptoSaid : Prop := frReckonsUptoRow.holds Tryd.pinned (OpenSpec.upto frReckonsSpec)

/-- 'cressetlaw03.FrForms', WHERE WHAT IT READS IS OF BULK AT MOST 1048576: true; the input reads as it did. -/
def frFormsUptoRow : OpenClaim := { program := "ytpinopjnlcbipaadoor", sum := "1f60071b516e1a7d77b34ceb3792bf774e113b7575f4034bde542233a48047e8", func := "cresset/cressetlaw03.FrForms", spec := "frForms", inPlace := ["math/bits.Add64", "math/bits.Sub64"], named := ["cresset/fr.square", "cresset/fr.modulus"], apart := false, laid := [("cresset/fr.modulus", laid_cresset_fr_modulus), ("cresset/fr.square", laid_cresset_fr_square)], narrowed := true }
def FrFormsUptoSaid : Prop := frFormsUptoRow.holds Tryd.pinned (OpenSpec.upto frFormsSpec)

end Rows
end Go.Proofs.YtpinopjnlcbipaaDoor
