/-
  NARROWER THAN 'FOR EVERY INPUT', by the rows' own cells (each row's printed sentence says how): FpRules: laid · FpSquares: laid · FpInverts: laid · FpWide: laid · FpReads: laid · FpRoots: laid · FpReckons: laid · FpForms: laid.
  DERIVED. THE GIVEN ROWS OF THIS SEAT. 8 by the template 'for every input the law returns true; each argument reads behind the call as it read before'; 0 by the template 'total and deterministic' (their statements: YteeckamdncdleaaDoorTotals.lean).
  GIVEN WITH THE SEED: the statements are not yours to turn. If you find one false, say at which input.
  Laid BY PROGRAM, IN A SANDBOX (cutbox-rows.mjs): the forced cells as the released guide's own fill.sh prints them over the translation 9c514d32642f3174… (all of the seat's roots in one cut). By AI agents, Wed Nov 11 2026. No macro, syntax, notation, axiom, sorry.
-/
import Derived.Test.YteeckamdncdleaaDoorChecked
import GoSem.Claim
import GoSem.ClaimJoined
import GoSem.ClaimMapViews
import Derived.JoinedTies
import Derived.KernelRfl
namespace Go.Proofs.YteeckamdncdleaaDoor
/- THE CELL 'sum', in the pinned program and in every row, IS THE sha256 OF THE DUMP (.gsa) THAT YteeckamdncdleaaDoorProg.lean LOADS. Nothing in Lean hashes anything: it is a label: what it is worth is what the hold of that sum in a sandbox is worth. -/
noncomputable def Tryd.pinned : Pinned := { name := "yteeckamdncdleaadoor", sum := "9c514d32642f3174763652c4403d3967435f60b999c83ee743353d57ffcc21a4", checked := Tryd.checked }
namespace Rows
def none {H : Type} : Left H := { results := [], args := [] }

/- WHAT THE LISTED PACKAGE-LEVEL VARIABLES READ AS WHEN THE CALL BEGINS. Each datum BY PROGRAM (the guide's laid-datum.mjs) off the statement by which the dump's own 'gosem.cut.vars' lays the variable. In a bare row this is a premise. The card (YteeckamdncdleaaDoorCards.lean) ties it to the program's text. -/
def laid_cresset_fp_modulus {H : Type} : DataW H := .agg [.lit (.int .u64 13402431016077863595), .lit (.int .u64 2210141511517208575), .lit (.int .u64 7435674573564081700), .lit (.int .u64 7239337960414712511), .lit (.int .u64 5412103778470702295), .lit (.int .u64 1873798617647539866)]
def laid_cresset_fp_square {H : Type} : DataW H := .agg [.lit (.int .u64 17644856173732828998), .lit (.int .u64 754043588434789617), .lit (.int .u64 10224657059481499349), .lit (.int .u64 7488229067341005760), .lit (.int .u64 11130996698012816685), .lit (.int .u64 1267921511277847466)]

/-- 'cressetlaw04.FpRules': WHATEVER THE INPUT: true; the input reads as it did. -/
def fpRulesSpec : ChangeSpec := { name := "fpRules", fn := fun _ => fun
  | [d1, d2, d3] => { results := [.lit (.bool true)], args := [d1, d2, d3] }
  | _ => none }
def fpRulesRow : OpenClaim := { program := "yteeckamdncdleaadoor", sum := "9c514d32642f3174763652c4403d3967435f60b999c83ee743353d57ffcc21a4", func := "cresset/cressetlaw04.FpRules", spec := "fpRules", inPlace := ["math/bits.Add64", "math/bits.Sub64"], named := ["cresset/fp.square", "cresset/fp.modulus"], apart := false, laid := [("cresset/fp.modulus", laid_cresset_fp_modulus), ("cresset/fp.square", laid_cresset_fp_square)] }
def FpRulesSaid : Prop := fpRulesRow.holds Tryd.pinned (OpenSpec.ofChange fpRulesSpec)

/-- ITS FALSE NEIGHBOUR: 'it returns false'. Refute it at one input. -/
def fpRulesWrong : ChangeSpec := { name := "fpRules", fn := fun _ => fun
  | [d1, d2, d3] => { results := [.lit (.bool false)], args := [d1, d2, d3] }
  | _ => none }
def FpRulesWrongFalsely : Prop := fpRulesRow.holds Tryd.pinned (OpenSpec.ofChange fpRulesWrong)

/-- 'cressetlaw04.FpSquares': WHATEVER THE INPUT: true; the input reads as it did. -/
def fpSquaresSpec : ChangeSpec := { name := "fpSquares", fn := fun _ => fun
  | [d] => { results := [.lit (.bool true)], args := [d] }
  | _ => none }
def fpSquaresRow : OpenClaim := { program := "yteeckamdncdleaadoor", sum := "9c514d32642f3174763652c4403d3967435f60b999c83ee743353d57ffcc21a4", func := "cresset/cressetlaw04.FpSquares", spec := "fpSquares", inPlace := ["math/bits.Add64", "math/bits.Sub64"], named := ["cresset/fp.square", "cresset/fp.modulus"], apart := false, laid := [("cresset/fp.modulus", laid_cresset_fp_modulus), ("cresset/fp.square", laid_cresset_fp_square)] }
def FpSquaresSaid : Prop := fpSquaresRow.holds Tryd.pinned (OpenSpec.ofChange fpSquaresSpec)

/-- ITS FALSE NEIGHBOUR: 'it returns false'. Refute it at one input. -/
def fpSquaresWrong : ChangeSpec := { name := "fpSquares", fn := fun _ => fun
  | [d] => { results := [.lit (.bool false)], args := [d] }
  | _ => none }
def FpSquaresWrongFalsely : Prop := fpSquaresRow.holds Tryd.pinned (OpenSpec.ofChange fpSquaresWrong)

/-- 'cressetlaw04.FpInverts': WHATEVER THE INPUT: true; the input reads as it did. -/
def fpInvertsSpec : ChangeSpec := { name := "fpInverts", fn := fun _ => fun
  | [d1, d2] => { results := [.lit (.bool true)], args := [d1, d2] }
  | _ => none }
def fpInvertsRow : OpenClaim := { program := "yteeckamdncdleaadoor", sum := "9c514d32642f3174763652c4403d3967435f60b999c83ee743353d57ffcc21a4", func := "cresset/cressetlaw04.FpInverts", spec := "fpInverts", inPlace := ["math/bits.Add64", "math/bits.Sub64"], named := ["cresset/fp.square", "cresset/fp.modulus"], apart := false, laid := [("cresset/fp.modulus", laid_cresset_fp_modulus), ("cresset/fp.square", laid_cresset_fp_square)] }
def FpInvertsSaid : Prop := fpInvertsRow.holds Tryd.pinned (OpenSpec.ofChange fpInvertsSpec)

/-- ITS FALSE NEIGHBOUR: 'it returns false'. Refute it at one input. -/
def fpInvertsWrong : ChangeSpec := { name := "fpInverts", fn := fun _ => fun
  | [d1, d2] => { results := [.lit (.bool false)], args := [d1, d2] }
  | _ => none }
def FpInvertsWrongFalsely : Prop := fpInvertsRow.holds Tryd.pinned (OpenSpec.ofChange fpInvertsWrong)

/-- 'cressetlaw04.FpWide': WHATEVER THE INPUT: true; the input reads as it did. -/
def fpWideSpec : ChangeSpec := { name := "fpWide", fn := fun _ => fun
  | [d] => { results := [.lit (.bool true)], args := [d] }
  | _ => none }
def fpWideRow : OpenClaim := { program := "yteeckamdncdleaadoor", sum := "9c514d32642f3174763652c4403d3967435f60b999c83ee743353d57ffcc21a4", func := "cresset/cressetlaw04.FpWide", spec := "fpWide", inPlace := ["math/bits.Add64", "math/bits.Sub64"], named := ["cresset/fp.square", "cresset/fp.modulus"], apart := false, laid := [("cresset/fp.modulus", laid_cresset_fp_modulus), ("cresset/fp.square", laid_cresset_fp_square)] }
def FpWideSaid : Prop := fpWideRow.holds Tryd.pinned (OpenSpec.ofChange fpWideSpec)

/-- ITS FALSE NEIGHBOUR: 'it returns false'. Refute it at one input. -/
def fpWideWrong : ChangeSpec := { name := "fpWide", fn := fun _ => fun
  | [d] => { results := [.lit (.bool false)], args := [d] }
  | _ => none }
def FpWideWrongFalsely : Prop := fpWideRow.holds Tryd.pinned (OpenSpec.ofChange fpWideWrong)

/-- 'cressetlaw04.FpReads': WHATEVER THE INPUT: true; the input reads as it did. -/
def fpReadsSpec : ChangeSpec := { name := "fpReads", fn := fun _ => fun
  | [d1, d2] => { results := [.lit (.bool true)], args := [d1, d2] }
  | _ => none }
def fpReadsRow : OpenClaim := { program := "yteeckamdncdleaadoor", sum := "9c514d32642f3174763652c4403d3967435f60b999c83ee743353d57ffcc21a4", func := "cresset/cressetlaw04.FpReads", spec := "fpReads", inPlace := ["math/bits.Add64", "math/bits.Sub64"], named := ["cresset/fp.square", "cresset/fp.modulus"], apart := false, laid := [("cresset/fp.modulus", laid_cresset_fp_modulus), ("cresset/fp.square", laid_cresset_fp_square)] }
def FpReadsSaid : Prop := fpReadsRow.holds Tryd.pinned (OpenSpec.ofChange fpReadsSpec)

/-- ITS FALSE NEIGHBOUR: 'it returns false'. Refute it at one input. -/
def fpReadsWrong : ChangeSpec := { name := "fpReads", fn := fun _ => fun
  | [d1, d2] => { results := [.lit (.bool false)], args := [d1, d2] }
  | _ => none }
def FpReadsWrongFalsely : Prop := fpReadsRow.holds Tryd.pinned (OpenSpec.ofChange fpReadsWrong)

/-- 'cressetlaw04.FpRoots': WHATEVER THE INPUT: true; the input reads as it did. -/
def fpRootsSpec : ChangeSpec := { name := "fpRoots", fn := fun _ => fun
  | [d] => { results := [.lit (.bool true)], args := [d] }
  | _ => none }
def fpRootsRow : OpenClaim := { program := "yteeckamdncdleaadoor", sum := "9c514d32642f3174763652c4403d3967435f60b999c83ee743353d57ffcc21a4", func := "cresset/cressetlaw04.FpRoots", spec := "fpRoots", inPlace := ["math/bits.Add64", "math/bits.Sub64"], named := ["cresset/fp.square", "cresset/fp.modulus"], apart := false, laid := [("cresset/fp.modulus", laid_cresset_fp_modulus), ("cresset/fp.square", laid_cresset_fp_square)] }
def FpRootsSaid : Prop := fpRootsRow.holds Tryd.pinned (OpenSpec.ofChange fpRootsSpec)

/-- ITS FALSE NEIGHBOUR: 'it returns false'. Refute it at one input. -/
def fpRootsWrong : ChangeSpec := { name := "fpRoots", fn := fun _ => fun
  | [d] => { results := [.lit (.bool false)], args := [d] }
  | _ => none }
def FpRootsWrongFalsely : Prop := fpRootsRow.holds Tryd.pinned (OpenSpec.ofChange fpRootsWrong)

/-- 'cressetlaw04.FpReckons': WHATEVER THE INPUT: true; the input reads as it did. -/
def fpReckonsSpec : ChangeSpec := { name := "fpReckons", fn := fun _ => fun
  | [d1, d2] => { results := [.lit (.bool true)], args := [d1, d2] }
  | _ => none }
def fpReckonsRow : OpenClaim := { program := "yteeckamdncdleaadoor", sum := "9c514d32642f3174763652c4403d3967435f60b999c83ee743353d57ffcc21a4", func := "cresset/cressetlaw04.FpReckons", spec := "fpReckons", inPlace := ["math/bits.Add64", "math/bits.Sub64"], named := ["cresset/fp.square", "cresset/fp.modulus"], apart := false, laid := [("cresset/fp.modulus", laid_cresset_fp_modulus), ("cresset/fp.square", laid_cresset_fp_square)] }
def FpReckonsSaid : Prop := fpReckonsRow.holds Tryd.pinned (OpenSpec.ofChange fpReckonsSpec)

/-- ITS FALSE NEIGHBOUR: 'it returns false'. Refute it at one input. -/
def fpReckonsWrong : ChangeSpec := { name := "fpReckons", fn := fun _ => fun
  | [d1, d2] => { results := [.lit (.bool false)], args := [d1, d2] }
  | _ => none }
def FpReckonsWrongFalsely : Prop := fpReckonsRow.holds Tryd.pinned (OpenSpec.ofChange fpReckonsWrong)

/-- 'cressetlaw04.FpForms': WHATEVER THE INPUT: true; the input reads as it did. -/
def fpFormsSpec : ChangeSpec := { name := "fpForms", fn := fun _ => fun
  | [d1, d2] => { results := [.lit (.bool true)], args := [d1, d2] }
  | _ => none }
def fpFormsRow : OpenClaim := { program := "yteeckamdncdleaadoor", sum := "9c514d32642f3174763652c4403d3967435f60b999c83ee743353d57ffcc21a4", func := "cresset/cressetlaw04.FpForms", spec := "fpForms", inPlace := ["math/bits.Add64", "math/bits.Sub64"], named := ["cresset/fp.square", "cresset/fp.modulus"], apart := false, laid := [("cresset/fp.modulus", laid_cresset_fp_modulus), ("cresset/fp.square", laid_cresset_fp_square)] }
def FpFormsSaid : Prop := fpFormsRow.holds Tryd.pinned (OpenSpec.ofChange fpFormsSpec)

/-- ITS FALSE NEIGHBOUR: 'it returns false'. Refute it at one input. -/
def fpFormsWrong : ChangeSpec := { name := "fpForms", fn := fun _ => fun
  | [d1, d2] => { results := [.lit (.bool false)], args := [d1, d2] }
  | _ => none }
def FpFormsWrongFalsely : Prop := fpFormsRow.holds Tryd.pinned (OpenSpec.ofChange fpFormsWrong)

/- THE SECOND FORM. 'bulk': how many values and letters a reading holds, each counted each time it is reached (what is shared counts as often as it is met; a slice's spare places count too). A statement '..UptoSaid' is the law's where the arguments, and the package variables that the reading takes, are together of bulk at most 1048576: NARROWER than '..Said'. Prove '..Said' where nothing that the law and all that it calls make is longer than what came in: it says more and counts as full. Else prove '..UptoSaid'. A law counts once. -/
mutual
def uptoBulk {H : Type} : DataW H → Nat
  | .lit (.string bytes) => bytes.length + 1
  | .lit _ => 1
  | .nil => 1
  | .ptr d => uptoBulk d + 1
  | .slice elems spare => uptoBulkAll elems + uptoBulkAll spare + 1
  | .agg parts => uptoBulkAll parts + 1
  | .iface _ d => uptoBulk d + 1
  | .map entries => uptoBulkEntries entries + 1
  | .held _ => 1
def uptoBulkAll {H : Type} : List (DataW H) → Nat
  | [] => 0
  | d :: r => uptoBulk d + uptoBulkAll r
def uptoBulkEntries {H : Type} : List (Lit × DataW H) → Nat
  | [] => 0
  | x :: r => uptoBulkEntry x + uptoBulkEntries r
def uptoBulkEntry {H : Type} : Lit × DataW H → Nat
  | (.string bytes, d) => bytes.length + uptoBulk d + 1
  | (_, d) => uptoBulk d + 1
 end
def uptoSmall : (H : Type) → List (DataW H) → Bool := fun _ ds => decide (uptoBulkAll ds ≤ 1048576)
def OpenSpec.upto (s : _root_.Go.ChangeSpec) : _root_.Go.OpenSpec := { _root_.Go.OpenSpec.ofChange s with cond := some uptoSmall }

/-- 'cressetlaw04.FpRules', WHERE WHAT IT READS IS OF BULK AT MOST 1048576: true; the input reads as it did. -/
def fpRulesUptoRow : OpenClaim := { program := "yteeckamdncdleaadoor", sum := "9c514d32642f3174763652c4403d3967435f60b999c83ee743353d57ffcc21a4", func := "cresset/cressetlaw04.FpRules", spec := "fpRules", inPlace := ["math/bits.Add64", "math/bits.Sub64"], named := ["cresset/fp.square", "cresset/fp.modulus"], apart := false, laid := [("cresset/fp.modulus", laid_cresset_fp_modulus), ("cresset/fp.square", laid_cresset_fp_square)], narrowed := true }
def FpRulesUptoSaid : Prop := fpRulesUptoRow.holds Tryd.pinned (OpenSpec.upto fpRulesSpec)

/-- 'cressetlaw04.FpSquares', WHERE WHAT IT READS IS OF BULK AT MOST 1048576: true; the input reads as it did. -/
def fpSquaresUptoRow : OpenClaim := { program := "yteeckamdncdleaadoor", sum := "9c514d32642f3174763652c4403d3967435f60b999c83ee743353d57ffcc21a4", func := "cresset/cressetlaw04.FpSquares", spec := "fpSquares", inPlace := ["math/bits.Add64", "math/bits.Sub64"], named := ["cresset/fp.square", "cresset/fp.modulus"], apart := false, laid := [("cresset/fp.modulus", laid_cresset_fp_modulus), ("cresset/fp.square", laid_cresset_fp_square)], narrowed := true }
def FpSquaresUptoSaid : Prop := fpSquaresUptoRow.holds Tryd.pinned (OpenSpec.upto fpSquaresSpec)

/-- 'cressetlaw04.FpInverts', WHERE WHAT IT READS IS OF BULK AT MOST 1048576: true; the input reads as it did. -/
def fpInvertsUptoRow : OpenClaim := { program := "yteeckamdncdleaadoor", sum := "9c514d32642f3174763652c4403d3967435f60b999c83ee743353d57ffcc21a4", func := "cresset/cressetlaw04.FpInverts", spec := "fpInverts", inPlace := ["math/bits.Add64", "math/bits.Sub64"], named := ["cresset/fp.square", "cresset/fp.modulus"], apart := false, laid := [("cresset/fp.modulus", laid_cresset_fp_modulus), ("cresset/fp.square", laid_cresset_fp_square)], narrowed := true }
def FpInvertsUptoSaid : Prop := fpInvertsUptoRow.holds Tryd.pinned (OpenSpec.upto fpInvertsSpec)

/-- 'cressetlaw04.FpWide', WHERE WHAT IT READS IS OF BULK AT MOST 1048576: true; the input reads as it did. -/
def fpWideUptoRow : OpenClaim := { program := "yteeckamdncdleaadoor", sum := "9c514d32642f3174763652c4403d3967435f60b999c83ee743353d57ffcc21a4", func := "cresset/cressetlaw04.FpWide", spec := "fpWide", inPlace := ["math/bits.Add64", "math/bits.Sub64"], named := ["cresset/fp.square", "cresset/fp.modulus"], apart := false, laid := [("cresset/fp.modulus", laid_cresset_fp_modulus), ("cresset/fp.square", laid_cresset_fp_square)], narrowed := true }
def FpWideUptoSaid : Prop := fpWideUptoRow.holds Tryd.pinned (OpenSpec.upto fpWideSpec)

/-- 'cressetlaw04.FpReads', WHERE WHAT IT READS IS OF BULK AT MOST 1048576: true; the input reads as it did. -/
def fpReadsUptoRow : OpenClaim := { program := "yteeckamdncdleaadoor", sum := "9c514d32642f3174763652c4403d3967435f60b999c83ee743353d57ffcc21a4", func := "cresset/cressetlaw04.FpReads", spec := "fpReads", inPlace := ["math/bits.Add64", "math/bits.Sub64"], named := ["cresset/fp.square", "cresset/fp.modulus"], apart := false, laid := [("cresset/fp.modulus", laid_cresset_fp_modulus), ("cresset/fp.square", laid_cresset_fp_square)], narrowed := true }
def FpReadsUptoSaid : Prop := fpReadsUptoRow.holds Tryd.pinned (OpenSpec.upto fpReadsSpec)

/-- 'cressetlaw04.FpRoots', WHERE WHAT IT READS IS OF BULK AT MOST 1048576: true; the input reads as it did. -/
def fpRootsUptoRow : OpenClaim := { program := "yteeckamdncdleaadoor", sum := "9c514d32642f3174763652c4403d3967435f60b999c83ee743353d57ffcc21a4", func := "cresset/cressetlaw04.FpRoots", spec := "fpRoots", inPlace := ["math/bits.Add64", "math/bits.Sub64"], named := ["cresset/fp.square", "cresset/fp.modulus"], apart := false, laid := [("cresset/fp.modulus", laid_cresset_fp_modulus), ("cresset/fp.square", laid_cresset_fp_square)], narrowed := true }
def FpRootsUptoSaid : Prop := fpRootsUptoRow.holds Tryd.pinned (OpenSpec.upto fpRootsSpec)

/-- 'cressetlaw04.FpReckons', WHERE WHAT IT READS IS OF BULK AT MOST 1048576: true; the input reads as it did. -/
def fpReckonsUptoRow : OpenClaim := { program := "yteeckamdncdleaadoor", sum := "9c514d32642f3174763652c4403d3967435f60b999c83ee743353d57ffcc21a4", func := "cresset/cressetlaw04.FpReckons", spec := "fpReckons", inPlace := ["math/bits.Add64", "math/bits.Sub64"], named := ["cresset/fp.square", "cresset/fp.modulus"], apart := false, laid := [("cresset/fp.modulus", laid_cresset_fp_modulus), ("cresset/fp.square", laid_cresset_fp_square)], narrowed := true }
def FpReckonsUptoSaid : Prop := fpReckonsUptoRow.holds Tryd.pinned (OpenSpec.upto fpReckonsSpec)

/-- 'cressetlaw04.FpForms', WHERE WHAT IT READS IS OF BULK AT MOST 1048576: true; the input reads as it did. -/
def fpFormsUptoRow : OpenClaim := { program := "yteeckamdncdleaadoor", sum := "9c514d32642f3174763652c4403d3967435f60b999c83ee743353d57ffcc21a4", func := "cresset/cressetlaw04.FpForms", spec := "fpForms", inPlace := ["math/bits.Add64", "math/bits.Sub64"], named := ["cresset/fp.square", "cresset/fp.modulus"], apart := false, laid := [("cresset/fp.modulus", laid_cresset_fp_modulus), ("cresset/fp.square", laid_cresset_fp_square)], narrowed := true }
def FpFormsUptoSaid : Prop := fpFormsUptoRow.holds Tryd.pinned (OpenSpec.upto fpFormsSpec)

end Rows
end Go.Proofs.YteeckamdncdleaaDoor
