/-
  NARROWER THAN 'FOR EVERY INPUT', by the rows' own cells (each row's printed sentence says how): Fp2Turns: laid · Fp2Rules: laid · Fp2Reads: laid · Fp2Reckons: laid · Fp2Squares: laid · Fp2Roots: laid.
  DERIVED. THE GIVEN ROWS OF THIS SEAT. 6 by the template 'for every input the law returns true; each argument reads behind the call as it read before'; 0 by the template 'total and deterministic' (their statements: YtkeommkcjigioaaDoorTotals.lean).
  GIVEN WITH THE SEED: the statements are not yours to turn. If you find one false, say at which input.
  Laid BY PROGRAM, IN A SANDBOX (cutbox-rows.mjs): the forced cells as the released guide's own fill.sh prints them over the translation 7c0d9a79172fa346… (all of the seat's roots in one cut). By AI agents, Wed Nov 11 2026. No macro, syntax, notation, axiom, sorry.
-/
import Derived.Test.YtkeommkcjigioaaDoorChecked
import GoSem.Claim
import GoSem.ClaimJoined
import GoSem.ClaimMapViews
import Derived.JoinedTies
import Derived.KernelRfl
namespace Go.Proofs.YtkeommkcjigioaaDoor
/- THE CELL 'sum', in the pinned program and in every row, IS THE sha256 OF THE DUMP (.gsa) THAT YtkeommkcjigioaaDoorProg.lean LOADS. Nothing in Lean hashes anything: it is a label: what it is worth is what the hold of that sum in a sandbox is worth. -/
noncomputable def Tryd.pinned : Pinned := { name := "ytkeommkcjigioaadoor", sum := "7c0d9a79172fa34619f5e35ff0936e0a611167770db34954e95626defd50a6be", checked := Tryd.checked }
namespace Rows
def none {H : Type} : Left H := { results := [], args := [] }

/- WHAT THE LISTED PACKAGE-LEVEL VARIABLES READ AS WHEN THE CALL BEGINS. Each datum BY PROGRAM (the guide's laid-datum.mjs) off the statement by which the dump's own 'gosem.cut.vars' lays the variable. In a bare row this is a premise. The card (YtkeommkcjigioaaDoorCards.lean) ties it to the program's text. -/
def laid_cresset_fp_square {H : Type} : DataW H := .agg [.lit (.int .u64 17644856173732828998), .lit (.int .u64 754043588434789617), .lit (.int .u64 10224657059481499349), .lit (.int .u64 7488229067341005760), .lit (.int .u64 11130996698012816685), .lit (.int .u64 1267921511277847466)]
def laid_cresset_fp_modulus {H : Type} : DataW H := .agg [.lit (.int .u64 13402431016077863595), .lit (.int .u64 2210141511517208575), .lit (.int .u64 7435674573564081700), .lit (.int .u64 7239337960414712511), .lit (.int .u64 5412103778470702295), .lit (.int .u64 1873798617647539866)]

/-- 'cressetlaw05.Fp2Turns': WHATEVER THE INPUT: true; the input reads as it did. -/
def fp2TurnsSpec : ChangeSpec := { name := "fp2Turns", fn := fun _ => fun
  | [d1, d2] => { results := [.lit (.bool true)], args := [d1, d2] }
  | _ => none }
def fp2TurnsRow : OpenClaim := { program := "ytkeommkcjigioaadoor", sum := "7c0d9a79172fa34619f5e35ff0936e0a611167770db34954e95626defd50a6be", func := "cresset/cressetlaw05.Fp2Turns", spec := "fp2Turns", inPlace := ["math/bits.Add64", "math/bits.Sub64"], named := ["cresset/fp.square"], apart := false, laid := [("cresset/fp.square", laid_cresset_fp_square)] }
def Fp2TurnsSaid : Prop := fp2TurnsRow.holds Tryd.pinned (OpenSpec.ofChange fp2TurnsSpec)

/-- ITS FALSE NEIGHBOUR: 'it returns false'. Refute it at one input. -/
def fp2TurnsWrong : ChangeSpec := { name := "fp2Turns", fn := fun _ => fun
  | [d1, d2] => { results := [.lit (.bool false)], args := [d1, d2] }
  | _ => none }
def Fp2TurnsWrongFalsely : Prop := fp2TurnsRow.holds Tryd.pinned (OpenSpec.ofChange fp2TurnsWrong)

/-- 'cressetlaw05.Fp2Rules': WHATEVER THE INPUT: true; the input reads as it did. -/
def fp2RulesSpec : ChangeSpec := { name := "fp2Rules", fn := fun _ => fun
  | [d1, d2, d3, d4] => { results := [.lit (.bool true)], args := [d1, d2, d3, d4] }
  | _ => none }
def fp2RulesRow : OpenClaim := { program := "ytkeommkcjigioaadoor", sum := "7c0d9a79172fa34619f5e35ff0936e0a611167770db34954e95626defd50a6be", func := "cresset/cressetlaw05.Fp2Rules", spec := "fp2Rules", inPlace := ["math/bits.Add64", "math/bits.Sub64"], named := ["cresset/fp.square"], apart := false, laid := [("cresset/fp.square", laid_cresset_fp_square)] }
def Fp2RulesSaid : Prop := fp2RulesRow.holds Tryd.pinned (OpenSpec.ofChange fp2RulesSpec)

/-- ITS FALSE NEIGHBOUR: 'it returns false'. Refute it at one input. -/
def fp2RulesWrong : ChangeSpec := { name := "fp2Rules", fn := fun _ => fun
  | [d1, d2, d3, d4] => { results := [.lit (.bool false)], args := [d1, d2, d3, d4] }
  | _ => none }
def Fp2RulesWrongFalsely : Prop := fp2RulesRow.holds Tryd.pinned (OpenSpec.ofChange fp2RulesWrong)

/-- 'cressetlaw05.Fp2Reads': WHATEVER THE INPUT: true; the input reads as it did. -/
def fp2ReadsSpec : ChangeSpec := { name := "fp2Reads", fn := fun _ => fun
  | [d] => { results := [.lit (.bool true)], args := [d] }
  | _ => none }
def fp2ReadsRow : OpenClaim := { program := "ytkeommkcjigioaadoor", sum := "7c0d9a79172fa34619f5e35ff0936e0a611167770db34954e95626defd50a6be", func := "cresset/cressetlaw05.Fp2Reads", spec := "fp2Reads", inPlace := ["math/bits.Add64", "math/bits.Sub64"], named := ["cresset/fp.square", "cresset/fp.modulus"], apart := false, laid := [("cresset/fp.modulus", laid_cresset_fp_modulus), ("cresset/fp.square", laid_cresset_fp_square)] }
def Fp2ReadsSaid : Prop := fp2ReadsRow.holds Tryd.pinned (OpenSpec.ofChange fp2ReadsSpec)

/-- ITS FALSE NEIGHBOUR: 'it returns false'. Refute it at one input. -/
def fp2ReadsWrong : ChangeSpec := { name := "fp2Reads", fn := fun _ => fun
  | [d] => { results := [.lit (.bool false)], args := [d] }
  | _ => none }
def Fp2ReadsWrongFalsely : Prop := fp2ReadsRow.holds Tryd.pinned (OpenSpec.ofChange fp2ReadsWrong)

/-- 'cressetlaw05.Fp2Reckons': WHATEVER THE INPUT: true; the input reads as it did. -/
def fp2ReckonsSpec : ChangeSpec := { name := "fp2Reckons", fn := fun _ => fun
  | [d1, d2, d3, d4] => { results := [.lit (.bool true)], args := [d1, d2, d3, d4] }
  | _ => none }
def fp2ReckonsRow : OpenClaim := { program := "ytkeommkcjigioaadoor", sum := "7c0d9a79172fa34619f5e35ff0936e0a611167770db34954e95626defd50a6be", func := "cresset/cressetlaw05.Fp2Reckons", spec := "fp2Reckons", inPlace := ["math/bits.Add64", "math/bits.Sub64"], named := ["cresset/fp.square", "cresset/fp.modulus"], apart := false, laid := [("cresset/fp.modulus", laid_cresset_fp_modulus), ("cresset/fp.square", laid_cresset_fp_square)] }
def Fp2ReckonsSaid : Prop := fp2ReckonsRow.holds Tryd.pinned (OpenSpec.ofChange fp2ReckonsSpec)

/-- ITS FALSE NEIGHBOUR: 'it returns false'. Refute it at one input. -/
def fp2ReckonsWrong : ChangeSpec := { name := "fp2Reckons", fn := fun _ => fun
  | [d1, d2, d3, d4] => { results := [.lit (.bool false)], args := [d1, d2, d3, d4] }
  | _ => none }
def Fp2ReckonsWrongFalsely : Prop := fp2ReckonsRow.holds Tryd.pinned (OpenSpec.ofChange fp2ReckonsWrong)

/-- 'cressetlaw05.Fp2Squares': WHATEVER THE INPUT: true; the input reads as it did. -/
def fp2SquaresSpec : ChangeSpec := { name := "fp2Squares", fn := fun _ => fun
  | [d1, d2] => { results := [.lit (.bool true)], args := [d1, d2] }
  | _ => none }
def fp2SquaresRow : OpenClaim := { program := "ytkeommkcjigioaadoor", sum := "7c0d9a79172fa34619f5e35ff0936e0a611167770db34954e95626defd50a6be", func := "cresset/cressetlaw05.Fp2Squares", spec := "fp2Squares", inPlace := ["math/bits.Add64", "math/bits.Sub64"], named := ["cresset/fp.square", "cresset/fp.modulus"], apart := false, laid := [("cresset/fp.modulus", laid_cresset_fp_modulus), ("cresset/fp.square", laid_cresset_fp_square)] }
def Fp2SquaresSaid : Prop := fp2SquaresRow.holds Tryd.pinned (OpenSpec.ofChange fp2SquaresSpec)

/-- ITS FALSE NEIGHBOUR: 'it returns false'. Refute it at one input. -/
def fp2SquaresWrong : ChangeSpec := { name := "fp2Squares", fn := fun _ => fun
  | [d1, d2] => { results := [.lit (.bool false)], args := [d1, d2] }
  | _ => none }
def Fp2SquaresWrongFalsely : Prop := fp2SquaresRow.holds Tryd.pinned (OpenSpec.ofChange fp2SquaresWrong)

/-- 'cressetlaw05.Fp2Roots': WHATEVER THE INPUT: true; the input reads as it did. -/
def fp2RootsSpec : ChangeSpec := { name := "fp2Roots", fn := fun _ => fun
  | [d1, d2] => { results := [.lit (.bool true)], args := [d1, d2] }
  | _ => none }
def fp2RootsRow : OpenClaim := { program := "ytkeommkcjigioaadoor", sum := "7c0d9a79172fa34619f5e35ff0936e0a611167770db34954e95626defd50a6be", func := "cresset/cressetlaw05.Fp2Roots", spec := "fp2Roots", inPlace := ["math/bits.Add64", "math/bits.Sub64"], named := ["cresset/fp.square", "cresset/fp.modulus"], apart := false, laid := [("cresset/fp.modulus", laid_cresset_fp_modulus), ("cresset/fp.square", laid_cresset_fp_square)] }
def Fp2RootsSaid : Prop := fp2RootsRow.holds Tryd.pinned (OpenSpec.ofChange fp2RootsSpec)

/-- ITS FALSE NEIGHBOUR: 'it returns false'. Refute it at one input. -/
def fp2RootsWrong : ChangeSpec := { name := "fp2Roots", fn := fun _ => fun
  | [d1, d2] => { results := [.lit (.bool false)], args := [d1, d2] }
  | _ => none }
def Fp2RootsWrongFalsely : Prop := fp2RootsRow.holds Tryd.pinned (OpenSpec.ofChange fp2RootsWrong)

/- THE SECOND FORM. 'bulk': how many values and letters a reading holds, each counted each time it is reached (what is shared counts as often as it is met; a slice's spare places count too). A statement '..UptoSaid' is the law's where the arguments, and the package variables that the reading takes, are together of bulk at most 1048576: NARROWER than '..Said'. Prove '..Said' where nothing that the law and all that it calls make is longer than what came in: it says more and counts as full. Else prove '..UptoSaid'. A law counts once. -/
mutual
def uptoBulk {H : Type} : DataW H → Nat
  | .lit (.string bytes) => bytes.length + 1
  | .lit _ => 1
  | .nil => 1
  | .ptr d => uptoBulk d + 1
  | .slice elems spare => uptoBulkAll elems + uptoBulkAll spare + 1
  | .agg parts => uptoBulkAll parts + 1
  | .iface _ d => uptoBulk d + 1
  | .map entries => uptoBulkEntries entries + 1
  | .held _ => 1
def uptoBulkAll {H : Type} : List (DataW H) → Nat
  | [] => 0
  | d :: r => uptoBulk d + uptoBulkAll r
def uptoBulkEntries {H : Type} : List (Lit × DataW H) → Nat
  | [] => 0
  | x :: r => uptoBulkEntry x + uptoBulkEntries r
def uptoBulkEntry {H : Type} : Lit × DataW H → Nat
  | (.string bytes, d) => bytes.length + uptoBulk d + 1
  | (_, d) => uptoBulk d + 1
 end
def uptoSmall : (H : Type) → List (DataW H) → Bool := fun _ ds => decide (uptoBulkAll ds ≤ 1048576)
def OpenSpec.upto (s : _root_.Go.ChangeSpec) : _root_.Go.OpenSpec := { _root_.Go.OpenSpec.ofChange s with cond := some uptoSmall }

/-- 'cressetlaw05.Fp2Turns', WHERE WHAT IT READS IS OF BULK AT MOST 1048576: true; the input reads as it did. -/
def fp2TurnsUptoRow : OpenClaim := { program := "ytkeommkcjigioaadoor", sum := "7c0d9a79172fa34619f5e35ff0936e0a611167770db34954e95626defd50a6be", func := "cresset/cressetlaw05.Fp2Turns", spec := "fp2Turns", inPlace := ["math/bits.Add64", "math/bits.Sub64"], named := ["cresset/fp.square"], apart := false, laid := [("cresset/fp.square", laid_cresset_fp_square)], narrowed := true }
def Fp2TurnsUptoSaid : Prop := fp2TurnsUptoRow.holds Tryd.pinned (OpenSpec.upto fp2TurnsSpec)

/-- 'cressetlaw05.Fp2Rules', WHERE WHAT IT READS IS OF BULK AT MOST 1048576: true; the input reads as it did. -/
def fp2RulesUptoRow : OpenClaim := { program := "ytkeommkcjigioaadoor", sum := "7c0d9a79172fa34619f5e35ff0936e0a611167770db34954e95626defd50a6be", func := "cresset/cressetlaw05.Fp2Rules", spec := "fp2Rules", inPlace := ["math/bits.Add64", "math/bits.Sub64"], named := ["cresset/fp.square"], apart := false, laid := [("cresset/fp.square", laid_cresset_fp_square)], narrowed := true }
def Fp2RulesUptoSaid : Prop := fp2RulesUptoRow.holds Tryd.pinned (OpenSpec.upto fp2RulesSpec)

/-- 'cressetlaw05.Fp2Reads', WHERE WHAT IT READS IS OF BULK AT MOST 1048576: true; the input reads as it did. -/
def fp2ReadsUptoRow : OpenClaim := { program := "ytkeommkcjigioaadoor", sum := "7c0d9a79172fa34619f5e35ff0936e0a611167770db34954e95626defd50a6be", func := "cresset/cressetlaw05.Fp2Reads", spec := "fp2Reads", inPlace := ["math/bits.Add64", "math/bits.Sub64"], named := ["cresset/fp.square", "cresset/fp.modulus"], apart := false, laid := [("cresset/fp.modulus", laid_cresset_fp_modulus), ("cresset/fp.square", laid_cresset_fp_square)], narrowed := true }
def Fp2ReadsUptoSaid : Prop := fp2ReadsUptoRow.holds Tryd.pinned (OpenSpec.upto fp2ReadsSpec)

/-- 'cressetlaw05.Fp2Reckons', WHERE WHAT IT READS IS OF BULK AT MOST 1048576: true; the input reads as it did. -/
def fp2ReckonsUptoRow : OpenClaim := { program := "ytkeommkcjigioaadoor", sum := "7c0d9a79172fa34619f5e35ff0936e0a611167770db34954e95626defd50a6be", func := "cresset/cressetlaw05.Fp2Reckons", spec := "fp2Reckons", inPlace := ["math/bits.Add64", "math/bits.Sub64"], named := ["cresset/fp.square", "cresset/fp.modulus"], apart := false, laid := [("cresset/fp.modulus", laid_cresset_fp_modulus), ("cresset/fp.square", laid_cresset_fp_square)], narrowed := true }
def Fp2ReckonsUptoSaid : Prop := fp2ReckonsUptoRow.holds Tryd.pinned (OpenSpec.upto fp2ReckonsSpec)

/-- 'cressetlaw05.Fp2Squares', WHERE WHAT IT READS IS OF BULK AT MOST 1048576: true; the input reads as it did. -/
def fp2SquaresUptoRow : OpenClaim := { program := "ytkeommkcjigioaadoor", sum := "7c0d9a79172fa34619f5e35ff0936e0a611167770db34954e95626defd50a6be", func := "cresset/cressetlaw05.Fp2Squares", spec := "fp2Squares", inPlace := ["math/bits.Add64", "math/bits.Sub64"], named := ["cresset/fp.square", "cresset/fp.modulus"], apart := false, laid := [("cresset/fp.modulus", laid_cresset_fp_modulus), ("cresset/fp.square", laid_cresset_fp_square)], narrowed := true }
def Fp2SquaresUptoSaid : Prop := fp2SquaresUptoRow.holds Tryd.pinned (OpenSpec.upto fp2SquaresSpec)

/-- 'cressetlaw05.Fp2Roots', WHERE WHAT IT READS IS OF BULK AT MOST 1048576: true; the input reads as it did. -/
def fp2RootsUptoRow : OpenClaim := { program := "ytkeommkcjigioaadoor", sum := "7c0d9a79172fa34619f5e35ff0936e0a611167770db34954e95626defd50a6be", func := "cresset/cressetlaw05.Fp2Roots", spec := "fp2Roots", inPlace := ["math/bits.Add64", "math/bits.Sub64"], named := ["cresset/fp.square", "cresset/fp.modulus"], apart := false, laid := [("cresset/fp.modulus", laid_cresset_fp_modulus), ("cresset/fp.square", laid_cresset_fp_square)], narrowed := true }
def Fp2RootsUptoSaid : Prop := fp2RootsUptoRow.holds Tryd.pinned (OpenSpec.upto fp2RootsSpec)

end Rows
end Go.Proofs.YtkeommkcjigioaaDoor
