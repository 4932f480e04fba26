/-
  NARROWER THAN 'FOR EVERY INPUT', by the rows' own cells (each row's printed sentence says how): TowerPowers: laid · TowerLines: laid · TowerCubics: laid · TowerFrob: laid · TowerReckons: laid · TowerRules: laid.
  DERIVED. THE GIVEN ROWS OF THIS SEAT. 6 by the template 'for every input the law returns true; each argument reads behind the call as it read before'; 0 by the template 'total and deterministic' (their statements: YtdconlmpjehohaaDoorTotals.lean).
  GIVEN WITH THE SEED: the statements are not yours to turn. If you find one false, say at which input.
  Laid BY PROGRAM, IN A SANDBOX (cutbox-rows.mjs): the forced cells as the released guide's own fill.sh prints them over the translation f2b579049eafd677… (all of the seat's roots in one cut). By AI agents, Wed Nov 11 2026. No macro, syntax, notation, axiom, sorry.
-/
import Derived.Test.YtdconlmpjehohaaDoorChecked
import GoSem.Claim
import GoSem.ClaimJoined
import GoSem.ClaimMapViews
import Derived.JoinedTies
import Derived.KernelRfl
namespace Go.Proofs.YtdconlmpjehohaaDoor
/- THE CELL 'sum', in the pinned program and in every row, IS THE sha256 OF THE DUMP (.gsa) THAT YtdconlmpjehohaaDoorProg.lean LOADS. Nothing in Lean hashes anything: it is a label: what it is worth is what the hold of that sum in a sandbox is worth. -/
noncomputable def Tryd.pinned : Pinned := { name := "ytdconlmpjehohaadoor", sum := "f2b579049eafd677568910e4467656956754d5506a79aa97d0f62b2a53d4e71e", checked := Tryd.checked }
namespace Rows
def none {H : Type} : Left H := { results := [], args := [] }

/- WHAT THE LISTED PACKAGE-LEVEL VARIABLES READ AS WHEN THE CALL BEGINS. Each datum BY PROGRAM (the guide's laid-datum.mjs) off the statement by which the dump's own 'gosem.cut.vars' lays the variable. In a bare row this is a premise. The card (YtdconlmpjehohaaDoorCards.lean) ties it to the program's text. -/
def laid_cresset_fp_modulus {H : Type} : DataW H := .agg [.lit (.int .u64 13402431016077863595), .lit (.int .u64 2210141511517208575), .lit (.int .u64 7435674573564081700), .lit (.int .u64 7239337960414712511), .lit (.int .u64 5412103778470702295), .lit (.int .u64 1873798617647539866)]
def laid_cresset_fp_square {H : Type} : DataW H := .agg [.lit (.int .u64 17644856173732828998), .lit (.int .u64 754043588434789617), .lit (.int .u64 10224657059481499349), .lit (.int .u64 7488229067341005760), .lit (.int .u64 11130996698012816685), .lit (.int .u64 1267921511277847466)]

/-- 'cressetlaw06.TowerPowers': WHATEVER THE INPUT: true; the input reads as it did. -/
def towerPowersSpec : ChangeSpec := { name := "towerPowers", fn := fun _ => fun
  | [d1, d2, d3] => { results := [.lit (.bool true)], args := [d1, d2, d3] }
  | _ => none }
def towerPowersRow : OpenClaim := { program := "ytdconlmpjehohaadoor", sum := "f2b579049eafd677568910e4467656956754d5506a79aa97d0f62b2a53d4e71e", func := "cresset/cressetlaw06.TowerPowers", spec := "towerPowers", inPlace := ["math/bits.Add64", "math/bits.Sub64"], named := ["cresset/fp.square", "cresset/fp.modulus"], apart := false, laid := [("cresset/fp.modulus", laid_cresset_fp_modulus), ("cresset/fp.square", laid_cresset_fp_square)] }
def TowerPowersSaid : Prop := towerPowersRow.holds Tryd.pinned (OpenSpec.ofChange towerPowersSpec)

/-- ITS FALSE NEIGHBOUR: 'it returns false'. Refute it at one input. -/
def towerPowersWrong : ChangeSpec := { name := "towerPowers", fn := fun _ => fun
  | [d1, d2, d3] => { results := [.lit (.bool false)], args := [d1, d2, d3] }
  | _ => none }
def TowerPowersWrongFalsely : Prop := towerPowersRow.holds Tryd.pinned (OpenSpec.ofChange towerPowersWrong)

/-- 'cressetlaw06.TowerLines': WHATEVER THE INPUT: true; the input reads as it did. -/
def towerLinesSpec : ChangeSpec := { name := "towerLines", fn := fun _ => fun
  | [d1, d2] => { results := [.lit (.bool true)], args := [d1, d2] }
  | _ => none }
def towerLinesRow : OpenClaim := { program := "ytdconlmpjehohaadoor", sum := "f2b579049eafd677568910e4467656956754d5506a79aa97d0f62b2a53d4e71e", func := "cresset/cressetlaw06.TowerLines", spec := "towerLines", inPlace := ["math/bits.Add64", "math/bits.Sub64"], named := ["cresset/fp.square", "cresset/fp.modulus"], apart := false, laid := [("cresset/fp.modulus", laid_cresset_fp_modulus), ("cresset/fp.square", laid_cresset_fp_square)] }
def TowerLinesSaid : Prop := towerLinesRow.holds Tryd.pinned (OpenSpec.ofChange towerLinesSpec)

/-- ITS FALSE NEIGHBOUR: 'it returns false'. Refute it at one input. -/
def towerLinesWrong : ChangeSpec := { name := "towerLines", fn := fun _ => fun
  | [d1, d2] => { results := [.lit (.bool false)], args := [d1, d2] }
  | _ => none }
def TowerLinesWrongFalsely : Prop := towerLinesRow.holds Tryd.pinned (OpenSpec.ofChange towerLinesWrong)

/-- 'cressetlaw06.TowerCubics': WHATEVER THE INPUT: true; the input reads as it did. -/
def towerCubicsSpec : ChangeSpec := { name := "towerCubics", fn := fun _ => fun
  | [d1, d2] => { results := [.lit (.bool true)], args := [d1, d2] }
  | _ => none }
def towerCubicsRow : OpenClaim := { program := "ytdconlmpjehohaadoor", sum := "f2b579049eafd677568910e4467656956754d5506a79aa97d0f62b2a53d4e71e", func := "cresset/cressetlaw06.TowerCubics", spec := "towerCubics", inPlace := ["math/bits.Add64", "math/bits.Sub64"], named := ["cresset/fp.square", "cresset/fp.modulus"], apart := false, laid := [("cresset/fp.modulus", laid_cresset_fp_modulus), ("cresset/fp.square", laid_cresset_fp_square)] }
def TowerCubicsSaid : Prop := towerCubicsRow.holds Tryd.pinned (OpenSpec.ofChange towerCubicsSpec)

/-- ITS FALSE NEIGHBOUR: 'it returns false'. Refute it at one input. -/
def towerCubicsWrong : ChangeSpec := { name := "towerCubics", fn := fun _ => fun
  | [d1, d2] => { results := [.lit (.bool false)], args := [d1, d2] }
  | _ => none }
def TowerCubicsWrongFalsely : Prop := towerCubicsRow.holds Tryd.pinned (OpenSpec.ofChange towerCubicsWrong)

/-- 'cressetlaw06.TowerFrob': WHATEVER THE INPUT: true; the input reads as it did. -/
def towerFrobSpec : ChangeSpec := { name := "towerFrob", fn := fun _ => fun
  | [d1, d2] => { results := [.lit (.bool true)], args := [d1, d2] }
  | _ => none }
def towerFrobRow : OpenClaim := { program := "ytdconlmpjehohaadoor", sum := "f2b579049eafd677568910e4467656956754d5506a79aa97d0f62b2a53d4e71e", func := "cresset/cressetlaw06.TowerFrob", spec := "towerFrob", inPlace := ["math/bits.Add64", "math/bits.Sub64"], named := ["cresset/fp.square", "cresset/fp.modulus"], apart := false, laid := [("cresset/fp.modulus", laid_cresset_fp_modulus), ("cresset/fp.square", laid_cresset_fp_square)] }
def TowerFrobSaid : Prop := towerFrobRow.holds Tryd.pinned (OpenSpec.ofChange towerFrobSpec)

/-- ITS FALSE NEIGHBOUR: 'it returns false'. Refute it at one input. -/
def towerFrobWrong : ChangeSpec := { name := "towerFrob", fn := fun _ => fun
  | [d1, d2] => { results := [.lit (.bool false)], args := [d1, d2] }
  | _ => none }
def TowerFrobWrongFalsely : Prop := towerFrobRow.holds Tryd.pinned (OpenSpec.ofChange towerFrobWrong)

/-- 'cressetlaw06.TowerReckons': WHATEVER THE INPUT: true; the input reads as it did. -/
def towerReckonsSpec : ChangeSpec := { name := "towerReckons", fn := fun _ => fun
  | [d1, d2] => { results := [.lit (.bool true)], args := [d1, d2] }
  | _ => none }
def towerReckonsRow : OpenClaim := { program := "ytdconlmpjehohaadoor", sum := "f2b579049eafd677568910e4467656956754d5506a79aa97d0f62b2a53d4e71e", func := "cresset/cressetlaw06.TowerReckons", spec := "towerReckons", inPlace := ["math/bits.Add64", "math/bits.Sub64"], named := ["cresset/fp.square", "cresset/fp.modulus"], apart := false, laid := [("cresset/fp.modulus", laid_cresset_fp_modulus), ("cresset/fp.square", laid_cresset_fp_square)] }
def TowerReckonsSaid : Prop := towerReckonsRow.holds Tryd.pinned (OpenSpec.ofChange towerReckonsSpec)

/-- ITS FALSE NEIGHBOUR: 'it returns false'. Refute it at one input. -/
def towerReckonsWrong : ChangeSpec := { name := "towerReckons", fn := fun _ => fun
  | [d1, d2] => { results := [.lit (.bool false)], args := [d1, d2] }
  | _ => none }
def TowerReckonsWrongFalsely : Prop := towerReckonsRow.holds Tryd.pinned (OpenSpec.ofChange towerReckonsWrong)

/-- 'cressetlaw06.TowerRules': WHATEVER THE INPUT: true; the input reads as it did. -/
def towerRulesSpec : ChangeSpec := { name := "towerRules", fn := fun _ => fun
  | [d1, d2, d3] => { results := [.lit (.bool true)], args := [d1, d2, d3] }
  | _ => none }
def towerRulesRow : OpenClaim := { program := "ytdconlmpjehohaadoor", sum := "f2b579049eafd677568910e4467656956754d5506a79aa97d0f62b2a53d4e71e", func := "cresset/cressetlaw06.TowerRules", spec := "towerRules", inPlace := ["math/bits.Add64", "math/bits.Sub64"], named := ["cresset/fp.square", "cresset/fp.modulus"], apart := false, laid := [("cresset/fp.modulus", laid_cresset_fp_modulus), ("cresset/fp.square", laid_cresset_fp_square)] }
def TowerRulesSaid : Prop := towerRulesRow.holds Tryd.pinned (OpenSpec.ofChange towerRulesSpec)

/-- ITS FALSE NEIGHBOUR: 'it returns false'. Refute it at one input. -/
def towerRulesWrong : ChangeSpec := { name := "towerRules", fn := fun _ => fun
  | [d1, d2, d3] => { results := [.lit (.bool false)], args := [d1, d2, d3] }
  | _ => none }
def TowerRulesWrongFalsely : Prop := towerRulesRow.holds Tryd.pinned (OpenSpec.ofChange towerRulesWrong)

/- THE SECOND FORM. 'bulk': how many values and letters a reading holds, each counted each time it is reached (what is shared counts as often as it is met; a slice's spare places count too). A statement '..UptoSaid' is the law's where the arguments, and the package variables that the reading takes, are together of bulk at most 1048576: NARROWER than '..Said'. Prove '..Said' where nothing that the law and all that it calls make is longer than what came in: it says more and counts as full. Else prove '..UptoSaid'. A law counts once. -/
mutual
def uptoBulk {H : Type} : DataW H → Nat
  | .lit (.string bytes) => bytes.length + 1
  | .lit _ => 1
  | .nil => 1
  | .ptr d => uptoBulk d + 1
  | .slice elems spare => uptoBulkAll elems + uptoBulkAll spare + 1
  | .agg parts => uptoBulkAll parts + 1
  | .iface _ d => uptoBulk d + 1
  | .map entries => uptoBulkEntries entries + 1
  | .held _ => 1
def uptoBulkAll {H : Type} : List (DataW H) → Nat
  | [] => 0
  | d :: r => uptoBulk d + uptoBulkAll r
def uptoBulkEntries {H : Type} : List (Lit × DataW H) → Nat
  | [] => 0
  | x :: r => uptoBulkEntry x + uptoBulkEntries r
def uptoBulkEntry {H : Type} : Lit × DataW H → Nat
  | (.string bytes, d) => bytes.length + uptoBulk d + 1
  | (_, d) => uptoBulk d + 1
 end
def uptoSmall : (H : Type) → List (DataW H) → Bool := fun _ ds => decide (uptoBulkAll ds ≤ 1048576)
def OpenSpec.upto (s : _root_.Go.ChangeSpec) : _root_.Go.OpenSpec := { _root_.Go.OpenSpec.ofChange s with cond := some uptoSmall }

/-- 'cressetlaw06.TowerPowers', WHERE WHAT IT READS IS OF BULK AT MOST 1048576: true; the input reads as it did. -/
def towerPowersUptoRow : OpenClaim := { program := "ytdconlmpjehohaadoor", sum := "f2b579049eafd677568910e4467656956754d5506a79aa97d0f62b2a53d4e71e", func := "cresset/cressetlaw06.TowerPowers", spec := "towerPowers", inPlace := ["math/bits.Add64", "math/bits.Sub64"], named := ["cresset/fp.square", "cresset/fp.modulus"], apart := false, laid := [("cresset/fp.modulus", laid_cresset_fp_modulus), ("cresset/fp.square", laid_cresset_fp_square)], narrowed := true }
def TowerPowersUptoSaid : Prop := towerPowersUptoRow.holds Tryd.pinned (OpenSpec.upto towerPowersSpec)

/-- 'cressetlaw06.TowerLines', WHERE WHAT IT READS IS OF BULK AT MOST 1048576: true; the input reads as it did. -/
def towerLinesUptoRow : OpenClaim := { program := "ytdconlmpjehohaadoor", sum := "f2b579049eafd677568910e4467656956754d5506a79aa97d0f62b2a53d4e71e", func := "cresset/cressetlaw06.TowerLines", spec := "towerLines", inPlace := ["math/bits.Add64", "math/bits.Sub64"], named := ["cresset/fp.square", "cresset/fp.modulus"], apart := false, laid := [("cresset/fp.modulus", laid_cresset_fp_modulus), ("cresset/fp.square", laid_cresset_fp_square)], narrowed := true }
def TowerLinesUptoSaid : Prop := towerLinesUptoRow.holds Tryd.pinned (OpenSpec.upto towerLinesSpec)

/-- 'cressetlaw06.TowerCubics', WHERE WHAT IT READS IS OF BULK AT MOST 1048576: true; the input reads as it did. -/
def towerCubicsUptoRow : OpenClaim := { program := "ytdconlmpjehohaadoor", sum := "f2b579049eafd677568910e4467656956754d5506a79aa97d0f62b2a53d4e71e", func := "cresset/cressetlaw06.TowerCubics", spec := "towerCubics", inPlace := ["math/bits.Add64", "math/bits.Sub64"], named := ["cresset/fp.square", "cresset/fp.modulus"], apart := false, laid := [("cresset/fp.modulus", laid_cresset_fp_modulus), ("cresset/fp.square", laid_cresset_fp_square)], narrowed := true }
def TowerCubicsUptoSaid : Prop := towerCubicsUptoRow.holds Tryd.pinned (OpenSpec.upto towerCubicsSpec)

/-- 'cressetlaw06.TowerFrob', WHERE WHAT IT READS IS OF BULK AT MOST 1048576: true; the input reads as it did. -/
def towerFrobUptoRow : OpenClaim := { program := "ytdconlmpjehohaadoor", sum := "f2b579049eafd677568910e4467656956754d5506a79aa97d0f62b2a53d4e71e", func := "cresset/cressetlaw06.TowerFrob", spec := "towerFrob", inPlace := ["math/bits.Add64", "math/bits.Sub64"], named := ["cresset/fp.square", "cresset/fp.modulus"], apart := false, laid := [("cresset/fp.modulus", laid_cresset_fp_modulus), ("cresset/fp.square", laid_cresset_fp_square)], narrowed := true }
def TowerFrobUptoSaid : Prop := towerFrobUptoRow.holds Tryd.pinned (OpenSpec.upto towerFrobSpec)

/-- 'cressetlaw06.TowerReckons', WHERE WHAT IT READS IS OF BULK AT MOST 1048576: true; the input reads as it did. -/
def towerReckonsUptoRow : OpenClaim := { program := "ytdconlmpjehohaadoor", sum := "f2b579049eafd677568910e4467656956754d5506a79aa97d0f62b2a53d4e71e", func := "cresset/cressetlaw06.TowerReckons", spec := "towerReckons", inPlace := ["math/bits.Add64", "math/bits.Sub64"], named := ["cresset/fp.square", "cresset/fp.modulus"], apart := false, laid := [("cresset/fp.modulus", laid_cresset_fp_modulus), ("cresset/fp.square", laid_cresset_fp_square)], narrowed := true }
def TowerReckonsUptoSaid : Prop := towerReckonsUptoRow.holds Tryd.pinned (OpenSpec.upto towerReckonsSpec)

/-- 'cressetlaw06.TowerRules', WHERE WHAT IT READS IS OF BULK AT MOST 1048576: true; the input reads as it did. -/
def towerRulesUptoRow : OpenClaim := { program := "ytdconlmpjehohaadoor", sum := "f2b579049eafd677568910e4467656956754d5506a79aa97d0f62b2a53d4e71e", func := "cresset/cressetlaw06.TowerRules", spec := "towerRules", inPlace := ["math/bits.Add64", "math/bits.Sub64"], named := ["cresset/fp.square", "cresset/fp.modulus"], apart := false, laid := [("cresset/fp.modulus", laid_cresset_fp_modulus), ("cresset/fp.square", laid_cresset_fp_square)], narrowed := true }
def TowerRulesUptoSaid : Prop := towerRulesUptoRow.holds Tryd.pinned (OpenSpec.upto towerRulesSpec)

end Rows
end Go.Proofs.YtdconlmpjehohaaDoor
