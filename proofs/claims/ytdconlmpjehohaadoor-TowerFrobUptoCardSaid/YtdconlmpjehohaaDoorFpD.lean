/- Package fr: elements as numbers: Zero, power, Inv. Conditions: those of each theorem. -/
import Derived.Test.YtdconlmpjehohaaDoorFpC
import Derived.Test.YtdconlmpjehohaaDoorGpfp
import Derived.Laws.StructEq
import Derived.Laws.Tables
import Derived.Laws.Cover2
namespace Go.Proofs.YtdconlmpjehohaaDoor
open Go.RowKit
set_option linter.unusedVariables false

/-- two arrays of words are compared -/
theorem fp_eql (x0 x1 x2 x3 x4 x5 y0 y1 y2 y3 y4 y5 : Int) (w : World) : (Op.equalIn 9999 32 (.agg #[.int .u64 x0, .int .u64 x1, .int .u64 x2, .int .u64 x3, .int .u64 x4, .int .u64 x5]) (.agg #[.int .u64 y0, .int .u64 y1, .int .u64 y2, .int .u64 y3, .int .u64 y4, .int .u64 y5])).run Tryd.prog w = .ok (x0 == y0 && (x1 == y1 && (x2 == y2 && (x3 == y3 && (x4 == y4 && x5 == y5))))) w := by
  have u3 := Tryd.underlying31
  have a3 := Tryd.isAgg31
  have z3 := Tryd.sizeOf31
  rw [show (9999 : Nat) = 9998 + 1 from rfl, Op.equalIn]
  simp only [Sem.run_bind, run_underlying Tryd.underlying32, Result.andThen_ok]
  simp only [Std.Legacy.Range.forIn_eq_forIn_range', Std.Legacy.Range.size, Nat.sub_zero, Nat.add_sub_cancel, Nat.div_one, List.range'_succ, List.range'_zero, List.forIn_cons, List.forIn_nil]
  go_simp
  by_cases h1 : x0 = y0 <;> by_cases h2 : x1 = y1 <;> by_cases h3 : x2 = y2 <;> by_cases h4 : x3 = y3 <;> by_cases h5 : x4 = y4 <;> by_cases h6 : x5 = y5 <;> simp [h1, h2, h3, h4, h5, h6]

/-- two elements are compared -/
theorem fp_eqE (a b : Nat) {x0 x1 x2 x3 x4 x5 y0 y1 y2 y3 y4 y5 : Nat} (hx : fpV (a * fpR % fpQ) = .agg #[.int .u64 x0, .int .u64 x1, .int .u64 x2, .int .u64 x3, .int .u64 x4, .int .u64 x5]) (hy : fpV (b * fpR % fpQ) = .agg #[.int .u64 y0, .int .u64 y1, .int .u64 y2, .int .u64 y3, .int .u64 y4, .int .u64 y5]) (w : World) :
    (Op.equalIn 9999 32 (.agg #[.int .u64 x0, .int .u64 x1, .int .u64 x2, .int .u64 x3, .int .u64 x4, .int .u64 x5]) (.agg #[.int .u64 y0, .int .u64 y1, .int .u64 y2, .int .u64 y3, .int .u64 y4, .int .u64 y5])).run Tryd.prog w = .ok (decide (a % fpQ = b % fpQ)) w := by
  rw [fp_eql]
  have hiff : (a % fpQ = b % fpQ) ↔ x0 = y0 ∧ x1 = y1 ∧ x2 = y2 ∧ x3 = y3 ∧ x4 = y4 ∧ x5 = y5 := by
    rw [← fpE_inj]
    unfold fpE
    rw [hx, hy]
    simp
    omega
  congr 1
  rw [Bool.eq_iff_iff]
  simp only [Bool.and_eq_true, beq_iff_eq, decide_eq_true_eq, hiff]
  omega

end Go.Proofs.YtdconlmpjehohaaDoor
