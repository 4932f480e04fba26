/- Package fr: elements as numbers: Zero, power, Inv. Conditions: those of each theorem. -/
import Derived.Test.YtkeommkcjigioaaDoorFpC
import Derived.Test.YtkeommkcjigioaaDoorGpfp
import Derived.Laws.StructEq
import Derived.Laws.Tables
import Derived.Laws.Cover2
namespace Go.Proofs.YtkeommkcjigioaaDoor
open Go.RowKit
set_option linter.unusedVariables false

/-- two arrays of words are compared -/
theorem fp_eql (x0 x1 x2 x3 x4 x5 y0 y1 y2 y3 y4 y5 : Int) (w : World) : (Op.equalIn 9999 26 (.agg #[.int .u64 x0, .int .u64 x1, .int .u64 x2, .int .u64 x3, .int .u64 x4, .int .u64 x5]) (.agg #[.int .u64 y0, .int .u64 y1, .int .u64 y2, .int .u64 y3, .int .u64 y4, .int .u64 y5])).run Tryd.prog w = .ok (x0 == y0 && (x1 == y1 && (x2 == y2 && (x3 == y3 && (x4 == y4 && x5 == y5))))) w := by
  have u3 := Tryd.underlying25
  have a3 := Tryd.isAgg25
  have z3 := Tryd.sizeOf25
  rw [show (9999 : Nat) = 9998 + 1 from rfl, Op.equalIn]
  simp only [Sem.run_bind, run_underlying Tryd.underlying26, Result.andThen_ok]
  simp only [Std.Legacy.Range.forIn_eq_forIn_range', Std.Legacy.Range.size, Nat.sub_zero, Nat.add_sub_cancel, Nat.div_one, List.range'_succ, List.range'_zero, List.forIn_cons, List.forIn_nil]
  go_simp
  by_cases h1 : x0 = y0 <;> by_cases h2 : x1 = y1 <;> by_cases h3 : x2 = y2 <;> by_cases h4 : x3 = y3 <;> by_cases h5 : x4 = y4 <;> by_cases h6 : x5 = y5 <;> simp [h1, h2, h3, h4, h5, h6]

/-- two elements are compared -/
theorem fp_eqE (a b : Nat) {x0 x1 x2 x3 x4 x5 y0 y1 y2 y3 y4 y5 : Nat} (hx : fpV (a * fpR % fpQ) = .agg #[.int .u64 x0, .int .u64 x1, .int .u64 x2, .int .u64 x3, .int .u64 x4, .int .u64 x5]) (hy : fpV (b * fpR % fpQ) = .agg #[.int .u64 y0, .int .u64 y1, .int .u64 y2, .int .u64 y3, .int .u64 y4, .int .u64 y5]) (w : World) :
    (Op.equalIn 9999 26 (.agg #[.int .u64 x0, .int .u64 x1, .int .u64 x2, .int .u64 x3, .int .u64 x4, .int .u64 x5]) (.agg #[.int .u64 y0, .int .u64 y1, .int .u64 y2, .int .u64 y3, .int .u64 y4, .int .u64 y5])).run Tryd.prog w = .ok (decide (a % fpQ = b % fpQ)) w := by
  rw [fp_eql]
  have hiff : (a % fpQ = b % fpQ) ↔ x0 = y0 ∧ x1 = y1 ∧ x2 = y2 ∧ x3 = y3 ∧ x4 = y4 ∧ x5 = y5 := by
    rw [← fpE_inj]
    unfold fpE
    rw [hx, hy]
    simp
    omega
  congr 1
  rw [Bool.eq_iff_iff]
  simp only [Bool.and_eq_true, beq_iff_eq, decide_eq_true_eq, hiff]
  omega

set_option maxHeartbeats 1000000 in
set_option maxRecDepth 100000 in
theorem fp_zero_calls (a : Nat) (w : World) :
    Calls Tryd.prog 18 #[fpE a] w fun e w' => e = .returned (.bool (decide (a % fpQ = 0))) ∧ Below w.heap.size w w' := by
  obtain ⟨x0, x1, x2, x3, x4, x5, hx⟩ := fpV_agg (a * fpR % fpQ) (fpE_lt a)
  have heq : ∀ W, (Op.equalIn 9999 26 (.agg #[.int .u64 x0, .int .u64 x1, .int .u64 x2, .int .u64 x3, .int .u64 x4, .int .u64 x5]) (.agg #[.int .u64 0, .int .u64 0, .int .u64 0, .int .u64 0, .int .u64 0, .int .u64 0])).run Tryd.prog W = .ok (decide (a % fpQ = 0)) W := fp_eqE a 0 hx fpE_zero
  unfold fpE
  rw [hx]
  clear hx
  go_enter Tryd.func18, Tryd.ntmps18
  go_wp2_with fail
  all_goals go_ret
  all_goals exact ⟨by simp_all, (by repeat (first | exact Below.refl _ _ | refine Below.drew ?_ | refine below_drewN ?_ _ | refine Below.alloc ?_ (by simp <;> omega) _))⟩

end Go.Proofs.YtkeommkcjigioaaDoor
