/- Package fr: codes of its numbers; equality. Conditions: those of each theorem. -/
import Derived.Test.YtdconlmpjehohaaDoorSyQ
import Derived.Test.YtdconlmpjehohaaDoorFpF
namespace Go.Proofs.YtdconlmpjehohaaDoor
open Go.RowKit
set_option linter.unusedVariables false

theorem fp_stood : Tryd.prog.stoodInHeld 34 = false := by kernel_rfl
theorem fp_guardT : Tryd.prog.eqGuardType Tryd.prog.depth 34 = false := by kernel_rfl

/-- == of elements -/
theorem fp_equal (a b : Nat) (w : World) : (Op.equal 34 (fpE a) (fpE b)).run Tryd.prog w = .ok (decide (a % fpQ = b % fpQ)) w := by
  obtain ⟨x0, x1, x2, x3, x4, x5, hx⟩ := fpV_agg (a * fpR % fpQ) (fpE_lt _)
  obtain ⟨y0, y1, y2, y3, y4, y5, hy⟩ := fpV_agg (b * fpR % fpQ) (fpE_lt _)
  have h := fp_eqE a b hx hy w
  unfold fpE
  rw [hx, hy]
  unfold Op.equal Op.maxDepth
  rw [show (10000 : Nat) = 9999 + 1 from rfl, Op.equalIn]
  simp only [Sem.run_bind, run_underlying Tryd.underlying34, Result.andThen_ok, run_program, fp_stood, Bool.false_eq_true, if_false]
  simp [part, Tryd.isAgg32, Tryd.sizeOf32, h]
  split <;> simp_all

end Go.Proofs.YtdconlmpjehohaaDoor
