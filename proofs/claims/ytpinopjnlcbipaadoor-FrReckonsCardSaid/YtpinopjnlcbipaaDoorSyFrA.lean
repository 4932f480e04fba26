/- Package fr: codes of its numbers; equality. Conditions: those of each theorem. -/
import Derived.Test.YtpinopjnlcbipaaDoorSyQ
import Derived.Test.YtpinopjnlcbipaaDoorFrH
namespace Go.Proofs.YtpinopjnlcbipaaDoor
open Go.RowKit
set_option linter.unusedVariables false

theorem fr_stood : Tryd.prog.stoodInHeld 27 = false := by kernel_rfl
theorem fr_guardT : Tryd.prog.eqGuardType Tryd.prog.depth 27 = false := by kernel_rfl

/-- == of elements -/
theorem fr_equal (a b : Nat) (w : World) : (Op.equal 27 (frE a) (frE b)).run Tryd.prog w = .ok (decide (a % frQ = b % frQ)) w := by
  obtain ⟨x0, x1, x2, x3, hx⟩ := frV_agg (a * frR % frQ) (frE_lt _)
  obtain ⟨y0, y1, y2, y3, hy⟩ := frV_agg (b * frR % frQ) (frE_lt _)
  have h := fr_eqE a b hx hy w
  unfold frE
  rw [hx, hy]
  unfold Op.equal Op.maxDepth
  rw [show (10000 : Nat) = 9999 + 1 from rfl, Op.equalIn]
  simp only [Sem.run_bind, run_underlying Tryd.underlying27, Result.andThen_ok, run_program, fr_stood, Bool.false_eq_true, if_false]
  simp [part, Tryd.isAgg25, Tryd.sizeOf25, h]
  split <;> simp_all

end Go.Proofs.YtpinopjnlcbipaaDoor
