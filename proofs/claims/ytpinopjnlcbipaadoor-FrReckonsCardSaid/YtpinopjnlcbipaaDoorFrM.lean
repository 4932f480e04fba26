/- Package fr: Montgomery's product as a number. Conditions: those of each theorem. -/
import Derived.Test.YtpinopjnlcbipaaDoorFrB
namespace Go.Proofs.YtpinopjnlcbipaaDoor
open Go.RowKit
set_option linter.unusedVariables false

/-- the inverse of 2^256 modulo the modulus -/
def frRinv : Nat := 12549076656233958353659347336803947287922716146853412054870763148006372261952

/-- Montgomery's product -/
def frMont (m n : Nat) : Nat := m * n * frRinv % frQ

theorem frMont_lt (m n : Nat) : frMont m n < frQ := Nat.mod_lt _ (by decide)

/-- what holds of the running words when j words of the second number have been taken -/
def frInv (X Y j : Nat) (t0 t1 t2 t3 : Int) : Prop :=
  ∃ T M : Nat, t0 + t1 * 18446744073709551616 + t2 * 340282366920938463463374607431768211456 + t3 * 6277101735386680763835789423207666416102355444464034512896 = T ∧ T < 2 * frQ ∧ T * 18446744073709551616 ^ j = X * (Y % 18446744073709551616 ^ j) + M * frQ

theorem frNum_mul (x0 x1 x2 x3 y : Nat) : frNum x0 x1 x2 x3 * y = x0 * y + x1 * y * 18446744073709551616 + x2 * y * 340282366920938463463374607431768211456 + x3 * y * 6277101735386680763835789423207666416102355444464034512896 := by
  unfold frNum
  simp only [Nat.add_mul]
  simp only [Nat.mul_right_comm _ _ y]

theorem fr_round {x0 x1 x2 x3 Y j yj : Nat} {t0 t1 t2 t3 m s0 s1 s2 s3 c0 c1 c2 c3 d0 d1 d2 d3 n0 n1 n2 : Int}
    (hX : frNum x0 x1 x2 x3 < frQ) (hyj : yj < 18446744073709551616) (hY : Y / 18446744073709551616 ^ j % 18446744073709551616 = yj) (ma : 0 ≤ m) (mb : m < 18446744073709551616) (n0a : 0 ≤ n0) (n0b : n0 < 18446744073709551616) (n1a : 0 ≤ n1) (n1b : n1 < 18446744073709551616) (n2a : 0 ≤ n2) (n2b : n2 < 18446744073709551616) (ca : 0 ≤ c3) (da : 0 ≤ d3)
    (C0 : c0 * 18446744073709551616 + s0 = x0 * yj + t0) (C1 : c1 * 18446744073709551616 + s1 = x1 * yj + c0 + t1) (C2 : c2 * 18446744073709551616 + s2 = x2 * yj + c1 + t2) (C3 : c3 * 18446744073709551616 + s3 = x3 * yj + c2 + t3)
    (D0 : d0 * 18446744073709551616 = m * 18446744069414584321 + s0) (D1 : d1 * 18446744073709551616 + n0 = m * 6034159408538082302 + d0 + s1) (D2 : d2 * 18446744073709551616 + n1 = m * 3691218898639771653 + d1 + s2) (D3 : d3 * 18446744073709551616 + n2 = m * 8353516859464449352 + d2 + s3)
    (hinv : frInv (frNum x0 x1 x2 x3) Y j t0 t1 t2 t3) :
    c3 + d3 < 18446744073709551616 ∧ frInv (frNum x0 x1 x2 x3) Y (j + 1) n0 n1 n2 (c3 + d3) := by
  obtain ⟨T, M, hT, hT2, hTM⟩ := hinv
  obtain ⟨mn, rfl⟩ := Int.eq_ofNat_of_zero_le ma
  have hXy := frNum_mul x0 x1 x2 x3 yj
  have hXb : frNum x0 x1 x2 x3 * yj ≤ (52435875175126190479447740508185965837690552500527637822603658699938581184513 - 1) * (18446744073709551616 - 1) := Nat.mul_le_mul (by unfold frQ at hX; omega) (by omega)
  have hXyI : ((frNum x0 x1 x2 x3 * yj : Nat) : Int) = (x0 : Int) * yj + (x1 : Int) * yj * 18446744073709551616 + (x2 : Int) * yj * 340282366920938463463374607431768211456 + (x3 : Int) * yj * 6277101735386680763835789423207666416102355444464034512896 := by rw [hXy]; simp
  generalize hXYd : frNum x0 x1 x2 x3 * yj = XY at *
  have hXYd := hXYd.symm
  have key : (n0 + n1 * 18446744073709551616 + n2 * 340282366920938463463374607431768211456 + (c3 + d3) * 6277101735386680763835789423207666416102355444464034512896) * 18446744073709551616 = T + XY + mn * frQ := by
    rw [hXyI, ← hT]
    unfold frQ
    omega
  have hpos : 0 ≤ n0 + n1 * 18446744073709551616 + n2 * 340282366920938463463374607431768211456 + (c3 + d3) * 6277101735386680763835789423207666416102355444464034512896 := by omega
  obtain ⟨T', hT'⟩ := Int.eq_ofNat_of_zero_le hpos
  rw [hT'] at key
  have keyN : T' * 18446744073709551616 = T + XY + mn * frQ := by omega
  have hT'2 : T' < 2 * frQ := by unfold frQ at *; omega
  refine ⟨by unfold frQ at hT'2; omega, T', M + mn * 18446744073709551616 ^ j, hT', hT'2, ?_⟩
  have hXYe : XY = frNum x0 x1 x2 x3 * yj := hXYd
  rw [Nat.mod_pow_succ, hY, Nat.pow_succ, Nat.mul_comm (18446744073709551616 ^ j) 18446744073709551616, ← Nat.mul_assoc, keyN, hXYe]
  simp only [Nat.add_mul, Nat.mul_add]
  rw [hTM]
  generalize 18446744073709551616 ^ j = P
  have e1 : frNum x0 x1 x2 x3 * yj * P = frNum x0 x1 x2 x3 * (P * yj) := by rw [Nat.mul_assoc, Nat.mul_comm yj P]
  have e2 : mn * frQ * P = mn * P * frQ := by rw [Nat.mul_right_comm]
  rw [e1, e2]
  omega

theorem fr_unit : 115792089237316195423570985008687907853269984665640564039457584007913129639936 * frRinv % frQ = 1 := by decide

/-- the end of Montgomery's product -/
theorem fr_end {X Y : Nat} {t0 t1 t2 t3 : Int} (hY : Y < 115792089237316195423570985008687907853269984665640564039457584007913129639936) (h : frInv X Y 4 t0 t1 t2 t3) (hb : (0 ≤ t0 ∧ t0 < 18446744073709551616) ∧ (0 ≤ t1 ∧ t1 < 18446744073709551616) ∧ (0 ≤ t2 ∧ t2 < 18446744073709551616) ∧ (0 ≤ t3 ∧ t3 < 18446744073709551616)) :
    ∃ z0 z1 z2 z3 : Nat, t0 = z0 ∧ z0 < 18446744073709551616 ∧ t1 = z1 ∧ z1 < 18446744073709551616 ∧ t2 = z2 ∧ z2 < 18446744073709551616 ∧ t3 = z3 ∧ z3 < 18446744073709551616 ∧ frNum z0 z1 z2 z3 < 2 * frQ ∧ frNum z0 z1 z2 z3 % frQ = frMont X Y := by
  obtain ⟨T, M, hT, hT2, hTM⟩ := h
  have hz : frNum t0.toNat t1.toNat t2.toNat t3.toNat = T := by unfold frNum; omega
  refine ⟨t0.toNat, t1.toNat, t2.toNat, t3.toNat, by omega, by omega, by omega, by omega, by omega, by omega, by omega, by omega, by rw [hz]; exact hT2, ?_⟩
  rw [hz]
  have hP : (18446744073709551616 : Nat) ^ 4 = 115792089237316195423570985008687907853269984665640564039457584007913129639936 := by decide
  rw [hP, Nat.mod_eq_of_lt hY] at hTM
  unfold frMont
  have e : T * (115792089237316195423570985008687907853269984665640564039457584007913129639936 * frRinv) = X * Y * frRinv + frQ * (M * frRinv) := by
    rw [← Nat.mul_assoc, hTM, Nat.add_mul, Nat.mul_right_comm M, Nat.mul_comm _ frQ]
  have e2 : X * Y * frRinv % frQ = T * (115792089237316195423570985008687907853269984665640564039457584007913129639936 * frRinv) % frQ := by rw [e, Nat.add_mul_mod_self_left]
  rw [e2, Nat.mul_mod, fr_unit, Nat.mul_one, Nat.mod_mod]
end Go.Proofs.YtpinopjnlcbipaaDoor
