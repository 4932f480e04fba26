/- math/bits.Add64, Sub64 (the model's own entries) and Mul64 in a walk: each leaves two numbers of which an equation is known. Conditions: those of each theorem. -/
import Derived.Test.YtdconlmpjehohaaDoorProg
import Derived.WalkKit
import Derived.WalkLawsBesides
import Derived.Laws.Externs
import Derived.Lib.Hide
namespace Go.Proofs.YtdconlmpjehohaaDoor
open Go.RowKit
set_option linter.unusedVariables false

theorem callFunc_add64 (x y c : Int) (hx : 0 ≤ x) (hy : 0 ≤ y) (hc0 : 0 ≤ c) (hc : c ≤ 1) (w : World) :
    (callFunc 64 #[.int .u64 x, .int .u64 y, .int .u64 c]).run Tryd.prog w = .ok (.value (.tuple #[.int .u64 ((x + y + c) % 18446744073709551616), .int .u64 ((x + y + c) / 18446744073709551616)])) w := by
  rw [run_callFunc_extern Tryd.func64 (by kernel_rfl) (by kernel_rfl) (by kernel_rfl) (e := add64Entry) (by kernel_rfl), run_add64 x y c hx hy hc0 hc]
  rfl

/-- the model's entry for Sub64 -/
def subEntry : Array Value → Sem Value := fun args => do
  let (x, y, b) ← Extern.MathBitsCarry.three "Sub64" args
  pure (Extern.MathBitsCarry.pair ((x + Extern.MathBitsCarry.m64 - y - b) % Extern.MathBitsCarry.m64) (if x < y + b then 1 else 0))

theorem callFunc_sub64 (x y b : Nat) (hb : b ≤ 1) (w : World) :
    (callFunc 66 #[.int .u64 x, .int .u64 y, .int .u64 b]).run Tryd.prog w =
      .ok (.value (.tuple #[.int .u64 (((x + 18446744073709551616 - y - b) % 18446744073709551616 : Nat) : Int), .int .u64 ((if x < y + b then 1 else 0 : Nat) : Int)])) w := by
  have hrun : (subEntry #[.int .u64 x, .int .u64 y, .int .u64 b]).run Tryd.prog w = .ok (.tuple #[.int .u64 (((x + 18446744073709551616 - y - b) % 18446744073709551616 : Nat) : Int), .int .u64 ((if x < y + b then 1 else 0 : Nat) : Int)]) w := by
    have : b = 0 ∨ b = 1 := by omega
    rcases this with rfl | rfl <;> rfl
  rw [run_callFunc_extern Tryd.func66 (by kernel_rfl) (by kernel_rfl) (by kernel_rfl) (e := subEntry) (by kernel_rfl), hrun]
  rfl

section
variable {ops : Array Oper} {rest : List Oper} {o : Oper} {a : Act} {w : World} {Q : Exit → Act → World → Prop}
theorem wpList_callrun {P : Program} (hgd : o.guard = none) (f : FuncId) (x y z : Operand) (ts : Array TypeId) (ho : o.op = .call { callee := .value (.func f), args := #[x, y, z], argTypes := ts })
    (vx vy vz v : Value) (hx : a.eval x = vx) (hy : a.eval y = vy) (hz : a.eval z = vz) (hrun : (callFunc f #[vx, vy, vz]).run P w = .ok (.value v) w) (h : wpList P ops Q rest (a.put o.dst v) w) : wpList P ops Q (o :: rest) a w := by
  refine wpList_plain hgd fun K hK => ?_
  have hf : a.eval (.func f) = .func (.func f) #[] #[] := rfl
  unfold Oper.wp execOp
  simp only [ho, resolve, hf, Deferred.ofValue, invoke, Sem.run_bind, Sem.run_pure, Result.andThen_ok, List.map_toArray, List.map_cons, List.map_nil, hx, hy, hz, Array.append_empty, Array.empty_append, hrun]
  exact hK _ _ h

/-- Add64 in a walk -/
theorem wpList_add64 (hgd : o.guard = none) (x y z : Operand) (ts : Array TypeId) (ho : o.op = .call { callee := .value (.func 64), args := #[x, y, z], argTypes := ts })
    (vx vy vz : Int) (hx : a.eval x = .int .u64 vx) (hy : a.eval y = .int .u64 vy) (hz : a.eval z = .int .u64 vz) (b1 : 0 ≤ vx) (b2 : vx < 18446744073709551616) (b3 : 0 ≤ vy) (b4 : vy < 18446744073709551616) (b5 : 0 ≤ vz) (b6 : vz ≤ 1)
    (h : ∀ s k : Int, 0 ≤ s → s < 18446744073709551616 → 0 ≤ k → k ≤ 1 → Hid (s + k * 18446744073709551616 = vx + vy + vz) → wpList Tryd.prog ops Q rest (a.put o.dst (.tuple #[.int .u64 s, .int .u64 k])) w) : wpList Tryd.prog ops Q (o :: rest) a w :=
  wpList_callrun hgd _ x y z ts ho _ _ _ _ hx hy hz (callFunc_add64 vx vy vz b1 b3 b5 b6 w)
    (h _ _ (by omega) (by omega) (by omega) (by omega) (show _ = _ by omega))

/-- Sub64 in a walk -/
theorem wpList_sub64 (hgd : o.guard = none) (x y z : Operand) (ts : Array TypeId) (ho : o.op = .call { callee := .value (.func 66), args := #[x, y, z], argTypes := ts })
    (vx vy vz : Int) (hx : a.eval x = .int .u64 vx) (hy : a.eval y = .int .u64 vy) (hz : a.eval z = .int .u64 vz) (b1 : 0 ≤ vx) (b2 : vx < 18446744073709551616) (b3 : 0 ≤ vy) (b4 : vy < 18446744073709551616) (b5 : 0 ≤ vz) (b6 : vz ≤ 1)
    (h : ∀ s k : Int, 0 ≤ s → s < 18446744073709551616 → 0 ≤ k → k ≤ 1 → Hid (s + vy + vz = vx + k * 18446744073709551616) → wpList Tryd.prog ops Q rest (a.put o.dst (.tuple #[.int .u64 s, .int .u64 k])) w) : wpList Tryd.prog ops Q (o :: rest) a w := by
  obtain ⟨p, rfl⟩ := Int.eq_ofNat_of_zero_le b1
  obtain ⟨q, rfl⟩ := Int.eq_ofNat_of_zero_le b3
  obtain ⟨r, rfl⟩ := Int.eq_ofNat_of_zero_le b5
  refine wpList_callrun hgd _ x y z ts ho _ _ _ _ hx hy hz (callFunc_sub64 p q r (by omega) w) (h _ _ (by omega) (by omega) (by omega) ?_ ?_)
  · split <;> omega
  · show _ = _
    split <;> omega
end

theorem mul64_split (x y : Nat) (x0 x1 y0 y1 : Nat) (hx : x = x1 * 4294967296 + x0) (hy : y = y1 * 4294967296 + y0) : x * y = x1 * y1 * 18446744073709551616 + (x1 * y0 + x0 * y1) * 4294967296 + x0 * y0 := by
  subst hx hy
  simp only [Nat.add_mul, Nat.mul_add]
  have e1 : x1 * 4294967296 * (y1 * 4294967296) = x1 * y1 * 18446744073709551616 := by
    rw [Nat.mul_mul_mul_comm]
  have e2 : x1 * 4294967296 * y0 = x1 * y0 * 4294967296 := by rw [Nat.mul_right_comm]
  have e3 : x0 * (y1 * 4294967296) = x0 * y1 * 4294967296 := by rw [Nat.mul_assoc]
  rw [e1, e2, e3]; omega

theorem mul64_hi (p00 p10 p01 p11 P : Int) (h00 : 0 ≤ p00 ∧ p00 ≤ 18446744065119617025) (h10 : 0 ≤ p10 ∧ p10 ≤ 18446744065119617025) (h01 : 0 ≤ p01 ∧ p01 ≤ 18446744065119617025) (h11 : 0 ≤ p11 ∧ p11 ≤ 18446744065119617025)
    (hP : P = p11 * 18446744073709551616 + (p10 + p01) * 4294967296 + p00) (hi t w1 : Int)
    (ht : t = IntKind.u64.wrap (IntKind.u64.wrap p10 + IntKind.u64.wrap p00 / 4294967296)) (hw1 : w1 = IntKind.u64.wrap (t % 4294967296 + IntKind.u64.wrap p01))
    (hhi : hi = IntKind.u64.wrap (IntKind.u64.wrap (IntKind.u64.wrap p11 + t / 4294967296) + w1 / 4294967296)) :
    0 ≤ hi ∧ hi ≤ 18446744073709551614 ∧ 0 ≤ IntKind.u64.wrap P ∧ IntKind.u64.wrap P < 18446744073709551616 ∧ hi * 18446744073709551616 + IntKind.u64.wrap P = P := by
  simp only [IntKind.wrap_u64] at *
  omega

theorem mask32 (a : Int) (h0 : 0 ≤ a) (h1 : a < 18446744073709551616) : bits BinOp.and IntKind.u64 a 4294967295 = a % 4294967296 := by
  obtain ⟨n, rfl⟩ := Int.eq_ofNat_of_zero_le h0
  have := u64_and_nat n 4294967295 (by omega) (by omega)
  rw [show n &&& 4294967295 = n % 4294967296 from Nat.and_two_pow_sub_one_eq_mod n 32] at this
  rw [show (4294967295 : Int) = ((4294967295 : Nat) : Int) from rfl, this]
  simp

set_option maxHeartbeats 1000000 in
theorem mul64_calls (x y : Int) (w : World) (hx : 0 ≤ x) (hx' : x < 18446744073709551616) (hy : 0 ≤ y) (hy' : y < 18446744073709551616) :
    Calls Tryd.prog 63 #[.int .u64 x, .int .u64 y] w fun e w' => ∃ hi lo : Int, e = .returned (.tuple #[.int .u64 hi, .int .u64 lo]) ∧ w = w' ∧ 0 ≤ hi ∧ hi ≤ 18446744073709551614 ∧ 0 ≤ lo ∧ lo < 18446744073709551616 ∧ hi * 18446744073709551616 + lo ≤ 340282366920938463426481119284349108225 ∧ Hid (hi * 18446744073709551616 + lo = x * y) := by
  obtain ⟨x, rfl⟩ := Int.eq_ofNat_of_zero_le hx
  obtain ⟨y, rfl⟩ := Int.eq_ofNat_of_zero_le hy
  have ex : bits BinOp.and IntKind.u64 (x : Int) 4294967295 = ((x % 4294967296 : Nat) : Int) := by
    have := u64_and_nat x 4294967295 (by omega) (by omega)
    rw [show x &&& 4294967295 = x % 4294967296 from Nat.and_two_pow_sub_one_eq_mod x 32] at this
    exact this
  have ey : bits BinOp.and IntKind.u64 (y : Int) 4294967295 = ((y % 4294967296 : Nat) : Int) := by
    have := u64_and_nat y 4294967295 (by omega) (by omega)
    rw [show y &&& 4294967295 = y % 4294967296 from Nat.and_two_pow_sub_one_eq_mod y 32] at this
    exact this
  have EX := Lib.hid ex
  have EY := Lib.hid ey
  clear ex ey
  go_enter Tryd.func63, Tryd.ntmps63
  go_wp2
  go_ret2
  refine ⟨_, _, rfl, rfl, ?_⟩
  have ex := EX.out
  have ey := EY.out
  simp only [ex, ey]
  have dx : (x : Int) / 4294967296 = ((x / 4294967296 : Nat) : Int) := by simp
  have dy : (y : Int) / 4294967296 = ((y / 4294967296 : Nat) : Int) := by simp
  have m00 : x % 4294967296 * (y % 4294967296) ≤ 18446744065119617025 := Nat.mul_le_mul (show x % 4294967296 ≤ 4294967295 by omega) (show y % 4294967296 ≤ 4294967295 by omega)
  have m10 : x / 4294967296 * (y % 4294967296) ≤ 18446744065119617025 := Nat.mul_le_mul (show x / 4294967296 ≤ 4294967295 by omega) (show y % 4294967296 ≤ 4294967295 by omega)
  have m01 : x % 4294967296 * (y / 4294967296) ≤ 18446744065119617025 := Nat.mul_le_mul (show x % 4294967296 ≤ 4294967295 by omega) (show y / 4294967296 ≤ 4294967295 by omega)
  have m11 : x / 4294967296 * (y / 4294967296) ≤ 18446744065119617025 := Nat.mul_le_mul (show x / 4294967296 ≤ 4294967295 by omega) (show y / 4294967296 ≤ 4294967295 by omega)
  have hPb : x * y ≤ 340282366920938463426481119284349108225 := Nat.mul_le_mul (show x ≤ 18446744073709551615 by omega) (show y ≤ 18446744073709551615 by omega)
  have hP := mul64_split x y (x % 4294967296) (x / 4294967296) (y % 4294967296) (y / 4294967296) (by omega) (by omega)
  rw [dx, dy]
  simp only [← Int.natCast_mul]
  generalize x % 4294967296 * (y % 4294967296) = p00 at *
  generalize x / 4294967296 * (y % 4294967296) = p10 at *
  generalize x % 4294967296 * (y / 4294967296) = p01 at *
  generalize x / 4294967296 * (y / 4294967296) = p11 at *
  generalize x * y = P at *
  have hT : bits BinOp.and IntKind.u64 (IntKind.u64.wrap (IntKind.u64.wrap (p10 : Int) + IntKind.u64.wrap (p00 : Int) / 4294967296)) 4294967295 = IntKind.u64.wrap (IntKind.u64.wrap (p10 : Int) + IntKind.u64.wrap (p00 : Int) / 4294967296) % 4294967296 :=
    mask32 _ (by rw [IntKind.wrap_u64]; omega) (by rw [IntKind.wrap_u64]; omega)
  rw [hT]
  obtain ⟨a1, a2, a3, a4, a5⟩ := mul64_hi p00 p10 p01 p11 P (by omega) (by omega) (by omega) (by omega) (by omega) _ _ _ rfl rfl rfl
  exact ⟨a1, a2, a3, a4, by rw [a5]; omega, a5⟩
end Go.Proofs.YtdconlmpjehohaaDoor
