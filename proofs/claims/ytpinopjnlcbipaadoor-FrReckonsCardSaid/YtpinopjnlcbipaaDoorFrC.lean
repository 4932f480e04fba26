/- Package fr: elements as numbers: Of, Neg, Square, plain. Conditions: those of each theorem. -/
import Derived.Test.YtpinopjnlcbipaaDoorFrMul
namespace Go.Proofs.YtpinopjnlcbipaaDoor
open Go.RowKit
set_option linter.unusedVariables false

/-- 2^256 modulo the modulus -/
def frR : Nat := 10920338887063814464675503992315976177888879664585288394250266608035967270910

/-- the element of a number -/
def frE (a : Nat) : Value := frV (a * frR % frQ)

theorem frE_lt (a : Nat) : a * frR % frQ < frQ := Nat.mod_lt _ (by decide)

theorem frE_mod (a : Nat) : frE (a % frQ) = frE a := by
  unfold frE
  rw [Nat.mod_mul_mod]

theorem frE_of {a b : Nat} (h : a % frQ = b % frQ) : frE a = frE b := by rw [← frE_mod a, h, frE_mod]

theorem frR_inv : frR * frRinv % frQ = 1 := by decide +kernel

theorem frMont_one (a : Nat) : frMont (a * frR % frQ) 1 = a % frQ := by
  unfold frMont
  rw [Nat.mul_one, Nat.mod_mul_mod, Nat.mul_assoc, ← Nat.mul_mod_mod, frR_inv, Nat.mul_one]

theorem mul_mod3 (x y z q : Nat) : x % q * (y % q) * z % q = x * y * z % q := by
  rw [Nat.mul_mod (x % q * (y % q)) z q, ← Nat.mul_mod x y q, ← Nat.mul_mod (x * y) z q]

theorem frMont_mul (a b : Nat) : frMont (a * frR % frQ) (b * frR % frQ) = (a * b) * frR % frQ := by
  unfold frMont
  rw [mul_mod3, show a * frR * (b * frR) * frRinv = a * b * frR * (frR * frRinv) by ac_rfl, ← Nat.mul_mod_mod, frR_inv, Nat.mul_one]

/-- the square of 2^256 modulo the modulus -/
def frSq : Nat := 3294906474794265442129797520630710739278575682199800681788903916070560242797

theorem frSq_inv : frSq * frRinv % frQ = frR := by decide +kernel
theorem frSq_lt : frSq < frQ := by decide
theorem frSq_val : frV frSq = .agg #[.int .u64 14526898881837571181, .int .u64 3129137299524312099, .int .u64 419701826671360399, .int .u64 524908885293268753] := by kernel_rfl

theorem frMont_sq (a : Nat) : frMont a frSq = a * frR % frQ := by
  unfold frMont
  rw [Nat.mul_assoc, ← Nat.mul_mod_mod, frSq_inv]

theorem frV_small (n : Nat) (hn : n < 18446744073709551616) : frV n = .agg #[.int .u64 n, .int .u64 0, .int .u64 0, .int .u64 0] := by
  have e1 : n / 18446744073709551616 % 18446744073709551616 = 0 := by omega
  have e2 : n / 340282366920938463463374607431768211456 % 18446744073709551616 = 0 := by omega
  have e3 : n / 6277101735386680763835789423207666416102355444464034512896 % 18446744073709551616 = 0 := by omega
  unfold frV
  rw [Nat.mod_eq_of_lt hn, e1, e2, e3]
  rfl

theorem frV_agg (r : Nat) (hr : r < frQ) : ∃ a b c d : Nat, frV r = .agg #[.int .u64 a, .int .u64 b, .int .u64 c, .int .u64 d] := by
  obtain ⟨a, b, c, d, -, -, -, -, -, h⟩ := frV_ex r (by unfold frQ at hr; omega)
  exact ⟨a, b, c, d, h⟩

theorem frE_inj {a b : Nat} : frE a = frE b ↔ a % frQ = b % frQ := by
  refine ⟨fun h => ?_, frE_of⟩
  have hq : frQ < 115792089237316195423570985008687907853269984665640564039457584007913129639936 := by decide
  have h' := frV_inj (Nat.lt_trans (frE_lt a) hq) (Nat.lt_trans (frE_lt b) hq) h
  have := congrArg (fun x => frMont x 1) h'
  simpa only [frMont_one] using this

set_option maxHeartbeats 1000000 in
set_option maxRecDepth 100000 in
theorem fr_of_calls (n : Nat) (w : World) (ht : FrTab w) (hn : n < 18446744073709551616) :
    Calls Tryd.prog 11 #[.int .u64 n] w fun e w' => e = .returned (frE n) ∧ Below w.heap.size w w' := by
  have HM := fun W hW => fr_mul_calls n frSq W hW (by unfold frQ; omega) frSq_lt
  rw [frMont_sq, frV_small n hn, frSq_val] at HM
  obtain ⟨r0, r1, r2, r3, hr⟩ := frV_agg (n * frR % frQ) (frE_lt n)
  unfold frE
  rw [hr] at HM ⊢
  have HM := Lib.hid HM
  have HT := Lib.hid ht
  obtain ⟨_, g2, _, _, _, _, q0, q1, q2, q3⟩ := ht
  go_enter Tryd.func11, Tryd.ntmps11
  go_wp2_with fail
  refine (HM.out _ (HT.out.below (by repeat (first | exact Below.refl _ _ | refine Below.drew ?_ | refine below_drewN ?_ _ | refine Below.alloc ?_ (by simp <;> omega) _)))).mono ?_
  rintro e xw ⟨he, hb1⟩
  subst he
  have p4 := (Bk.new1 w 27 #[.int .u64 0, .int .u64 0, .int .u64 0, .int .u64 0] (n := w.heap.size) (by simp)).under hb1
  have hb := (show Below w.heap.size w _ from (by repeat (first | exact Below.refl _ _ | refine Below.drew ?_ | refine below_drewN ?_ _ | refine Below.alloc ?_ (by simp <;> omega) _))).trans (hb1.mono (by simp <;> omega))
  have m4 := fr_size
  go_wp2_with (refine wpList_store_row rfl _ _ _ rfl _ _ rfl rfl _ _ p4 m4 rfl (by simp [Value.oneCell']) ?_)
  exact bodyPost_ret (results_cell_row rfl _ _ (w.heap.size) _ _ _ _ rfl (p4.row _) Tryd.underlying27 rfl m4) rfl ⟨rfl, below_setRow hb (by omega) _⟩

theorem fr_vsize : (Tryd.prog.info? 25).map (·.size) = some 4 := by kernel_rfl

/-- Mul of the elements of numbers -/
theorem fr_mulE (a b : Nat) (w : World) (ht : FrTab w) :
    Calls Tryd.prog 13 #[frE a, frE b] w fun e w' => e = .returned (frE (a * b)) ∧ Below w.heap.size w w' := by
  have h := fr_mul_calls (a * frR % frQ) (b * frR % frQ) w ht (frE_lt a) (frE_lt b)
  rw [frMont_mul] at h
  exact h

theorem fr_addE (a b : Nat) (w : World) (ht : FrTab w) :
    Calls Tryd.prog 12 #[frE a, frE b] w fun e w' => e = .returned (frE (a + b)) ∧ Below w.heap.size w w' := by
  have h := fr_add_calls (a * frR % frQ) (b * frR % frQ) w ht (frE_lt a) (frE_lt b)
  rw [← Nat.add_mod, ← Nat.add_mul] at h
  exact h

theorem frSub_num (a b : Nat) : (a * frR % frQ + frQ - b * frR % frQ) % frQ = (a + (frQ - b % frQ)) * frR % frQ := by
  have hb : b % frQ < frQ := Nat.mod_lt _ (by decide)
  have hbr : b * frR % frQ = b % frQ * frR % frQ := (Nat.mod_mul_mod ..).symm
  have hlt : b % frQ * frR % frQ < frQ := Nat.mod_lt _ (by decide)
  rw [hbr]
  generalize b % frQ = c at *
  have h1 : (frQ - c) * frR + c * frR = frQ * frR := by rw [← Nat.add_mul, Nat.sub_add_cancel (Nat.le_of_lt hb)]
  rw [Nat.add_mul, Nat.add_sub_assoc (Nat.le_of_lt hlt), Nat.mod_add_mod]
  generalize a * frR = A at *
  generalize c * frR = C at *
  generalize (frQ - c) * frR = D at *
  have hq : frQ = 52435875175126190479447740508185965837690552500527637822603658699938581184513 := rfl
  have hr : frR = 10920338887063814464675503992315976177888879664585288394250266608035967270910 := rfl
  have h2 : (D + C) % frQ = 0 := by rw [h1, Nat.mul_mod_right]
  rw [hq] at *
  omega

theorem fr_subE (a b : Nat) (w : World) (ht : FrTab w) :
    Calls Tryd.prog 14 #[frE a, frE b] w fun e w' => e = .returned (frE (a + (frQ - b % frQ))) ∧ Below w.heap.size w w' := by
  have h := fr_sub_calls (a * frR % frQ) (b * frR % frQ) w ht (frE_lt a) (frE_lt b)
  rw [frSub_num] at h
  exact h

theorem frE_zero : frE 0 = .agg #[.int .u64 0, .int .u64 0, .int .u64 0, .int .u64 0] := by kernel_rfl

set_option maxHeartbeats 1000000 in
set_option maxRecDepth 100000 in
theorem fr_neg_calls (a : Nat) (w : World) (ht : FrTab w) :
    Calls Tryd.prog 15 #[frE a] w fun e w' => e = .returned (frE (frQ - a % frQ)) ∧ Below w.heap.size w w' := by
  have HM := fun W hW => fr_subE 0 a W hW
  rw [frE_zero, Nat.zero_add] at HM
  have HT := Lib.hid ht
  obtain ⟨x0, x1, x2, x3, hx⟩ := frV_agg (a * frR % frQ) (frE_lt a)
  obtain ⟨r0, r1, r2, r3, hr⟩ := frV_agg ((frQ - a % frQ) * frR % frQ) (frE_lt _)
  unfold frE at HM ⊢
  rw [hx, hr] at HM ⊢
  have HM := Lib.hid HM
  clear ht hx hr
  go_enter Tryd.func15, Tryd.ntmps15
  go_wp2_with fail
  refine (HM.out _ (HT.out.below (by repeat (first | exact Below.refl _ _ | refine Below.drew ?_ | refine below_drewN ?_ _ | refine Below.alloc ?_ (by simp <;> omega) _)))).mono ?_
  rintro e xw ⟨he, hb1⟩
  subst he
  have p4 := (Bk.new1 (w.alloc (.cells #[.int .u64 x0, .int .u64 x1, .int .u64 x2, .int .u64 x3] 27)) 27 #[.int .u64 0, .int .u64 0, .int .u64 0, .int .u64 0] (n := w.heap.size + 1) (by simp)).under hb1
  have hb := (show Below w.heap.size w _ from (by repeat (first | exact Below.refl _ _ | refine Below.drew ?_ | refine below_drewN ?_ _ | refine Below.alloc ?_ (by simp <;> omega) _))).trans (hb1.mono (by simp <;> omega))
  have m4 := fr_size
  go_wp2_with (refine wpList_store_row rfl _ _ _ rfl _ _ rfl rfl _ _ p4 m4 rfl (by simp [Value.oneCell']) ?_)
  exact bodyPost_ret (results_cell_row rfl _ _ (w.heap.size + 1) _ _ _ _ rfl (p4.row _) Tryd.underlying27 rfl m4) rfl ⟨rfl, below_setRow hb (by omega) _⟩

set_option maxHeartbeats 1000000 in
set_option maxRecDepth 100000 in
theorem fr_square_calls (a : Nat) (w : World) (ht : FrTab w) :
    Calls Tryd.prog 25 #[frE a] w fun e w' => e = .returned (frE (a * a)) ∧ Below w.heap.size w w' := by
  have HM := fun W hW => fr_mulE a a W hW
  have HT := Lib.hid ht
  obtain ⟨x0, x1, x2, x3, hx⟩ := frV_agg (a * frR % frQ) (frE_lt a)
  obtain ⟨r0, r1, r2, r3, hr⟩ := frV_agg (a * a * frR % frQ) (frE_lt _)
  unfold frE at HM ⊢
  rw [hx, hr] at HM ⊢
  have HM := Lib.hid HM
  clear ht hx hr
  go_enter Tryd.func25, Tryd.ntmps25
  go_wp2_with fail
  refine (HM.out _ (HT.out.below (by repeat (first | exact Below.refl _ _ | refine Below.drew ?_ | refine below_drewN ?_ _ | refine Below.alloc ?_ (by simp <;> omega) _)))).mono ?_
  rintro e xw ⟨he, hb1⟩
  subst he
  have p4 := (Bk.new1 (w.alloc (.cells #[.int .u64 x0, .int .u64 x1, .int .u64 x2, .int .u64 x3] 27)) 27 #[.int .u64 0, .int .u64 0, .int .u64 0, .int .u64 0] (n := w.heap.size + 1) (by simp)).under hb1
  have hb := (show Below w.heap.size w _ from (by repeat (first | exact Below.refl _ _ | refine Below.drew ?_ | refine below_drewN ?_ _ | refine Below.alloc ?_ (by simp <;> omega) _))).trans (hb1.mono (by simp <;> omega))
  have m4 := fr_size
  go_wp2_with (refine wpList_store_row rfl _ _ _ rfl _ _ rfl rfl _ _ p4 m4 rfl (by simp [Value.oneCell']) ?_)
  exact bodyPost_ret (results_cell_row rfl _ _ (w.heap.size + 1) _ _ _ _ rfl (p4.row _) Tryd.underlying27 rfl m4) rfl ⟨rfl, below_setRow hb (by omega) _⟩

set_option maxHeartbeats 1000000 in
set_option maxRecDepth 100000 in
theorem fr_plain_calls (a : Nat) (w : World) (ht : FrTab w) :
    Calls Tryd.prog 47 #[frE a] w fun e w' => e = .returned (frV (a % frQ)) ∧ Below w.heap.size w w' := by
  have HM := fun W hW => fr_mul_calls (a * frR % frQ) 1 W hW (frE_lt a) (by decide)
  rw [frMont_one, frV_small 1 (by decide)] at HM
  have HT := Lib.hid ht
  obtain ⟨x0, x1, x2, x3, hx⟩ := frV_agg (a * frR % frQ) (frE_lt a)
  obtain ⟨r0, r1, r2, r3, hr⟩ := frV_agg (a % frQ) (Nat.mod_lt _ (by decide))
  unfold frE at ⊢
  rw [hx, hr] at HM ⊢
  have HM := Lib.hid HM
  clear ht hx hr
  have hfl : ∀ W : World, (Instr.field 27 (.agg #[.int .u64 r0, .int .u64 r1, .int .u64 r2, .int .u64 r3]) 0).run Tryd.prog W = .ok (.agg #[.int .u64 r0, .int .u64 r1, .int .u64 r2, .int .u64 r3]) W := fun W => by kernel_rfl
  go_enter Tryd.func47, Tryd.ntmps47
  go_wp2_with fail
  refine (HM.out _ (HT.out.below (by repeat (first | exact Below.refl _ _ | refine Below.drew ?_ | refine below_drewN ?_ _ | refine Below.alloc ?_ (by simp <;> omega) _)))).mono ?_
  rintro e xw ⟨he, hb1⟩
  subst he
  have p4 := (Bk.new1 (w.alloc (.cells #[.int .u64 x0, .int .u64 x1, .int .u64 x2, .int .u64 x3] 27)) 25 #[.int .u64 0, .int .u64 0, .int .u64 0, .int .u64 0] (n := w.heap.size + 1) (by simp)).under hb1
  have hb := (show Below w.heap.size w _ from (by repeat (first | exact Below.refl _ _ | refine Below.drew ?_ | refine below_drewN ?_ _ | refine Below.alloc ?_ (by simp <;> omega) _))).trans (hb1.mono (by simp <;> omega))
  have m4 := fr_vsize
  go_wp2_with (refine wpList_store_row rfl _ _ _ rfl _ _ rfl rfl _ _ p4 m4 rfl (by simp [Value.oneCell']) ?_)
  exact bodyPost_ret (results_cell_row rfl _ _ (w.heap.size + 1) _ _ _ _ rfl (p4.row _) Tryd.underlying25 rfl m4) rfl ⟨rfl, below_setRow hb (by omega) _⟩
end Go.Proofs.YtpinopjnlcbipaaDoor
