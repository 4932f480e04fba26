/- Package fr: elements as numbers: Of, Neg, Square, plain. Conditions: those of each theorem. -/
import Derived.Test.YtdconlmpjehohaaDoorFpMul
namespace Go.Proofs.YtdconlmpjehohaaDoor
open Go.RowKit
set_option linter.unusedVariables false

/-- 2^384 modulo the modulus -/
def fpR : Nat := 3380320199399472671518931668520476396067793891014375699959770179129436917079669831430077592723774664465579537268733

/-- the element of a number -/
def fpE (a : Nat) : Value := fpV (a * fpR % fpQ)

theorem fpE_lt (a : Nat) : a * fpR % fpQ < fpQ := Nat.mod_lt _ (by decide)

theorem fpE_mod (a : Nat) : fpE (a % fpQ) = fpE a := by
  unfold fpE
  rw [Nat.mod_mul_mod]

theorem fpE_of {a b : Nat} (h : a % fpQ = b % fpQ) : fpE a = fpE b := by rw [← fpE_mod a, h, fpE_mod]

theorem fpR_inv : fpR * fpRinv % fpQ = 1 := by decide +kernel

theorem fpMont_one (a : Nat) : fpMont (a * fpR % fpQ) 1 = a % fpQ := by
  unfold fpMont
  rw [Nat.mul_one, Nat.mod_mul_mod, Nat.mul_assoc, ← Nat.mul_mod_mod, fpR_inv, Nat.mul_one]

theorem mul_mod3 (x y z q : Nat) : x % q * (y % q) * z % q = x * y * z % q := by
  rw [Nat.mul_mod (x % q * (y % q)) z q, ← Nat.mul_mod x y q, ← Nat.mul_mod (x * y) z q]

theorem fpMont_mul (a b : Nat) : fpMont (a * fpR % fpQ) (b * fpR % fpQ) = (a * b) * fpR % fpQ := by
  unfold fpMont
  rw [mul_mod3, show a * fpR * (b * fpR) * fpRinv = a * b * fpR * (fpR * fpRinv) by ac_rfl, ← Nat.mul_mod_mod, fpR_inv, Nat.mul_one]

/-- the square of 2^384 modulo the modulus -/
def fpSq : Nat := 2708263910654730174793787626328176511836455197166317677006154293982164122222515399004018013397331347120527951271750

theorem fpSq_inv : fpSq * fpRinv % fpQ = fpR := by decide +kernel
theorem fpSq_lt : fpSq < fpQ := by decide
theorem fpSq_val : fpV fpSq = .agg #[.int .u64 17644856173732828998, .int .u64 754043588434789617, .int .u64 10224657059481499349, .int .u64 7488229067341005760, .int .u64 11130996698012816685, .int .u64 1267921511277847466] := by kernel_rfl

theorem fpMont_sq (a : Nat) : fpMont a fpSq = a * fpR % fpQ := by
  unfold fpMont
  rw [Nat.mul_assoc, ← Nat.mul_mod_mod, fpSq_inv]

theorem fpV_small (n : Nat) (hn : n < 18446744073709551616) : fpV n = .agg #[.int .u64 n, .int .u64 0, .int .u64 0, .int .u64 0, .int .u64 0, .int .u64 0] := by
  have e1 : n / 18446744073709551616 % 18446744073709551616 = 0 := by omega
  have e2 : n / 340282366920938463463374607431768211456 % 18446744073709551616 = 0 := by omega
  have e3 : n / 6277101735386680763835789423207666416102355444464034512896 % 18446744073709551616 = 0 := by omega
  unfold fpV
  have e4 : n / 115792089237316195423570985008687907853269984665640564039457584007913129639936 % 18446744073709551616 = 0 := by omega
  have e5 : n / 2135987035920910082395021706169552114602704522356652769947041607822219725780640550022962086936576 % 18446744073709551616 = 0 := by omega
  rw [Nat.mod_eq_of_lt hn, e1, e2, e3, e4, e5]
  rfl

theorem fpV_agg (r : Nat) (hr : r < fpQ) : ∃ a b c d e f : Nat, fpV r = .agg #[.int .u64 a, .int .u64 b, .int .u64 c, .int .u64 d, .int .u64 e, .int .u64 f] := by
  obtain ⟨a, b, c, d, e, f, -, -, -, -, -, -, -, h⟩ := fpV_ex r (by unfold fpQ at hr; omega)
  exact ⟨a, b, c, d, e, f, h⟩

theorem fpE_inj {a b : Nat} : fpE a = fpE b ↔ a % fpQ = b % fpQ := by
  refine ⟨fun h => ?_, fpE_of⟩
  have hq : fpQ < 39402006196394479212279040100143613805079739270465446667948293404245721771497210611414266254884915640806627990306816 := by decide
  have h' := fpV_inj (Nat.lt_trans (fpE_lt a) hq) (Nat.lt_trans (fpE_lt b) hq) h
  have := congrArg (fun x => fpMont x 1) h'
  simpa only [fpMont_one] using this

set_option maxHeartbeats 1000000 in
set_option maxRecDepth 100000 in
theorem fp_of_calls (n : Nat) (w : World) (ht : FpTab w) (hn : n < 18446744073709551616) :
    Calls Tryd.prog 22 #[.int .u64 n] w fun e w' => e = .returned (fpE n) ∧ Below w.heap.size w w' := by
  have HM := fun W hW => fp_mul_calls n fpSq W hW (by unfold fpQ; omega) fpSq_lt
  rw [fpMont_sq, fpV_small n hn, fpSq_val] at HM
  obtain ⟨r0, r1, r2, r3, r4, r5, hr⟩ := fpV_agg (n * fpR % fpQ) (fpE_lt n)
  unfold fpE
  rw [hr] at HM ⊢
  have HM := Lib.hid HM
  have HT := Lib.hid ht
  obtain ⟨_, g2, _, _, _, _, _, _, q0, q1, q2, q3, q4, q5⟩ := ht
  go_enter Tryd.func22, Tryd.ntmps22
  go_wp2_with fail
  refine (HM.out _ (HT.out.below (by repeat (first | exact Below.refl _ _ | refine Below.drew ?_ | refine below_drewN ?_ _ | refine Below.alloc ?_ (by simp <;> omega) _)))).mono ?_
  rintro e xw ⟨he, hb1⟩
  subst he
  have p4 := (Bk.new1 w 34 #[.int .u64 0, .int .u64 0, .int .u64 0, .int .u64 0, .int .u64 0, .int .u64 0] (n := w.heap.size) (by simp)).under hb1
  have hb := (show Below w.heap.size w _ from (by repeat (first | exact Below.refl _ _ | refine Below.drew ?_ | refine below_drewN ?_ _ | refine Below.alloc ?_ (by simp <;> omega) _))).trans (hb1.mono (by simp <;> omega))
  have m4 := fp_size
  go_wp2_with (refine wpList_store_row rfl _ _ _ rfl _ _ rfl rfl _ _ p4 m4 rfl (by simp [Value.oneCell']) ?_)
  exact bodyPost_ret (results_cell_row rfl _ _ (w.heap.size) _ _ _ _ rfl (p4.row _) Tryd.underlying34 rfl m4) rfl ⟨rfl, below_setRow hb (by omega) _⟩

theorem fp_vsize : (Tryd.prog.info? 32).map (·.size) = some 6 := by kernel_rfl

/-- Mul of the elements of numbers -/
theorem fp_mulE (a b : Nat) (w : World) (ht : FpTab w) :
    Calls Tryd.prog 45 #[fpE a, fpE b] w fun e w' => e = .returned (fpE (a * b)) ∧ Below w.heap.size w w' := by
  have h := fp_mul_calls (a * fpR % fpQ) (b * fpR % fpQ) w ht (fpE_lt a) (fpE_lt b)
  rw [fpMont_mul] at h
  exact h

theorem fp_addE (a b : Nat) (w : World) (ht : FpTab w) :
    Calls Tryd.prog 49 #[fpE a, fpE b] w fun e w' => e = .returned (fpE (a + b)) ∧ Below w.heap.size w w' := by
  have h := fp_add_calls (a * fpR % fpQ) (b * fpR % fpQ) w ht (fpE_lt a) (fpE_lt b)
  rw [← Nat.add_mod, ← Nat.add_mul] at h
  exact h

theorem fpSub_num (a b : Nat) : (a * fpR % fpQ + fpQ - b * fpR % fpQ) % fpQ = (a + (fpQ - b % fpQ)) * fpR % fpQ := by
  have hb : b % fpQ < fpQ := Nat.mod_lt _ (by decide)
  have hbr : b * fpR % fpQ = b % fpQ * fpR % fpQ := (Nat.mod_mul_mod ..).symm
  have hlt : b % fpQ * fpR % fpQ < fpQ := Nat.mod_lt _ (by decide)
  rw [hbr]
  generalize b % fpQ = c at *
  have h1 : (fpQ - c) * fpR + c * fpR = fpQ * fpR := by rw [← Nat.add_mul, Nat.sub_add_cancel (Nat.le_of_lt hb)]
  rw [Nat.add_mul, Nat.add_sub_assoc (Nat.le_of_lt hlt), Nat.mod_add_mod]
  generalize a * fpR = A at *
  generalize c * fpR = C at *
  generalize (fpQ - c) * fpR = D at *
  have hq : fpQ = 4002409555221667393417789825735904156556882819939007885332058136124031650490837864442687629129015664037894272559787 := rfl
  have hr : fpR = 3380320199399472671518931668520476396067793891014375699959770179129436917079669831430077592723774664465579537268733 := rfl
  have h2 : (D + C) % fpQ = 0 := by rw [h1, Nat.mul_mod_right]
  rw [hq] at *
  omega

theorem fp_subE (a b : Nat) (w : World) (ht : FpTab w) :
    Calls Tryd.prog 46 #[fpE a, fpE b] w fun e w' => e = .returned (fpE (a + (fpQ - b % fpQ))) ∧ Below w.heap.size w w' := by
  have h := fp_sub_calls (a * fpR % fpQ) (b * fpR % fpQ) w ht (fpE_lt a) (fpE_lt b)
  rw [fpSub_num] at h
  exact h

theorem fpE_zero : fpE 0 = .agg #[.int .u64 0, .int .u64 0, .int .u64 0, .int .u64 0, .int .u64 0, .int .u64 0] := by kernel_rfl

set_option maxHeartbeats 1000000 in
set_option maxRecDepth 100000 in
theorem fp_neg_calls (a : Nat) (w : World) (ht : FpTab w) :
    Calls Tryd.prog 23 #[fpE a] w fun e w' => e = .returned (fpE (fpQ - a % fpQ)) ∧ Below w.heap.size w w' := by
  have HM := fun W hW => fp_subE 0 a W hW
  rw [fpE_zero, Nat.zero_add] at HM
  have HT := Lib.hid ht
  obtain ⟨x0, x1, x2, x3, x4, x5, hx⟩ := fpV_agg (a * fpR % fpQ) (fpE_lt a)
  obtain ⟨r0, r1, r2, r3, r4, r5, hr⟩ := fpV_agg ((fpQ - a % fpQ) * fpR % fpQ) (fpE_lt _)
  unfold fpE at HM ⊢
  rw [hx, hr] at HM ⊢
  have HM := Lib.hid HM
  clear ht hx hr
  go_enter Tryd.func23, Tryd.ntmps23
  go_wp2_with fail
  refine (HM.out _ (HT.out.below (by repeat (first | exact Below.refl _ _ | refine Below.drew ?_ | refine below_drewN ?_ _ | refine Below.alloc ?_ (by simp <;> omega) _)))).mono ?_
  rintro e xw ⟨he, hb1⟩
  subst he
  have p4 := (Bk.new1 (w.alloc (.cells #[.int .u64 x0, .int .u64 x1, .int .u64 x2, .int .u64 x3, .int .u64 x4, .int .u64 x5] 34)) 34 #[.int .u64 0, .int .u64 0, .int .u64 0, .int .u64 0, .int .u64 0, .int .u64 0] (n := w.heap.size + 1) (by simp)).under hb1
  have hb := (show Below w.heap.size w _ from (by repeat (first | exact Below.refl _ _ | refine Below.drew ?_ | refine below_drewN ?_ _ | refine Below.alloc ?_ (by simp <;> omega) _))).trans (hb1.mono (by simp <;> omega))
  have m4 := fp_size
  go_wp2_with (refine wpList_store_row rfl _ _ _ rfl _ _ rfl rfl _ _ p4 m4 rfl (by simp [Value.oneCell']) ?_)
  exact bodyPost_ret (results_cell_row rfl _ _ (w.heap.size + 1) _ _ _ _ rfl (p4.row _) Tryd.underlying34 rfl m4) rfl ⟨rfl, below_setRow hb (by omega) _⟩

set_option maxHeartbeats 1000000 in
set_option maxRecDepth 100000 in
theorem fp_square_calls (a : Nat) (w : World) (ht : FpTab w) :
    Calls Tryd.prog 75 #[fpE a] w fun e w' => e = .returned (fpE (a * a)) ∧ Below w.heap.size w w' := by
  have HM := fun W hW => fp_mulE a a W hW
  have HT := Lib.hid ht
  obtain ⟨x0, x1, x2, x3, x4, x5, hx⟩ := fpV_agg (a * fpR % fpQ) (fpE_lt a)
  obtain ⟨r0, r1, r2, r3, r4, r5, hr⟩ := fpV_agg (a * a * fpR % fpQ) (fpE_lt _)
  unfold fpE at HM ⊢
  rw [hx, hr] at HM ⊢
  have HM := Lib.hid HM
  clear ht hx hr
  go_enter Tryd.func75, Tryd.ntmps75
  go_wp2_with fail
  refine (HM.out _ (HT.out.below (by repeat (first | exact Below.refl _ _ | refine Below.drew ?_ | refine below_drewN ?_ _ | refine Below.alloc ?_ (by simp <;> omega) _)))).mono ?_
  rintro e xw ⟨he, hb1⟩
  subst he
  have p4 := (Bk.new1 (w.alloc (.cells #[.int .u64 x0, .int .u64 x1, .int .u64 x2, .int .u64 x3, .int .u64 x4, .int .u64 x5] 34)) 34 #[.int .u64 0, .int .u64 0, .int .u64 0, .int .u64 0, .int .u64 0, .int .u64 0] (n := w.heap.size + 1) (by simp)).under hb1
  have hb := (show Below w.heap.size w _ from (by repeat (first | exact Below.refl _ _ | refine Below.drew ?_ | refine below_drewN ?_ _ | refine Below.alloc ?_ (by simp <;> omega) _))).trans (hb1.mono (by simp <;> omega))
  have m4 := fp_size
  go_wp2_with (refine wpList_store_row rfl _ _ _ rfl _ _ rfl rfl _ _ p4 m4 rfl (by simp [Value.oneCell']) ?_)
  exact bodyPost_ret (results_cell_row rfl _ _ (w.heap.size + 1) _ _ _ _ rfl (p4.row _) Tryd.underlying34 rfl m4) rfl ⟨rfl, below_setRow hb (by omega) _⟩

set_option maxHeartbeats 1000000 in
set_option maxRecDepth 100000 in
theorem fp_plain_calls (a : Nat) (w : World) (ht : FpTab w) :
    Calls Tryd.prog 47 #[fpE a] w fun e w' => e = .returned (fpV (a % fpQ)) ∧ Below w.heap.size w w' := by
  have HM := fun W hW => fp_mul_calls (a * fpR % fpQ) 1 W hW (fpE_lt a) (by decide)
  rw [fpMont_one, fpV_small 1 (by decide)] at HM
  have HT := Lib.hid ht
  obtain ⟨x0, x1, x2, x3, x4, x5, hx⟩ := fpV_agg (a * fpR % fpQ) (fpE_lt a)
  obtain ⟨r0, r1, r2, r3, r4, r5, hr⟩ := fpV_agg (a % fpQ) (Nat.mod_lt _ (by decide))
  unfold fpE at ⊢
  rw [hx, hr] at HM ⊢
  have HM := Lib.hid HM
  clear ht hx hr
  have hfl : ∀ W : World, (Instr.field 34 (.agg #[.int .u64 r0, .int .u64 r1, .int .u64 r2, .int .u64 r3, .int .u64 r4, .int .u64 r5]) 0).run Tryd.prog W = .ok (.agg #[.int .u64 r0, .int .u64 r1, .int .u64 r2, .int .u64 r3, .int .u64 r4, .int .u64 r5]) W := fun W => by kernel_rfl
  go_enter Tryd.func47, Tryd.ntmps47
  go_wp2_with fail
  refine (HM.out _ (HT.out.below (by repeat (first | exact Below.refl _ _ | refine Below.drew ?_ | refine below_drewN ?_ _ | refine Below.alloc ?_ (by simp <;> omega) _)))).mono ?_
  rintro e xw ⟨he, hb1⟩
  subst he
  have p4 := (Bk.new1 (w.alloc (.cells #[.int .u64 x0, .int .u64 x1, .int .u64 x2, .int .u64 x3, .int .u64 x4, .int .u64 x5] 34)) 32 #[.int .u64 0, .int .u64 0, .int .u64 0, .int .u64 0, .int .u64 0, .int .u64 0] (n := w.heap.size + 1) (by simp)).under hb1
  have hb := (show Below w.heap.size w _ from (by repeat (first | exact Below.refl _ _ | refine Below.drew ?_ | refine below_drewN ?_ _ | refine Below.alloc ?_ (by simp <;> omega) _))).trans (hb1.mono (by simp <;> omega))
  have m4 := fp_vsize
  go_wp2_with (refine wpList_store_row rfl _ _ _ rfl _ _ rfl rfl _ _ p4 m4 rfl (by simp [Value.oneCell']) ?_)
  exact bodyPost_ret (results_cell_row rfl _ _ (w.heap.size + 1) _ _ _ _ rfl (p4.row _) Tryd.underlying32 rfl m4) rfl ⟨rfl, below_setRow hb (by omega) _⟩
end Go.Proofs.YtdconlmpjehohaaDoor
