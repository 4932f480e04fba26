/- Square roots modulo p, for package fp2. Conditions: those of each theorem. -/
import Derived.Test.YtkeommkcjigioaaDoorFp2A
import Derived.Test.YtkeommkcjigioaaDoorSyFpW
import Derived.Test.YtkeommkcjigioaaDoorEul
import Derived.Test.YtkeommkcjigioaaDoorPrfp
namespace Go.Proofs.YtkeommkcjigioaaDoor
open Go.RowKit Sx
set_option linter.unusedVariables false

theorem fpPrime : IsP fpQ := pr_4002409555221667393417789825735904156556882819939007885332058136124031650490837864442687629129015664037894272559787
def fpH : Nat := 2001204777610833696708894912867952078278441409969503942666029068062015825245418932221343814564507832018947136279893
theorem fpSS : fpS + fpS = fpH + 1 := by decide +kernel
theorem fpHH : fpQ = 2 * fpH + 1 := by decide +kernel
theorem fpHo : fpH % 2 = 1 := by decide +kernel
theorem fpQI : fpQ = fpI + 2 := by decide +kernel
theorem fpQ0 : 0 < fpQ := by decide

/-- alike modulo p -/
def Cg (a b : Nat) : Prop := a % fpQ = b % fpQ
theorem Cg.rfl' (a : Nat) : Cg a a := rfl
theorem Cg.symm {a b : Nat} (h : Cg a b) : Cg b a := Eq.symm h
theorem Cg.trans {a b c : Nat} (h : Cg a b) (k : Cg b c) : Cg a c := Eq.trans h k
theorem Cg.add {a b c d : Nat} (h : Cg a b) (k : Cg c d) : Cg (a + c) (b + d) := by
  unfold Cg at *; rw [Nat.add_mod, h, k, ← Nat.add_mod]
theorem Cg.mul {a b c d : Nat} (h : Cg a b) (k : Cg c d) : Cg (a * c) (b * d) := by
  unfold Cg at *; rw [Nat.mul_mod, h, k, ← Nat.mul_mod]
theorem Cg.neg {a b : Nat} (h : Cg a b) : Cg (fpQ - a % fpQ) (fpQ - b % fpQ) := by
  unfold Cg at *; rw [h]
theorem Cg.pow {a b : Nat} (k : Nat) (h : Cg a b) : Cg (a ^ k) (b ^ k) := pow_cong k h

/-- four numbers -/
def V4 (a b c d : Nat) : Ev := ⟨fun i => match i with
  | 0 => a
  | 1 => b
  | 2 => c
  | _ => d, fun _ => [], fun x => x, fun x => x⟩

theorem ring4 (a b c d : Nat) {x y : E} (h : sameP fpQ fpAtom x y = true) : Cg (fpEv (V4 a b c d) x) (fpEv (V4 a b c d) y) := sameP_ok (fpFld (V4 a b c d)) (fpAtom_ok (V4 a b c d)) h

abbrev pE (a b : E) : E := .op 1 a b
abbrev mE (a b : E) : E := .op 2 a b
abbrev dE (a b : E) : E := .op 3 a b
abbrev v0 : E := .dt 0
abbrev v1 : E := .dt 1
abbrev v2 : E := .dt 2
abbrev v3 : E := .dt 3

section
variable {R : Ev} (hR : R.Ok)
include hR

theorem sqr_c {a b : Nat} (h : Cg a b) : Cg (R.sqr a) (R.sqr b) := sqr_mod hR h
theorem inv_c {a b : Nat} (h : Cg a b) : Cg (R.inv a) (R.inv b) := by rw [hR.inv, hR.inv]; exact h.pow fpI

/-- a square has a root: the number or its negative -/
theorem root_sq {n m : Nat} (h : Cg n (m * m)) : Cg (R.sqr n * R.sqr n) n ∧ (Cg (R.sqr n) m ∨ Cg (R.sqr n) (fpQ - m % fpQ)) := by
  have h1 := sqr_c hR h
  have h2 : Cg (R.sqr (m * m) * R.sqr (m * m)) (m * m) := by unfold Cg; rw [hR.sqr]; exact eul_root fpPrime fpSS fpHH fpHo m
  have h3 : Cg (R.sqr (m * m)) m ∨ Cg (R.sqr (m * m)) (fpQ - m % fpQ) := by unfold Cg; rw [hR.sqr]; exact eul_pm fpPrime fpSS fpHH fpHo m
  refine ⟨(h1.mul h1).trans (h2.trans h.symm), ?_⟩
  rcases h3 with h3 | h3
  · exact .inl (h1.trans h3)
  · exact .inr (h1.trans h3)

/-- the negative of a square that is not 0 has none -/
theorem no_root {n m : Nat} (h : Cg n (fpQ - m * m % fpQ)) (hm : ¬ m % fpQ = 0) : ¬ Cg (R.sqr n * R.sqr n) n := by
  intro hc
  have h1 := sqr_c hR h
  have hmm := eul_prod fpPrime fpSS fpHH fpHo hm hm
  have h2 := eul_other fpPrime fpSS fpHH fpHo hmm
  have h3 := eul_root fpPrime fpSS fpHH fpHo m
  have h4 : Cg (R.sqr (fpQ - m * m % fpQ) * R.sqr (fpQ - m * m % fpQ)) (fpQ - m * m % fpQ) := (h1.mul h1).symm.trans (hc.trans h)
  unfold Cg at h4
  rw [hR.sqr] at h4
  exact absurd h3 (h2.1 h4)

theorem sqr_zero {n : Nat} (h : n % fpQ = 0) : R.sqr n % fpQ = 0 := by
  rw [hR.sqr]; exact eul_zero fpPrime fpSS fpHH fpHo h (by decide +kernel)

/-- of two numbers whose product is the negative of a square that is not 0 just one has a root -/
theorem one_root {u v m : Nat} (h : Cg (u * v) (fpQ - m * m % fpQ)) (hm : ¬ m % fpQ = 0) (hu : ¬ Cg (R.sqr u * R.sqr u) u) : Cg (R.sqr v * R.sqr v) v := by
  have hmm := eul_prod fpPrime fpSS fpHH fpHo hm hm
  have hn : ¬ u * v % fpQ = 0 := by
    intro h0
    have := eul_nz fpPrime fpSS fpHH fpHo hmm
    unfold Cg at h
    rw [h] at h0
    exact this h0
  have u0 : ¬ u % fpQ = 0 := fun h0 => hn (by rw [Nat.mul_mod, h0, Nat.zero_mul, Nat.zero_mod])
  have v0' : ¬ v % fpQ = 0 := fun h0 => hn (by rw [Nat.mul_mod, h0, Nat.mul_zero, Nat.zero_mod])
  have hf := eul_forms fpPrime fpSS fpHH fpHo u0 v0'
  have hnr := no_root hR h hm
  unfold Cg at hu hnr ⊢
  rw [hR.sqr] at hu hnr ⊢
  rw [decide_eq_false hnr, decide_eq_false hu] at hf
  by_cases hv : v ^ fpS * v ^ fpS % fpQ = v % fpQ
  · exact hv
  · rw [decide_eq_false hv] at hf; cases hf

theorem mul_inv {a : Nat} (ha : ¬ a % fpQ = 0) : Cg (a * R.inv a) 1 := by
  have := fermat fpPrime (fun h => ha (Nat.mod_eq_zero_of_dvd h))
  rw [show fpQ - 1 = fpI + 1 by rw [fpQI]; omega, Nat.pow_succ, Nat.mul_comm] at this
  unfold Cg
  rw [hR.inv, this]
  decide

theorem half_c : Cg (2 * R.inv 2) 1 := mul_inv hR (by decide)

/-- half of twice a number -/
theorem half_of {x y : Nat} (h : Cg x (y + y)) : Cg (x * R.inv 2) y := by
  have h1 := (h.mul (Cg.rfl' (R.inv 2)))
  have h2 : Cg ((y + y) * R.inv 2) (y * (2 * R.inv 2)) := by
    have e : (y + y) * R.inv 2 = y * (2 * R.inv 2) := by rw [← Nat.mul_assoc, Nat.mul_two]
    rw [e]; exact Cg.rfl' _
  have h3 := (Cg.rfl' y).mul (half_c hR)
  rw [Nat.mul_one] at h3
  exact h1.trans (h2.trans h3)

theorem div_c {a b s : Nat} (hs : ¬ s % fpQ = 0) (h : Cg s a) : Cg (a * b * R.inv s) b := by
  have h1 : Cg (a * b * R.inv s) (s * b * R.inv s) := (h.symm.mul (Cg.rfl' b)).mul (Cg.rfl' _)
  have h2 : s * b * R.inv s = b * (s * R.inv s) := by ac_rfl
  rw [h2] at h1
  have h3 := (Cg.rfl' b).mul (mul_inv hR hs)
  rw [Nat.mul_one] at h3
  exact h1.trans h3

theorem div_n {a b s : Nat} (hs : ¬ s % fpQ = 0) (h : Cg s (fpQ - a % fpQ)) : Cg (a * b * R.inv s) (fpQ - b % fpQ) := by
  have e : Cg a (fpQ - s % fpQ) := by
    have h1 := ring4 a 0 0 0 (x := v0) (y := .op 4 (.op 4 v0 (.dt 0)) (.dt 0)) (by kernel_rfl)
    exact Cg.trans h1 h.symm.neg
  have h1 : Cg (a * b * R.inv s) ((fpQ - s % fpQ) * b * R.inv s) := (e.mul (Cg.rfl' b)).mul (Cg.rfl' _)
  have h2 : Cg ((fpQ - s % fpQ) * b * R.inv s) (fpQ - (b * (s * R.inv s)) % fpQ) := ring4 s b (R.inv s) 0 (x := mE (mE (.op 4 v0 (.dt 0)) v1) v2) (y := .op 4 (mE v1 (mE v0 v2)) (.dt 0)) (by kernel_rfl)
  have h3 := (Cg.rfl' b).mul (mul_inv hR hs)
  rw [Nat.mul_one] at h3
  exact h1.trans (h2.trans h3.neg)
end

theorem cg_dec {R : Ev} {a b : E} (h : Cg (fpEv R a) (fpEv R b)) : decide (fpEv R a % fpQ = fpEv R b % fpQ) = true := decide_eq_true h
theorem cg_dec0 {R : Ev} {a b : E} (h : ¬ Cg (fpEv R a) (fpEv R b)) : decide (fpEv R a % fpQ = fpEv R b % fpQ) = false := decide_eq_false h
theorem cg_zero {a : Nat} : Cg a 0 ↔ a % fpQ = 0 := by unfold Cg; rw [Nat.zero_mod]

/-- the sum of two squares is 0 just if both are -/
theorem fp_norm0 (a b : Nat) : (a * a + b * b) % fpQ = 0 ↔ a % fpQ = 0 ∧ b % fpQ = 0 := by
  have hq : 0 < fpQ := by decide
  constructor
  · intro h
    by_cases hb : b % fpQ = 0
    · refine ⟨?_, hb⟩
      have e : (a * a) % fpQ = 0 := by
        rw [Nat.add_mod, Nat.mul_mod b, hb, Nat.mul_zero, Nat.zero_mod, Nat.add_zero, Nat.mod_mod] at h
        exact h
      by_cases ha : a % fpQ = 0
      · exact ha
      · exact absurd e (eul_prod fpPrime fpSS fpHH fpHo ha ha)
    · exfalso
      have hbb := eul_prod fpPrime fpSS fpHH fpHo hb hb
      have h1 := eul_other fpPrime fpSS fpHH fpHo hbb
      have h2 := eul_root fpPrime fpSS fpHH fpHo b
      have h3 := eul_root fpPrime fpSS fpHH fpHo a
      have e : (fpQ - b * b % fpQ) % fpQ = a * a % fpQ := by
        have hlt : b * b % fpQ < fpQ := Nat.mod_lt _ hq
        have h4 : a * a % fpQ < fpQ := Nat.mod_lt _ hq
        rw [Nat.add_mod] at h
        generalize a * a % fpQ = u at *
        generalize b * b % fpQ = v at *
        have h5 : u + v = fpQ := by
          rcases Nat.lt_or_ge (u + v) fpQ with h6 | h6
          · rw [Nat.mod_eq_of_lt h6] at h; omega
          · have : (u + v) % fpQ = u + v - fpQ := by rw [Nat.mod_eq_sub_mod h6, Nat.mod_eq_of_lt (by omega)]
            omega
        rw [show fpQ - v = u by omega, Nat.mod_eq_of_lt h4]
      have key : ∀ x y : Nat, x % fpQ = y % fpQ → y ^ fpS * y ^ fpS % fpQ = y % fpQ → x ^ fpS * x ^ fpS % fpQ = x % fpQ := fun x y hxy hy => by
        rw [← Nat.pow_add, Nat.pow_mod, hxy, ← Nat.pow_mod, Nat.pow_add, hy]
      have h7 := key (fpQ - b * b % fpQ) (a * a) e h3
      exact absurd h2 (h1.1 h7)
  · rintro ⟨ha, hb⟩
    rw [Nat.add_mod, Nat.mul_mod a, ha, Nat.mul_mod b, hb]
    rfl

theorem sub0 {a b : Nat} (h : Cg b 0) : Cg (a + (fpQ - b % fpQ)) a := by
  have h : b % fpQ = 0 := cg_zero.1 h
  unfold Cg
  rw [h, Nat.sub_zero, Nat.add_mod_right]
theorem neg0 {b : Nat} (h : Cg b 0) : Cg (fpQ - b % fpQ) 0 := by
  have h : b % fpQ = 0 := cg_zero.1 h
  unfold Cg
  rw [h, Nat.sub_zero, Nat.mod_self, Nat.zero_mod]
theorem mul0l {a : Nat} (b : Nat) (h : Cg a 0) : Cg (a * b) 0 := by
  have := h.mul (Cg.rfl' b)
  rwa [Nat.zero_mul] at this
theorem mul0r {b : Nat} (a : Nat) (h : Cg b 0) : Cg (a * b) 0 := by
  have := (Cg.rfl' a).mul h
  rwa [Nat.mul_zero] at this
theorem add0l {a : Nat} (b : Nat) (h : Cg a 0) : Cg (a + b) b := by
  have := h.add (Cg.rfl' b)
  rwa [Nat.zero_add] at this
theorem negneg (a : Nat) : Cg (fpQ - (fpQ - a % fpQ) % fpQ) a := ring4 a 0 0 0 (x := .op 4 (.op 4 v0 (.dt 0)) (.dt 0)) (y := v0) (by kernel_rfl)

theorem ringR (R : Ev) {x y : E} (h : sameP fpQ fpAtom x y = true) : Cg (fpEv R x) (fpEv R y) := sameP_ok (fpFld R) (fpAtom_ok R) h

theorem flag_odd {R : Ev} {a : E} (h : ¬ fpEv R a % fpQ = 0) : flagV R 0 (nE a) = !flagV R 0 a := by
  have hlt : fpEv R a % fpQ < fpQ := Nat.mod_lt _ fpQ0
  have e : (fpQ - fpEv R a % fpQ) % fpQ = fpQ - fpEv R a % fpQ := Nat.mod_eq_of_lt (by omega)
  have ho : fpQ % 2 = 1 := by decide
  show decide (fpEv R (nE a) % fpQ % 2 = 1) = !decide (fpEv R a % fpQ % 2 = 1)
  rw [fpEv_neg, e]
  generalize fpEv R a % fpQ = u at hlt h ⊢
  rw [← decide_not, decide_eq_decide]
  omega

theorem flag_large {R : Ev} {a : E} (h : ¬ fpEv R a % fpQ = 0) : flagV R 1 (nE a) = !flagV R 1 a := by
  show decide ((fpQ - fpEv R (nE a) % fpQ) % fpQ < fpEv R (nE a) % fpQ) = !decide ((fpQ - fpEv R a % fpQ) % fpQ < fpEv R a % fpQ)
  rw [fpEv_neg]
  have hlt : fpEv R a % fpQ < fpQ := Nat.mod_lt _ fpQ0
  obtain ⟨u, hu⟩ : ∃ u, fpEv R a % fpQ = u := ⟨_, rfl⟩
  rw [hu] at h hlt ⊢
  have e : (fpQ - u) % fpQ = fpQ - u := Nat.mod_eq_of_lt (by omega)
  have e2 : (fpQ - (fpQ - u)) % fpQ = u := by rw [Nat.sub_sub_self (Nat.le_of_lt hlt), Nat.mod_eq_of_lt hlt]
  rw [e, e2]
  have ho : fpQ % 2 = 1 := by decide
  rw [← decide_not, decide_eq_decide]
  omega

theorem flag_odd0 {R : Ev} {a : E} (h : fpEv R a % fpQ = 0) : flagV R 0 a = false := by
  show decide (fpEv R a % fpQ % 2 = 1) = false
  rw [h]; rfl
theorem flag_large0 {R : Ev} {a : E} (h : fpEv R a % fpQ = 0) : flagV R 1 a = false := by
  show decide ((fpQ - fpEv R a % fpQ) % fpQ < fpEv R a % fpQ) = false
  rw [h]; exact decide_eq_false (Nat.not_lt_zero _)
theorem nz_neg {a : Nat} (h : ¬ a % fpQ = 0) : ¬ (fpQ - a % fpQ) % fpQ = 0 := eul_nz fpPrime fpSS fpHH fpHo h

end Go.Proofs.YtkeommkcjigioaaDoor
