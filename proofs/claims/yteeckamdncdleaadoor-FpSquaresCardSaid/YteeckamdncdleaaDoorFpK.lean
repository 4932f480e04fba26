/- Package fp: the walks of FpForms, FpSquares. Conditions: those of each theorem. -/
import Derived.Test.YteeckamdncdleaaDoorFpJ
import Derived.Test.YteeckamdncdleaaDoorEul
namespace Go.Proofs.YteeckamdncdleaaDoor
open Go.RowKit Sx
set_option linter.unusedVariables false

def fpH : Nat := 2001204777610833696708894912867952078278441409969503942666029068062015825245418932221343814564507832018947136279893
theorem fpSS : fpS + fpS = fpH + 1 := by decide +kernel
theorem fpHH : fpQ = 2 * fpH + 1 := by decide +kernel
theorem fpHo : fpH % 2 = 1 := by decide +kernel

section
variable {R : Ev} (hR : R.Ok)
include hR
theorem fp_sq_zero {a : Nat} (ha : a % fpQ = 0) : R.sqr a * R.sqr a % fpQ = a % fpQ := by rw [hR.sqr]; exact eul_iff0 fpPrime fpSS fpHH fpHo ha
theorem fp_forms {a b : Nat} (ha : ¬ a % fpQ = 0) (hb : ¬ b % fpQ = 0) :
    decide (R.sqr (a * b) * R.sqr (a * b) % fpQ = a * b % fpQ) = (decide (R.sqr a * R.sqr a % fpQ = a % fpQ) == decide (R.sqr b * R.sqr b % fpQ = b % fpQ)) := by
  rw [hR.sqr, hR.sqr, hR.sqr]; exact eul_forms fpPrime fpSS fpHH fpHo ha hb
theorem fp_root (a : Nat) : R.sqr (a * a) * R.sqr (a * a) % fpQ = a * a % fpQ := by rw [hR.sqr]; exact eul_root fpPrime fpSS fpHH fpHo a
theorem fp_pm (a : Nat) : R.sqr (a * a) % fpQ = a % fpQ ∨ R.sqr (a * a) % fpQ = (fpQ - a % fpQ) % fpQ := by rw [hR.sqr]; exact eul_pm fpPrime fpSS fpHH fpHo a
theorem fp_other {a : Nat} (ha : ¬ a % fpQ = 0) : (R.sqr (fpQ - a % fpQ) * R.sqr (fpQ - a % fpQ) % fpQ = (fpQ - a % fpQ) % fpQ) ↔ ¬ (R.sqr a * R.sqr a % fpQ = a % fpQ) := by
  rw [hR.sqr, hR.sqr]; exact eul_other fpPrime fpSS fpHH fpHo ha
end

abbrev sqE (a : E) : E := .op 2 (sE a) (sE a)
abbrev xE : E := wE 0
abbrev yE : E := wE 1
abbrev xyE : E := .op 2 xE yE
abbrev xxE : E := .op 2 xE xE

def formsX (e b1 b2 b3 zx zy : Bool) : Fx := { eqs := [(xE, yE, e), (sqE xE, xE, b1), (sqE yE, yE, b2), (sqE xyE, xyE, b3), (xE, lE 0, zx), (yE, lE 0, zy)], longs := [(0, false), (1, false)] }
def squaresX (b1 b2 o1 o2 z f0 f1 f2 f3 : Bool) : Fx := { eqs := [(sqE xxE, xxE, true), (sE xxE, xE, b1), (sE xxE, nE xE, b2), (sqE xE, xE, o1), (sqE (nE xE), nE xE, o2), (xE, lE 0, z)], longs := [(0, false)], flags := [(0, xE, f0), (1, xE, f1), (0, nE xE, f2), (1, nE xE, f3)] }

section
set_option maxRecDepth 100000
theorem fpForms_run1 : runFn Tryd.prog (fpTable { longs := [(0, true)] } (fpAll { longs := [(0, true)] })) 200 Tryd.f10 [hArg 0, hArg 1] = some (boolR true) := by kernel_rfl
theorem fpForms_run2 : runFn Tryd.prog (fpTable { longs := [(0, false), (1, true)] } (fpAll { longs := [(0, false), (1, true)] })) 200 Tryd.f10 [hArg 0, hArg 1] = some (boolR true) := by kernel_rfl
theorem fpForms_run (e b1 b2 b3 zx zy : Bool) (h : (zx || (zy || (b3 == (b1 == b2)))) = true) : runFn Tryd.prog (fpTable (formsX e b1 b2 b3 zx zy) (fpAll (formsX e b1 b2 b3 zx zy))) 200 Tryd.f10 [hArg 0, hArg 1] = some (boolR true) := by
  revert h
  cases e <;> cases b1 <;> cases b2 <;> cases b3 <;> cases zx <;> cases zy <;> intro h <;> first | (exact absurd h (by decide)) | kernel_rfl
theorem fpSquares_run1 : runFn Tryd.prog (fpTable { longs := [(0, true)] } (fpAll { longs := [(0, true)] })) 200 Tryd.f4 [hArg 0] = some (boolR true) := by kernel_rfl
theorem fpSquares_runZ (b1 b2 f2 f3 : Bool) (h : (b1 || b2) = true) : runFn Tryd.prog (fpTable (squaresX b1 b2 true true true false false f2 f3) (fpAll (squaresX b1 b2 true true true false false f2 f3))) 200 Tryd.f4 [hArg 0] = some (boolR true) := by
  revert h
  cases b1 <;> cases b2 <;> intro h <;> first | (exact absurd h (by decide)) | kernel_rfl
theorem fpSquares_runN (b1 b2 o f g : Bool) (h : (b1 || b2) = true) : runFn Tryd.prog (fpTable (squaresX b1 b2 o (!o) false f g (!f) (!g)) (fpAll (squaresX b1 b2 o (!o) false f g (!f) (!g)))) 200 Tryd.f4 [hArg 0] = some (boolR true) := by
  revert h
  cases b1 <;> cases b2 <;> cases o <;> cases f <;> cases g <;> intro h <;> first | (exact absurd h (by decide)) | kernel_rfl
end

theorem fpForms_calls (A0 A1 : Option Addr) (n0 n1 c0 c1 : Nat) (l0 l1 : List Nat) (w : World) (ht : FpTab w)
    (hr0 : Rd w A0 (nums .u8 l0)) (hl0 : l0.length = n0) (hc0 : n0 ≤ c0) (hn0 : n0 ≤ 140737488355328) (hb0 : ∀ x ∈ l0, x < 256) (hk0 : ∀ g, blk A0 = some g → g < w.heap.size)
    (hr1 : Rd w A1 (nums .u8 l1)) (hl1 : l1.length = n1) (hc1 : n1 ≤ c1) (hn1 : n1 ≤ 140737488355328) (hb1 : ∀ x ∈ l1, x < 256) (hk1 : ∀ g, blk A1 = some g → g < w.heap.size) :
    Calls Tryd.prog 10 #[.slice A0 n0 c0, .slice A1 n1 c1] w fun e w' => e = .returned (.bool true) ∧ Below w.heap.size w w' := by
  obtain ⟨inv, hinv⟩ := inv_ex
  obtain ⟨sqr_, hsqr⟩ := sqr_ex
  let R : Ev := ⟨fun _ => 0, rows [l0, l1], inv, sqr_⟩
  have hR : R.Ok := ⟨rows_ok (by simp only [List.forall_mem_cons]; exact ⟨⟨hl0 ▸ hn0, hb0⟩, ⟨hl1 ▸ hn1, hb1⟩, fun x hx => by cases hx⟩), hinv, hsqr⟩
  have hin : RVsIs (fpDenS R) 0 w [hArg 0, hArg 1] [.slice A0 n0 c0, .slice A1 n1 c1] :=
    ⟨_, _, rfl, hArg_ok (R := R) (i := 0) hr0 hl0 hc0 hk0, _, _, rfl, hArg_ok (R := R) (i := 1) hr1 hl1 hc1 hk1, rfl⟩
  have go : ∀ X, FpTold R X → runFn Tryd.prog (fpTable X (fpAll X)) 200 Tryd.f10 [hArg 0, hArg 1] = some (boolR true) → _ := fun X hX hrun => fp_law Tryd.func10 hR hX hrun ht hin
  by_cases h0 : 400 < l0.length
  · exact go _ (told_longs (by intro x hx; simp at hx; subst hx; exact decide_eq_true h0)) fpForms_run1
  by_cases h1 : 400 < l1.length
  · exact go _ (told_longs (by intro x hx; simp at hx; rcases hx with rfl | rfl; exact decide_eq_false h0; exact decide_eq_true h1)) fpForms_run2
  have hL : ∀ x ∈ [(0, false), (1, false)], decide (400 < (R.bys x.1).length) = x.2 := by intro x hx; simp at hx; rcases hx with rfl | rfl; exact decide_eq_false h0; exact decide_eq_false h1
  have z : fpEv R (lE 0) % fpQ = 0 := by rw [fpEv_lit, Nat.zero_mod]
  have ev : ∀ a b : E, ∃ r, decide (fpEv R a % fpQ = fpEv R b % fpQ) = r := fun a b => ⟨_, rfl⟩
  obtain ⟨e, he⟩ := ev xE yE
  obtain ⟨b1, hb1⟩ := ev (sqE xE) xE
  obtain ⟨b2, hb2⟩ := ev (sqE yE) yE
  obtain ⟨b3, hb3⟩ := ev (sqE xyE) xyE
  obtain ⟨zx, hzx⟩ := ev xE (lE 0)
  obtain ⟨zy, hzy⟩ := ev yE (lE 0)
  refine go (formsX e b1 b2 b3 zx zy) (told_eqs (by unfold FpFacts; simp only [List.forall_mem_cons]; exact ⟨he, hb1, hb2, hb3, hzx, hzy, fun x hx => by cases hx⟩) hL) (fpForms_run e b1 b2 b3 zx zy ?_)
  rw [z] at hzx hzy
  cases zx with
  | true => rfl
  | false =>
    cases zy with
    | true => rfl
    | false =>
      have nx := of_decide_eq_false hzx
      have ny := of_decide_eq_false hzy
      rw [Bool.false_or, Bool.false_or, ← hb1, ← hb2, ← hb3]
      have e1 : ∀ a, fpEv R (sqE a) = R.sqr (fpEv R a) * R.sqr (fpEv R a) := fun a => by rw [fpEv_mul, fpEv_sqr]
      have e2 : fpEv R xyE = fpEv R xE * fpEv R yE := fpEv_mul _ _ _
      rw [e1 xE, e1 yE, e1 xyE, e2, fp_forms hR nx ny]
      exact beq_self_eq_true _

theorem fpSquares_calls (A0 : Option Addr) (n0 c0 : Nat) (l0 : List Nat) (w : World) (ht : FpTab w)
    (hr0 : Rd w A0 (nums .u8 l0)) (hl0 : l0.length = n0) (hc0 : n0 ≤ c0) (hn0 : n0 ≤ 140737488355328) (hb0 : ∀ x ∈ l0, x < 256) (hk0 : ∀ g, blk A0 = some g → g < w.heap.size) :
    Calls Tryd.prog 4 #[.slice A0 n0 c0] w fun e w' => e = .returned (.bool true) ∧ Below w.heap.size w w' := by
  obtain ⟨inv, hinv⟩ := inv_ex
  obtain ⟨sqr_, hsqr⟩ := sqr_ex
  let R : Ev := ⟨fun _ => 0, rows [l0], inv, sqr_⟩
  have hR : R.Ok := ⟨rows_ok (by simp only [List.forall_mem_cons]; exact ⟨⟨hl0 ▸ hn0, hb0⟩, fun x hx => by cases hx⟩), hinv, hsqr⟩
  have hin : RVsIs (fpDenS R) 0 w [hArg 0] [.slice A0 n0 c0] :=
    ⟨_, _, rfl, hArg_ok (R := R) (i := 0) hr0 hl0 hc0 hk0, rfl⟩
  have go : ∀ X, FpTold R X → runFn Tryd.prog (fpTable X (fpAll X)) 200 Tryd.f4 [hArg 0] = some (boolR true) → _ := fun X hX hrun => fp_law Tryd.func4 hR hX hrun ht hin
  by_cases h0 : 400 < l0.length
  · exact go _ (told_longs (by intro x hx; simp at hx; subst hx; exact decide_eq_true h0)) fpSquares_run1
  have hL : ∀ x ∈ [(0, false)], decide (400 < (R.bys x.1).length) = x.2 := by intro x hx; simp at hx; subst hx; exact decide_eq_false h0
  have z : fpEv R (lE 0) % fpQ = 0 := by rw [fpEv_lit, Nat.zero_mod]
  have k1 : decide (fpEv R (sqE xxE) % fpQ = fpEv R xxE % fpQ) = true := decide_eq_true (by
    rw [fpEv_mul, fpEv_sqr, fpEv_mul]; exact fp_root hR _)
  have hb : (decide (fpEv R (sE xxE) % fpQ = fpEv R xE % fpQ) || decide (fpEv R (sE xxE) % fpQ = fpEv R (nE xE) % fpQ)) = true := by
    rw [fpEv_sqr, fpEv_mul, fpEv_neg]
    rcases fp_pm hR (fpEv R xE) with h | h
    · rw [decide_eq_true h, Bool.true_or]
    · rw [decide_eq_true (p := R.sqr (fpEv R xE * fpEv R xE) % fpQ = (fpQ - fpEv R xE % fpQ) % fpQ) h, Bool.or_true]
  have ev : ∀ a b : E, ∃ r, decide (fpEv R a % fpQ = fpEv R b % fpQ) = r := fun a b => ⟨_, rfl⟩
  have fl : ∀ k a, ∃ r, flagV R k a = r := fun a b => ⟨_, rfl⟩
  obtain ⟨b1, hb1⟩ := ev (sE xxE) xE
  obtain ⟨b2, hb2⟩ := ev (sE xxE) (nE xE)
  rw [hb1, hb2] at hb
  by_cases zx : fpEv R xE % fpQ = 0
  · obtain ⟨g2, h2⟩ := fl 0 (nE xE)
    obtain ⟨g3, h3⟩ := fl 1 (nE xE)
    have o1 : decide (fpEv R (sqE xE) % fpQ = fpEv R xE % fpQ) = true := decide_eq_true (by rw [fpEv_mul, fpEv_sqr]; exact fp_sq_zero hR zx)
    have o2 : decide (fpEv R (sqE (nE xE)) % fpQ = fpEv R (nE xE) % fpQ) = true := decide_eq_true (by
      rw [fpEv_mul, fpEv_sqr]
      exact fp_sq_zero hR (by rw [fpEv_neg, zx, Nat.sub_zero, Nat.mod_self]))
    have f0 : flagV R 0 xE = false := by
      show decide (fpEv R xE % fpQ % 2 = 1) = false
      rw [zx]; rfl
    have f1 : flagV R 1 xE = false := by
      show decide ((fpQ - fpEv R xE % fpQ) % fpQ < fpEv R xE % fpQ) = false
      rw [zx]; exact decide_eq_false (Nat.not_lt_zero _)
    exact go (squaresX b1 b2 true true true false false g2 g3) (told_all (by unfold FpFacts; simp only [List.forall_mem_cons]; exact ⟨k1, hb1, hb2, o1, o2, decide_eq_true (zx.trans z.symm), fun x hx => by cases hx⟩) hL (by simp only [List.forall_mem_cons]; exact ⟨f0, f1, h2, h3, fun x hx => by cases hx⟩)) (fpSquares_runZ _ _ _ _ hb)
  · have o2 : decide (fpEv R (sqE (nE xE)) % fpQ = fpEv R (nE xE) % fpQ) = !decide (fpEv R (sqE xE) % fpQ = fpEv R xE % fpQ) := by
      rw [fpEv_mul, fpEv_mul, fpEv_sqr, fpEv_sqr, fpEv_neg, decide_eq_decide.2 (fp_other hR zx), decide_not]
    have hlt : fpEv R xE % fpQ < fpQ := Nat.mod_lt _ (by decide)
    have e : (fpQ - fpEv R xE % fpQ) % fpQ = fpQ - fpEv R xE % fpQ := Nat.mod_eq_of_lt (by omega)
    have e2 : (fpQ - (fpQ - fpEv R xE % fpQ)) % fpQ = fpEv R xE % fpQ := by rw [Nat.sub_sub_self (Nat.le_of_lt hlt), Nat.mod_mod]
    have ho : fpQ % 2 = 1 := by decide
    have f2 : flagV R 0 (nE xE) = !flagV R 0 xE := by
      show decide (fpEv R (nE xE) % fpQ % 2 = 1) = !decide (fpEv R xE % fpQ % 2 = 1)
      rw [fpEv_neg, e]
      generalize fpEv R xE % fpQ = u at hlt zx ⊢
      rw [← decide_not, decide_eq_decide]
      omega
    have f3 : flagV R 1 (nE xE) = !flagV R 1 xE := by
      show decide ((fpQ - fpEv R (nE xE) % fpQ) % fpQ < fpEv R (nE xE) % fpQ) = !decide ((fpQ - fpEv R xE % fpQ) % fpQ < fpEv R xE % fpQ)
      rw [fpEv_neg, e, e2]
      generalize fpEv R xE % fpQ = u at hlt zx ⊢
      rw [← decide_not, decide_eq_decide]
      omega
    obtain ⟨o, h1⟩ := ev (sqE xE) xE
    obtain ⟨g0, h2⟩ := fl 0 xE
    obtain ⟨g1, h3⟩ := fl 1 xE
    rw [h1] at o2
    rw [h2] at f2
    rw [h3] at f3
    exact go (squaresX b1 b2 o (!o) false g0 g1 (!g0) (!g1)) (told_all (by unfold FpFacts; simp only [List.forall_mem_cons]; exact ⟨k1, hb1, hb2, h1, o2, decide_eq_false (fun h => zx (h.trans z)), fun x hx => by cases hx⟩) hL (by simp only [List.forall_mem_cons]; exact ⟨h2, h3, f2, f3, fun x hx => by cases hx⟩)) (fpSquares_runN _ _ _ _ _ hb)

end Go.Proofs.YteeckamdncdleaaDoor
