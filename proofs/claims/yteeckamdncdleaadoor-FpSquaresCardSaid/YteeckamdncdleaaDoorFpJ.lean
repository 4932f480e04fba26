/- Package fr: the walk of FpInverts. Conditions: those of each theorem. -/
import Derived.Test.YteeckamdncdleaaDoorFpI
import Derived.Test.YteeckamdncdleaaDoorPrfp
namespace Go.Proofs.YteeckamdncdleaaDoor
open Go.RowKit Sx
set_option linter.unusedVariables false

theorem inv_mul {q i a : Nat} (hq : IsP q) (hi : q = i + 2) (ha : ¬ a % q = 0) : a * a ^ i % q = 1 := by
  have := fermat hq (fun h => ha (Nat.mod_eq_zero_of_dvd h))
  rw [show q - 1 = i + 1 by omega, Nat.pow_succ, Nat.mul_comm] at this
  exact this
theorem inv_nought {q i a : Nat} (hi : i ≠ 0) (ha : a % q = 0) : a ^ i % q = 0 := by
  obtain ⟨k, rfl⟩ : ∃ k, i = k + 1 := ⟨i - 1, by omega⟩
  rw [Nat.pow_succ, Nat.mul_mod, ha, Nat.mul_zero, Nat.zero_mod]
theorem inv_ne {q i a : Nat} (hq : IsP q) (hi : q = i + 2) (ha : ¬ a % q = 0) : ¬ a ^ i % q = 0 := fun h => by
  have := inv_mul hq hi ha
  rw [Nat.mul_mod, h, Nat.mul_zero, Nat.zero_mod] at this
  cases this
theorem inv_inv {q i a : Nat} (hq : IsP q) (hi : q = i + 2) (ha : ¬ a % q = 0) : (a ^ i) ^ i % q = a % q := by
  have h1 := inv_mul hq hi ha
  have h2 := inv_mul hq hi (inv_ne hq hi ha)
  have hco : Nat.Coprime (a ^ i) q := hq.coprime fun h => inv_ne hq hi ha (Nat.mod_eq_zero_of_dvd h)
  exact mod_cancel hco (by rw [h2, Nat.mul_comm, h1])

theorem fpPrime : IsP fpQ := pr_4002409555221667393417789825735904156556882819939007885332058136124031650490837864442687629129015664037894272559787
theorem fpQI : fpQ = fpI + 2 := by decide +kernel
theorem fpI_ne : fpI ≠ 0 := by decide +kernel

section
variable {R : Ev} (hR : R.Ok)
include hR
theorem fp_inv_mul {a : Nat} (ha : ¬ a % fpQ = 0) : a * R.inv a % fpQ = 1 := by rw [hR.inv]; exact inv_mul fpPrime fpQI ha
theorem fp_inv_nought {a : Nat} (ha : a % fpQ = 0) : R.inv a % fpQ = 0 := by rw [hR.inv]; exact inv_nought fpI_ne ha
theorem fp_inv_inv {a : Nat} (ha : ¬ a % fpQ = 0) : R.inv (R.inv a) % fpQ = a % fpQ := by rw [hR.inv, hR.inv]; exact inv_inv fpPrime fpQI ha
theorem fp_inv_prod (a b : Nat) : R.inv (a * b) = R.inv a * R.inv b := by rw [hR.inv, hR.inv, hR.inv]; exact Nat.mul_pow a b fpI
end

abbrev iE (a : E) : E := .op 5 a (.dt 0)

section
set_option maxRecDepth 100000
theorem fpInverts_run1 : runFn Tryd.prog (fpTable { longs := [(0, true)] } (fpAll { longs := [(0, true)] })) 200 Tryd.f5 [hArg 0, hArg 1] = some (boolR true) := by kernel_rfl
theorem fpInverts_run2 : runFn Tryd.prog (fpTable { longs := [(0, false), (1, true)] } (fpAll { longs := [(0, false), (1, true)] })) 200 Tryd.f5 [hArg 0, hArg 1] = some (boolR true) := by kernel_rfl
theorem fpInverts_run3 : runFn Tryd.prog (fpTable { eqs := [(wE 0, lE 0, true), (iE (wE 0), lE 0, true)], longs := [(0, false), (1, false)] } (fpAll { eqs := [(wE 0, lE 0, true), (iE (wE 0), lE 0, true)], longs := [(0, false), (1, false)] })) 200 Tryd.f5 [hArg 0, hArg 1] = some (boolR true) := by kernel_rfl
theorem fpInverts_run4 : runFn Tryd.prog (fpTable { eqs := [(wE 0, lE 0, false), (.op 2 (wE 0) (iE (wE 0)), lE 1, true), (iE (iE (wE 0)), wE 0, true), (wE 1, lE 0, true)], longs := [(0, false), (1, false)] } (fpAll { eqs := [(wE 0, lE 0, false), (.op 2 (wE 0) (iE (wE 0)), lE 1, true), (iE (iE (wE 0)), wE 0, true), (wE 1, lE 0, true)], longs := [(0, false), (1, false)] })) 200 Tryd.f5 [hArg 0, hArg 1] = some (boolR true) := by kernel_rfl
theorem fpInverts_run5 : runFn Tryd.prog (fpTable { eqs := [(wE 0, lE 0, false), (.op 2 (wE 0) (iE (wE 0)), lE 1, true), (iE (iE (wE 0)), wE 0, true), (wE 1, lE 0, false), (iE (.op 2 (wE 0) (wE 1)), .op 2 (iE (wE 0)) (iE (wE 1)), true)], longs := [(0, false), (1, false)] } (fpAll { eqs := [(wE 0, lE 0, false), (.op 2 (wE 0) (iE (wE 0)), lE 1, true), (iE (iE (wE 0)), wE 0, true), (wE 1, lE 0, false), (iE (.op 2 (wE 0) (wE 1)), .op 2 (iE (wE 0)) (iE (wE 1)), true)], longs := [(0, false), (1, false)] })) 200 Tryd.f5 [hArg 0, hArg 1] = some (boolR true) := by kernel_rfl
end

theorem fpInverts_calls (A0 A1 : Option Addr) (n0 n1 c0 c1 : Nat) (l0 l1 : List Nat) (w : World) (ht : FpTab w)
    (hr0 : Rd w A0 (nums .u8 l0)) (hl0 : l0.length = n0) (hc0 : n0 ≤ c0) (hn0 : n0 ≤ 140737488355328) (hb0 : ∀ x ∈ l0, x < 256) (hk0 : ∀ g, blk A0 = some g → g < w.heap.size)
    (hr1 : Rd w A1 (nums .u8 l1)) (hl1 : l1.length = n1) (hc1 : n1 ≤ c1) (hn1 : n1 ≤ 140737488355328) (hb1 : ∀ x ∈ l1, x < 256) (hk1 : ∀ g, blk A1 = some g → g < w.heap.size) :
    Calls Tryd.prog 5 #[.slice A0 n0 c0, .slice A1 n1 c1] w fun e w' => e = .returned (.bool true) ∧ Below w.heap.size w w' := by
  obtain ⟨inv, hinv⟩ := inv_ex
  obtain ⟨sqr_, hsqr⟩ := sqr_ex
  let R : Ev := ⟨fun _ => 0, rows [l0, l1], inv, sqr_⟩
  have hR : R.Ok := ⟨rows_ok (by simp only [List.forall_mem_cons]; exact ⟨⟨hl0 ▸ hn0, hb0⟩, ⟨hl1 ▸ hn1, hb1⟩, fun x hx => by cases hx⟩), hinv, hsqr⟩
  have hin : RVsIs (fpDenS R) 0 w [hArg 0, hArg 1] [.slice A0 n0 c0, .slice A1 n1 c1] :=
    ⟨_, _, rfl, hArg_ok (R := R) (i := 0) hr0 hl0 hc0 hk0, _, _, rfl, hArg_ok (R := R) (i := 1) hr1 hl1 hc1 hk1, rfl⟩
  have go : ∀ X, FpTold R X → runFn Tryd.prog (fpTable X (fpAll X)) 200 Tryd.f5 [hArg 0, hArg 1] = some (boolR true) → _ := fun X hX hrun => fp_law Tryd.func5 hR hX hrun ht hin
  by_cases h0 : 400 < l0.length
  · exact go _ (told_longs (by intro x hx; simp at hx; subst hx; exact decide_eq_true h0)) fpInverts_run1
  by_cases h1 : 400 < l1.length
  · exact go _ (told_longs (by intro x hx; simp at hx; rcases hx with rfl | rfl; exact decide_eq_false h0; exact decide_eq_true h1)) fpInverts_run2
  have hL : ∀ x ∈ [(0, false), (1, false)], decide (400 < (R.bys x.1).length) = x.2 := by intro x hx; simp at hx; rcases hx with rfl | rfl; exact decide_eq_false h0; exact decide_eq_false h1
  have z : fpEv R (lE 0) % fpQ = 0 := by rw [fpEv_lit, Nat.zero_mod]
  have one : fpEv R (lE 1) % fpQ = 1 := by rw [fpEv_lit]; decide
  by_cases hx0 : fpEv R (wE 0) % fpQ = 0
  · refine go _ (told_eqs ?_ hL) fpInverts_run3
    intro x hx
    simp only [List.mem_cons, List.not_mem_nil, or_false] at hx
    rcases hx with rfl | rfl
    · exact decide_eq_true (hx0.trans z.symm)
    · exact decide_eq_true (by rw [fpEv_inv, z]; exact fp_inv_nought hR hx0)
  have f1 : decide (fpEv R (wE 0) % fpQ = fpEv R (lE 0) % fpQ) = false := decide_eq_false (by rw [z]; exact hx0)
  have f2 : decide (fpEv R (.op 2 (wE 0) (iE (wE 0))) % fpQ = fpEv R (lE 1) % fpQ) = true := decide_eq_true (by rw [fpEv_mul, fpEv_inv, one]; exact fp_inv_mul hR hx0)
  have f3 : decide (fpEv R (iE (iE (wE 0))) % fpQ = fpEv R (wE 0) % fpQ) = true := decide_eq_true (by rw [fpEv_inv, fpEv_inv]; exact fp_inv_inv hR hx0)
  by_cases hy0 : fpEv R (wE 1) % fpQ = 0
  · refine go _ (told_eqs ?_ hL) fpInverts_run4
    intro x hx
    simp only [List.mem_cons, List.not_mem_nil, or_false] at hx
    rcases hx with rfl | rfl | rfl | rfl
    · exact f1
    · exact f2
    · exact f3
    · exact decide_eq_true (hy0.trans z.symm)
  · refine go _ (told_eqs ?_ hL) fpInverts_run5
    intro x hx
    simp only [List.mem_cons, List.not_mem_nil, or_false] at hx
    rcases hx with rfl | rfl | rfl | rfl | rfl
    · exact f1
    · exact f2
    · exact f3
    · exact decide_eq_false (by rw [z]; exact hy0)
    · exact decide_eq_true (by rw [fpEv_inv, fpEv_mul, fpEv_mul, fpEv_inv, fpEv_inv, fp_inv_prod hR])

end Go.Proofs.YteeckamdncdleaaDoor
