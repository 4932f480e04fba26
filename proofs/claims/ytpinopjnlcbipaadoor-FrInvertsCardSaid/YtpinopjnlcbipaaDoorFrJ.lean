/- Package fr: the walk of FrInverts. Conditions: those of each theorem. -/
import Derived.Test.YtpinopjnlcbipaaDoorFrI
import Derived.Test.YtpinopjnlcbipaaDoorPrfr
namespace Go.Proofs.YtpinopjnlcbipaaDoor
open Go.RowKit Sx
set_option linter.unusedVariables false

theorem inv_mul {q i a : Nat} (hq : IsP q) (hi : q = i + 2) (ha : ¬ a % q = 0) : a * a ^ i % q = 1 := by
  have := fermat hq (fun h => ha (Nat.mod_eq_zero_of_dvd h))
  rw [show q - 1 = i + 1 by omega, Nat.pow_succ, Nat.mul_comm] at this
  exact this
theorem inv_nought {q i a : Nat} (hi : i ≠ 0) (ha : a % q = 0) : a ^ i % q = 0 := by
  obtain ⟨k, rfl⟩ : ∃ k, i = k + 1 := ⟨i - 1, by omega⟩
  rw [Nat.pow_succ, Nat.mul_mod, ha, Nat.mul_zero, Nat.zero_mod]
theorem inv_ne {q i a : Nat} (hq : IsP q) (hi : q = i + 2) (ha : ¬ a % q = 0) : ¬ a ^ i % q = 0 := fun h => by
  have := inv_mul hq hi ha
  rw [Nat.mul_mod, h, Nat.mul_zero, Nat.zero_mod] at this
  cases this
theorem inv_inv {q i a : Nat} (hq : IsP q) (hi : q = i + 2) (ha : ¬ a % q = 0) : (a ^ i) ^ i % q = a % q := by
  have h1 := inv_mul hq hi ha
  have h2 := inv_mul hq hi (inv_ne hq hi ha)
  have hco : Nat.Coprime (a ^ i) q := hq.coprime fun h => inv_ne hq hi ha (Nat.mod_eq_zero_of_dvd h)
  exact mod_cancel hco (by rw [h2, Nat.mul_comm, h1])

theorem frPrime : IsP frQ := pr_52435875175126190479447740508185965837690552500527637822603658699938581184513
theorem frQI : frQ = frI + 2 := by decide +kernel
theorem frI_ne : frI ≠ 0 := by decide +kernel

section
variable {R : Ev} (hR : R.Ok)
include hR
theorem fr_inv_mul {a : Nat} (ha : ¬ a % frQ = 0) : a * R.inv a % frQ = 1 := by rw [hR.inv]; exact inv_mul frPrime frQI ha
theorem fr_inv_nought {a : Nat} (ha : a % frQ = 0) : R.inv a % frQ = 0 := by rw [hR.inv]; exact inv_nought frI_ne ha
theorem fr_inv_inv {a : Nat} (ha : ¬ a % frQ = 0) : R.inv (R.inv a) % frQ = a % frQ := by rw [hR.inv, hR.inv]; exact inv_inv frPrime frQI ha
theorem fr_inv_prod (a b : Nat) : R.inv (a * b) = R.inv a * R.inv b := by rw [hR.inv, hR.inv, hR.inv]; exact Nat.mul_pow a b frI
end

abbrev lE (n : Nat) : E := .op 0 (.dt n) (.dt 0)
abbrev iE (a : E) : E := .op 5 a (.dt 0)

section
set_option maxRecDepth 100000
theorem frInverts_run1 : runFn Tryd.prog (frTable { longs := [(0, true)] } (frAll { longs := [(0, true)] })) 200 Tryd.f5 [hArg 0, hArg 1] = some (boolR true) := by kernel_rfl
theorem frInverts_run2 : runFn Tryd.prog (frTable { longs := [(0, false), (1, true)] } (frAll { longs := [(0, false), (1, true)] })) 200 Tryd.f5 [hArg 0, hArg 1] = some (boolR true) := by kernel_rfl
theorem frInverts_run3 : runFn Tryd.prog (frTable { eqs := [(wE 0, lE 0, true), (iE (wE 0), lE 0, true)], longs := [(0, false), (1, false)] } (frAll { eqs := [(wE 0, lE 0, true), (iE (wE 0), lE 0, true)], longs := [(0, false), (1, false)] })) 200 Tryd.f5 [hArg 0, hArg 1] = some (boolR true) := by kernel_rfl
theorem frInverts_run4 : runFn Tryd.prog (frTable { eqs := [(wE 0, lE 0, false), (.op 2 (wE 0) (iE (wE 0)), lE 1, true), (iE (iE (wE 0)), wE 0, true), (wE 1, lE 0, true)], longs := [(0, false), (1, false)] } (frAll { eqs := [(wE 0, lE 0, false), (.op 2 (wE 0) (iE (wE 0)), lE 1, true), (iE (iE (wE 0)), wE 0, true), (wE 1, lE 0, true)], longs := [(0, false), (1, false)] })) 200 Tryd.f5 [hArg 0, hArg 1] = some (boolR true) := by kernel_rfl
theorem frInverts_run5 : runFn Tryd.prog (frTable { eqs := [(wE 0, lE 0, false), (.op 2 (wE 0) (iE (wE 0)), lE 1, true), (iE (iE (wE 0)), wE 0, true), (wE 1, lE 0, false), (iE (.op 2 (wE 0) (wE 1)), .op 2 (iE (wE 0)) (iE (wE 1)), true)], longs := [(0, false), (1, false)] } (frAll { eqs := [(wE 0, lE 0, false), (.op 2 (wE 0) (iE (wE 0)), lE 1, true), (iE (iE (wE 0)), wE 0, true), (wE 1, lE 0, false), (iE (.op 2 (wE 0) (wE 1)), .op 2 (iE (wE 0)) (iE (wE 1)), true)], longs := [(0, false), (1, false)] })) 200 Tryd.f5 [hArg 0, hArg 1] = some (boolR true) := by kernel_rfl
end

theorem frInverts_calls (A0 A1 : Option Addr) (n0 n1 c0 c1 : Nat) (l0 l1 : List Nat) (w : World) (ht : FrTab w)
    (hr0 : Rd w A0 (nums .u8 l0)) (hl0 : l0.length = n0) (hc0 : n0 ≤ c0) (hn0 : n0 ≤ 140737488355328) (hb0 : ∀ x ∈ l0, x < 256) (hk0 : ∀ g, blk A0 = some g → g < w.heap.size)
    (hr1 : Rd w A1 (nums .u8 l1)) (hl1 : l1.length = n1) (hc1 : n1 ≤ c1) (hn1 : n1 ≤ 140737488355328) (hb1 : ∀ x ∈ l1, x < 256) (hk1 : ∀ g, blk A1 = some g → g < w.heap.size) :
    Calls Tryd.prog 5 #[.slice A0 n0 c0, .slice A1 n1 c1] w fun e w' => e = .returned (.bool true) ∧ Below w.heap.size w w' := by
  obtain ⟨inv, hinv⟩ := inv_ex
  let R : Ev := ⟨fun _ => 0, rows [l0, l1], inv⟩
  have hR : R.Ok := ⟨rows_ok (by simp only [List.forall_mem_cons]; exact ⟨⟨hl0 ▸ hn0, hb0⟩, ⟨hl1 ▸ hn1, hb1⟩, fun x hx => by cases hx⟩), hinv⟩
  have hin : RVsIs (frDenS R) 0 w [hArg 0, hArg 1] [.slice A0 n0 c0, .slice A1 n1 c1] :=
    ⟨_, _, rfl, hArg_ok (R := R) (i := 0) hr0 hl0 hc0 hk0, _, _, rfl, hArg_ok (R := R) (i := 1) hr1 hl1 hc1 hk1, rfl⟩
  have go : ∀ X, FrTold R X → runFn Tryd.prog (frTable X (frAll X)) 200 Tryd.f5 [hArg 0, hArg 1] = some (boolR true) → _ := fun X hX hrun => fr_law Tryd.func5 hR hX hrun ht hin
  by_cases h0 : 400 < l0.length
  · exact go _ (told_longs (by intro x hx; simp at hx; subst hx; exact decide_eq_true h0)) frInverts_run1
  by_cases h1 : 400 < l1.length
  · exact go _ (told_longs (by intro x hx; simp at hx; rcases hx with rfl | rfl; exact decide_eq_false h0; exact decide_eq_true h1)) frInverts_run2
  have hL : ∀ x ∈ [(0, false), (1, false)], decide (400 < (R.bys x.1).length) = x.2 := by intro x hx; simp at hx; rcases hx with rfl | rfl; exact decide_eq_false h0; exact decide_eq_false h1
  have z : frEv R (lE 0) % frQ = 0 := by rw [frEv_lit, Nat.zero_mod]
  have one : frEv R (lE 1) % frQ = 1 := by rw [frEv_lit]; decide
  by_cases hx0 : frEv R (wE 0) % frQ = 0
  · refine go _ (told_eqs ?_ hL) frInverts_run3
    intro x hx
    simp only [List.mem_cons, List.not_mem_nil, or_false] at hx
    rcases hx with rfl | rfl
    · exact decide_eq_true (hx0.trans z.symm)
    · exact decide_eq_true (by rw [frEv_inv, z]; exact fr_inv_nought hR hx0)
  have f1 : decide (frEv R (wE 0) % frQ = frEv R (lE 0) % frQ) = false := decide_eq_false (by rw [z]; exact hx0)
  have f2 : decide (frEv R (.op 2 (wE 0) (iE (wE 0))) % frQ = frEv R (lE 1) % frQ) = true := decide_eq_true (by rw [frEv_mul, frEv_inv, one]; exact fr_inv_mul hR hx0)
  have f3 : decide (frEv R (iE (iE (wE 0))) % frQ = frEv R (wE 0) % frQ) = true := decide_eq_true (by rw [frEv_inv, frEv_inv]; exact fr_inv_inv hR hx0)
  by_cases hy0 : frEv R (wE 1) % frQ = 0
  · refine go _ (told_eqs ?_ hL) frInverts_run4
    intro x hx
    simp only [List.mem_cons, List.not_mem_nil, or_false] at hx
    rcases hx with rfl | rfl | rfl | rfl
    · exact f1
    · exact f2
    · exact f3
    · exact decide_eq_true (hy0.trans z.symm)
  · refine go _ (told_eqs ?_ hL) frInverts_run5
    intro x hx
    simp only [List.mem_cons, List.not_mem_nil, or_false] at hx
    rcases hx with rfl | rfl | rfl | rfl | rfl
    · exact f1
    · exact f2
    · exact f3
    · exact decide_eq_false (by rw [z]; exact hy0)
    · exact decide_eq_true (by rw [frEv_inv, frEv_mul, frEv_mul, frEv_inv, frEv_inv, fr_inv_prod hR])

end Go.Proofs.YtpinopjnlcbipaaDoor
