/- Package fp2: the walks of Fp2Turns, Fp2Rules. Conditions: those of each theorem. -/
import Derived.Test.YtkeommkcjigioaaDoorZFp2A
import Derived.Test.YtkeommkcjigioaaDoorEul
import Derived.Test.YtkeommkcjigioaaDoorPrfp
namespace Go.Proofs.YtkeommkcjigioaaDoor
open Go.RowKit Sx
set_option linter.unusedVariables false

theorem fpPrime : IsP fpQ := pr_4002409555221667393417789825735904156556882819939007885332058136124031650490837864442687629129015664037894272559787
def fpH : Nat := 2001204777610833696708894912867952078278441409969503942666029068062015825245418932221343814564507832018947136279893
theorem fpSS : fpS + fpS = fpH + 1 := by decide +kernel
theorem fpHH : fpQ = 2 * fpH + 1 := by decide +kernel
theorem fpHo : fpH % 2 = 1 := by decide +kernel

/-- the sum of two squares is 0 just if both are -/
theorem fp_norm0 (a b : Nat) : (a * a + b * b) % fpQ = 0 ↔ a % fpQ = 0 ∧ b % fpQ = 0 := by
  have hq : 0 < fpQ := by decide
  constructor
  · intro h
    by_cases hb : b % fpQ = 0
    · refine ⟨?_, hb⟩
      have e : (a * a) % fpQ = 0 := by
        rw [Nat.add_mod, Nat.mul_mod b, hb, Nat.mul_zero, Nat.zero_mod, Nat.add_zero, Nat.mod_mod] at h
        exact h
      by_cases ha : a % fpQ = 0
      · exact ha
      · exact absurd e (eul_prod fpPrime fpSS fpHH fpHo ha ha)
    · exfalso
      have hbb := eul_prod fpPrime fpSS fpHH fpHo hb hb
      have h1 := eul_other fpPrime fpSS fpHH fpHo hbb
      have h2 := eul_root fpPrime fpSS fpHH fpHo b
      have h3 := eul_root fpPrime fpSS fpHH fpHo a
      have e : (fpQ - b * b % fpQ) % fpQ = a * a % fpQ := by
        have hlt : b * b % fpQ < fpQ := Nat.mod_lt _ hq
        have h4 : a * a % fpQ < fpQ := Nat.mod_lt _ hq
        rw [Nat.add_mod] at h
        generalize a * a % fpQ = u at *
        generalize b * b % fpQ = v at *
        have h5 : u + v = fpQ := by
          rcases Nat.lt_or_ge (u + v) fpQ with h6 | h6
          · rw [Nat.mod_eq_of_lt h6] at h; omega
          · have : (u + v) % fpQ = u + v - fpQ := by rw [Nat.mod_eq_sub_mod h6, Nat.mod_eq_of_lt (by omega)]
            omega
        rw [show fpQ - v = u by omega, Nat.mod_eq_of_lt h4]
      have key : ∀ x y : Nat, x % fpQ = y % fpQ → y ^ fpS * y ^ fpS % fpQ = y % fpQ → x ^ fpS * x ^ fpS % fpQ = x % fpQ := fun x y hxy hy => by
        rw [← Nat.pow_add, Nat.pow_mod, hxy, ← Nat.pow_mod, Nat.pow_add, hy]
      have h7 := key (fpQ - b * b % fpQ) (a * a) e h3
      exact absurd h2 (h1.1 h7)
  · rintro ⟨ha, hb⟩
    rw [Nat.add_mod, Nat.mul_mod a, ha, Nat.mul_mod b, hb]
    rfl

def turnsX (za zb : Bool) : Fx := { eqs := [(wE 0, lE 0, za), (wE 1, lE 0, zb), (.op 1 (.op 2 (wE 0) (wE 0)) (.op 2 (wE 1) (wE 1)), lE 0, za && zb)], longs := [(0, false), (1, false)], lim := 64 }

section
set_option maxRecDepth 100000
theorem fp2Turns_run1 : runFn Tryd.prog (fpTable { longs := [(0, true)], lim := 64 } (fp2All Tryd.prog { longs := [(0, true)], lim := 64 })) 400 Tryd.f3 [hArg 0, hArg 1] = some (boolR true) := by kernel_rfl
theorem fp2Turns_run2 : runFn Tryd.prog (fpTable { longs := [(0, false), (1, true)], lim := 64 } (fp2All Tryd.prog { longs := [(0, false), (1, true)], lim := 64 })) 400 Tryd.f3 [hArg 0, hArg 1] = some (boolR true) := by kernel_rfl
theorem fp2Turns_run (za zb : Bool) : runFn Tryd.prog (fpTable (turnsX za zb) (fp2All Tryd.prog (turnsX za zb))) 400 Tryd.f3 [hArg 0, hArg 1] = some (boolR true) := by
  cases za <;> cases zb <;> kernel_rfl
theorem fp2Rules_run0 : runFn Tryd.prog (fpTable { longs := [(0, true)], lim := 64 } (fp2All Tryd.prog { longs := [(0, true)], lim := 64 })) 400 Tryd.f4 [hArg 0, hArg 1, hArg 2, hArg 3] = some (boolR true) := by kernel_rfl
theorem fp2Rules_run1 : runFn Tryd.prog (fpTable { longs := [(0, false), (1, true)], lim := 64 } (fp2All Tryd.prog { longs := [(0, false), (1, true)], lim := 64 })) 400 Tryd.f4 [hArg 0, hArg 1, hArg 2, hArg 3] = some (boolR true) := by kernel_rfl
theorem fp2Rules_run2 : runFn Tryd.prog (fpTable { longs := [(0, false), (1, false), (2, true)], lim := 64 } (fp2All Tryd.prog { longs := [(0, false), (1, false), (2, true)], lim := 64 })) 400 Tryd.f4 [hArg 0, hArg 1, hArg 2, hArg 3] = some (boolR true) := by kernel_rfl
theorem fp2Rules_run3 : runFn Tryd.prog (fpTable { longs := [(0, false), (1, false), (2, false), (3, true)], lim := 64 } (fp2All Tryd.prog { longs := [(0, false), (1, false), (2, false), (3, true)], lim := 64 })) 400 Tryd.f4 [hArg 0, hArg 1, hArg 2, hArg 3] = some (boolR true) := by kernel_rfl
theorem fp2Rules_run4 : runFn Tryd.prog (fpTable { longs := [(0, false), (1, false), (2, false), (3, false)], lim := 64 } (fp2All Tryd.prog { longs := [(0, false), (1, false), (2, false), (3, false)], lim := 64 })) 400 Tryd.f4 [hArg 0, hArg 1, hArg 2, hArg 3] = some (boolR true) := by kernel_rfl
end

theorem fp2Turns_calls (A0 A1 : Option Addr) (n0 n1 c0 c1 : Nat) (l0 l1 : List Nat) (w : World) (ht : FpTab w)
    (hr0 : Rd w A0 (nums .u8 l0)) (hl0 : l0.length = n0) (hc0 : n0 ≤ c0) (hn0 : n0 ≤ 140737488355328) (hb0 : ∀ x ∈ l0, x < 256) (hk0 : ∀ g, blk A0 = some g → g < w.heap.size)
    (hr1 : Rd w A1 (nums .u8 l1)) (hl1 : l1.length = n1) (hc1 : n1 ≤ c1) (hn1 : n1 ≤ 140737488355328) (hb1 : ∀ x ∈ l1, x < 256) (hk1 : ∀ g, blk A1 = some g → g < w.heap.size) :
    Calls Tryd.prog 3 #[.slice A0 n0 c0, .slice A1 n1 c1] w fun e w' => e = .returned (.bool true) ∧ Below w.heap.size w w' := by
  obtain ⟨inv, hinv⟩ := inv_ex
  obtain ⟨sqr_, hsqr⟩ := sqr_ex
  let R : Ev := ⟨fun _ => 0, rows [l0, l1], inv, sqr_⟩
  have hR : R.Ok := ⟨rows_ok (by simp only [List.forall_mem_cons]; exact ⟨⟨hl0 ▸ hn0, hb0⟩, ⟨hl1 ▸ hn1, hb1⟩, fun x hx => by cases hx⟩), hinv, hsqr⟩
  have hin : RVsIs (fpDenS R) 0 w [hArg 0, hArg 1] [.slice A0 n0 c0, .slice A1 n1 c1] :=
    ⟨_, _, rfl, hArg_ok (R := R) (i := 0) hr0 hl0 hc0 hk0, _, _, rfl, hArg_ok (R := R) (i := 1) hr1 hl1 hc1 hk1, rfl⟩
  have go : ∀ X, FpTold R X → runFn Tryd.prog (fpTable X (fp2All Tryd.prog X)) 400 Tryd.f3 [hArg 0, hArg 1] = some (boolR true) → _ := fun X hX hrun => fp2_law Tryd.func3 hR hX hrun ht hin
  by_cases h0 : 64 < l0.length
  · exact go _ (told64L (by intro x hx; simp at hx; subst hx; exact decide_eq_true h0)) fp2Turns_run1
  by_cases h1 : 64 < l1.length
  · exact go _ (told64L (by intro x hx; simp at hx; rcases hx with rfl | rfl; exact decide_eq_false h0; exact decide_eq_true h1)) fp2Turns_run2
  have hL : ∀ x ∈ [(0, false), (1, false)], decide (64 < (R.bys x.1).length) = x.2 := by intro x hx; simp at hx; rcases hx with rfl | rfl; exact decide_eq_false h0; exact decide_eq_false h1
  have z : fpEv R (lE 0) % fpQ = 0 := by rw [fpEv_lit, Nat.zero_mod]
  have ev : ∀ a b : E, ∃ r, decide (fpEv R a % fpQ = fpEv R b % fpQ) = r := fun a b => ⟨_, rfl⟩
  obtain ⟨za, hza⟩ := ev (wE 0) (lE 0)
  obtain ⟨zb, hzb⟩ := ev (wE 1) (lE 0)
  have hn : decide (fpEv R (.op 1 (.op 2 (wE 0) (wE 0)) (.op 2 (wE 1) (wE 1))) % fpQ = fpEv R (lE 0) % fpQ) = (za && zb) := by
    rw [z] at hza hzb ⊢
    rw [← hza, ← hzb, fpEv_add, fpEv_mul, fpEv_mul, ← Bool.decide_and, decide_eq_decide]
    exact fp_norm0 _ _
  exact go (turnsX za zb) (told64 (G := []) (by unfold FpFacts; simp only [List.forall_mem_cons]; exact ⟨hza, hzb, hn, fun x hx => by cases hx⟩) hL (fun x hx => by cases hx)) (fp2Turns_run za zb)

theorem fp2Rules_calls (A0 A1 A2 A3 : Option Addr) (n0 n1 n2 n3 c0 c1 c2 c3 : Nat) (l0 l1 l2 l3 : List Nat) (w : World) (ht : FpTab w)
    (hr0 : Rd w A0 (nums .u8 l0)) (hl0 : l0.length = n0) (hc0 : n0 ≤ c0) (hn0 : n0 ≤ 140737488355328) (hb0 : ∀ x ∈ l0, x < 256) (hk0 : ∀ g, blk A0 = some g → g < w.heap.size)
    (hr1 : Rd w A1 (nums .u8 l1)) (hl1 : l1.length = n1) (hc1 : n1 ≤ c1) (hn1 : n1 ≤ 140737488355328) (hb1 : ∀ x ∈ l1, x < 256) (hk1 : ∀ g, blk A1 = some g → g < w.heap.size)
    (hr2 : Rd w A2 (nums .u8 l2)) (hl2 : l2.length = n2) (hc2 : n2 ≤ c2) (hn2 : n2 ≤ 140737488355328) (hb2 : ∀ x ∈ l2, x < 256) (hk2 : ∀ g, blk A2 = some g → g < w.heap.size)
    (hr3 : Rd w A3 (nums .u8 l3)) (hl3 : l3.length = n3) (hc3 : n3 ≤ c3) (hn3 : n3 ≤ 140737488355328) (hb3 : ∀ x ∈ l3, x < 256) (hk3 : ∀ g, blk A3 = some g → g < w.heap.size) :
    Calls Tryd.prog 4 #[.slice A0 n0 c0, .slice A1 n1 c1, .slice A2 n2 c2, .slice A3 n3 c3] w fun e w' => e = .returned (.bool true) ∧ Below w.heap.size w w' := by
  obtain ⟨inv, hinv⟩ := inv_ex
  obtain ⟨sqr_, hsqr⟩ := sqr_ex
  let R : Ev := ⟨fun _ => 0, rows [l0, l1, l2, l3], inv, sqr_⟩
  have hR : R.Ok := ⟨rows_ok (by simp only [List.forall_mem_cons]; exact ⟨⟨hl0 ▸ hn0, hb0⟩, ⟨hl1 ▸ hn1, hb1⟩, ⟨hl2 ▸ hn2, hb2⟩, ⟨hl3 ▸ hn3, hb3⟩, fun x hx => by cases hx⟩), hinv, hsqr⟩
  have hin : RVsIs (fpDenS R) 0 w [hArg 0, hArg 1, hArg 2, hArg 3] [.slice A0 n0 c0, .slice A1 n1 c1, .slice A2 n2 c2, .slice A3 n3 c3] :=
    ⟨_, _, rfl, hArg_ok (R := R) (i := 0) hr0 hl0 hc0 hk0, _, _, rfl, hArg_ok (R := R) (i := 1) hr1 hl1 hc1 hk1, _, _, rfl, hArg_ok (R := R) (i := 2) hr2 hl2 hc2 hk2, _, _, rfl, hArg_ok (R := R) (i := 3) hr3 hl3 hc3 hk3, rfl⟩
  have go : ∀ X, FpTold R X → runFn Tryd.prog (fpTable X (fp2All Tryd.prog X)) 400 Tryd.f4 [hArg 0, hArg 1, hArg 2, hArg 3] = some (boolR true) → _ := fun X hX hrun => fp2_law Tryd.func4 hR hX hrun ht hin
  by_cases h0 : 64 < l0.length
  · exact go _ (told64L (by intro x hx; simp at hx; subst hx; exact decide_eq_true h0)) fp2Rules_run0
  by_cases h1 : 64 < l1.length
  · exact go _ (told64L (by intro x hx; simp at hx; rcases hx with rfl | rfl; exact decide_eq_false h0; exact decide_eq_true h1)) fp2Rules_run1
  by_cases h2 : 64 < l2.length
  · exact go _ (told64L (by intro x hx; simp at hx; rcases hx with rfl | rfl | rfl; exact decide_eq_false h0; exact decide_eq_false h1; exact decide_eq_true h2)) fp2Rules_run2
  by_cases h3 : 64 < l3.length
  · exact go _ (told64L (by intro x hx; simp at hx; rcases hx with rfl | rfl | rfl | rfl; exact decide_eq_false h0; exact decide_eq_false h1; exact decide_eq_false h2; exact decide_eq_true h3)) fp2Rules_run3
  exact go _ (told64L (by intro x hx; simp at hx; rcases hx with rfl | rfl | rfl | rfl; exact decide_eq_false h0; exact decide_eq_false h1; exact decide_eq_false h2; exact decide_eq_false h3)) fp2Rules_run4

end Go.Proofs.YtkeommkcjigioaaDoor
