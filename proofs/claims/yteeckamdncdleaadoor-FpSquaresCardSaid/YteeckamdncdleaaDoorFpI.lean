/- Package fr: the walks of FpRules, FpForms. Conditions: those of each theorem. -/
import Derived.Test.YteeckamdncdleaaDoorSyFpD
namespace Go.Proofs.YteeckamdncdleaaDoor
open Go.RowKit Sx
set_option linter.unusedVariables false

/-- told nothing but lengths -/
theorem told_longs {R : Ev} {L : List (Nat × Bool)} (h : ∀ x ∈ L, decide (400 < (R.bys x.1).length) = x.2) : FpTold R { longs := L } :=
  ⟨fun x hx => (by cases hx), h, fun x hx => (by cases hx), fun x hx => (by cases hx), fun x hx => (by cases hx), fun x hx => (by cases hx), fun x hx => (by cases hx)⟩
theorem told_eqs {R : Ev} {F : List (E × E × Bool)} {L : List (Nat × Bool)} (hF : FpFacts R F) (h : ∀ x ∈ L, decide (400 < (R.bys x.1).length) = x.2) : FpTold R { eqs := F, longs := L } :=
  ⟨hF, h, fun x hx => (by cases hx), fun x hx => (by cases hx), fun x hx => (by cases hx), fun x hx => (by cases hx), fun x hx => (by cases hx)⟩
theorem told_all {R : Ev} {F : List (E × E × Bool)} {L : List (Nat × Bool)} {G : List (Nat × E × Bool)} (hF : FpFacts R F) (h : ∀ x ∈ L, decide (400 < (R.bys x.1).length) = x.2) (hG : ∀ x ∈ G, flagV R x.1 x.2.1 = x.2.2) : FpTold R { eqs := F, longs := L, flags := G } :=
  ⟨hF, h, fun x hx => (by cases hx), fun x hx => (by cases hx), hG, fun x hx => (by cases hx), fun x hx => (by cases hx)⟩

/-- the number of row i -/
abbrev wE (i : Nat) : E := .op 7 (.dt i) (.dt 0)

section
set_option maxRecDepth 100000
theorem fpRules_run0 : runFn Tryd.prog (fpTable { longs := [(0, false), (1, false), (2, false)] } (fpAll { longs := [(0, false), (1, false), (2, false)] })) 200 Tryd.f3 [hArg 0, hArg 1, hArg 2] = some (boolR true) := by kernel_rfl
theorem fpRules_run1 : runFn Tryd.prog (fpTable { longs := [(0, true)] } (fpAll { longs := [(0, true)] })) 200 Tryd.f3 [hArg 0, hArg 1, hArg 2] = some (boolR true) := by kernel_rfl
theorem fpRules_run2 : runFn Tryd.prog (fpTable { longs := [(0, false), (1, true)] } (fpAll { longs := [(0, false), (1, true)] })) 200 Tryd.f3 [hArg 0, hArg 1, hArg 2] = some (boolR true) := by kernel_rfl
theorem fpRules_run3 : runFn Tryd.prog (fpTable { longs := [(0, false), (1, false), (2, true)] } (fpAll { longs := [(0, false), (1, false), (2, true)] })) 200 Tryd.f3 [hArg 0, hArg 1, hArg 2] = some (boolR true) := by kernel_rfl
end

theorem fpRules_calls (A0 A1 A2 : Option Addr) (n0 n1 n2 c0 c1 c2 : Nat) (l0 l1 l2 : List Nat) (w : World) (ht : FpTab w)
    (hr0 : Rd w A0 (nums .u8 l0)) (hl0 : l0.length = n0) (hc0 : n0 ≤ c0) (hn0 : n0 ≤ 140737488355328) (hb0 : ∀ x ∈ l0, x < 256) (hk0 : ∀ g, blk A0 = some g → g < w.heap.size)
    (hr1 : Rd w A1 (nums .u8 l1)) (hl1 : l1.length = n1) (hc1 : n1 ≤ c1) (hn1 : n1 ≤ 140737488355328) (hb1 : ∀ x ∈ l1, x < 256) (hk1 : ∀ g, blk A1 = some g → g < w.heap.size)
    (hr2 : Rd w A2 (nums .u8 l2)) (hl2 : l2.length = n2) (hc2 : n2 ≤ c2) (hn2 : n2 ≤ 140737488355328) (hb2 : ∀ x ∈ l2, x < 256) (hk2 : ∀ g, blk A2 = some g → g < w.heap.size) :
    Calls Tryd.prog 3 #[.slice A0 n0 c0, .slice A1 n1 c1, .slice A2 n2 c2] w fun e w' => e = .returned (.bool true) ∧ Below w.heap.size w w' := by
  obtain ⟨inv, hinv⟩ := inv_ex
  obtain ⟨sqr_, hsqr⟩ := sqr_ex
  let R : Ev := ⟨fun _ => 0, rows [l0, l1, l2], inv, sqr_⟩
  have hR : R.Ok := ⟨rows_ok (by simp only [List.forall_mem_cons]; exact ⟨⟨hl0 ▸ hn0, hb0⟩, ⟨hl1 ▸ hn1, hb1⟩, ⟨hl2 ▸ hn2, hb2⟩, fun x hx => by cases hx⟩), hinv, hsqr⟩
  have hin : RVsIs (fpDenS R) 0 w [hArg 0, hArg 1, hArg 2] [.slice A0 n0 c0, .slice A1 n1 c1, .slice A2 n2 c2] :=
    ⟨_, _, rfl, hArg_ok (R := R) (i := 0) hr0 hl0 hc0 hk0, _, _, rfl, hArg_ok (R := R) (i := 1) hr1 hl1 hc1 hk1, _, _, rfl, hArg_ok (R := R) (i := 2) hr2 hl2 hc2 hk2, rfl⟩
  have go : ∀ X, FpTold R X → runFn Tryd.prog (fpTable X (fpAll X)) 200 Tryd.f3 [hArg 0, hArg 1, hArg 2] = some (boolR true) → _ := fun X hX hrun => fp_law Tryd.func3 hR hX hrun ht hin
  by_cases h0 : 400 < l0.length
  · exact go _ (told_longs (by intro x hx; simp at hx; subst hx; exact decide_eq_true h0)) fpRules_run1
  by_cases h1 : 400 < l1.length
  · exact go _ (told_longs (by intro x hx; simp at hx; rcases hx with rfl | rfl; exact decide_eq_false h0; exact decide_eq_true h1)) fpRules_run2
  by_cases h2 : 400 < l2.length
  · exact go _ (told_longs (by intro x hx; simp at hx; rcases hx with rfl | rfl | rfl; exact decide_eq_false h0; exact decide_eq_false h1; exact decide_eq_true h2)) fpRules_run3
  exact go _ (told_longs (by intro x hx; simp at hx; rcases hx with rfl | rfl | rfl; exact decide_eq_false h0; exact decide_eq_false h1; exact decide_eq_false h2)) fpRules_run0

end Go.Proofs.YteeckamdncdleaaDoor
