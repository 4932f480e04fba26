/- Package fr: the walks of FrRules, FrForms. Conditions: those of each theorem. -/
import Derived.Test.YtpinopjnlcbipaaDoorSyFrD
namespace Go.Proofs.YtpinopjnlcbipaaDoor
open Go.RowKit Sx
set_option linter.unusedVariables false

/-- told nothing but lengths -/
theorem told_longs {R : Ev} {L : List (Nat × Bool)} (h : ∀ x ∈ L, decide (400 < (R.bys x.1).length) = x.2) : FrTold R { longs := L } :=
  ⟨fun x hx => (by cases hx), h, fun x hx => (by cases hx), fun x hx => (by cases hx), fun x hx => (by cases hx)⟩
theorem told_eqs {R : Ev} {F : List (E × E × Bool)} {L : List (Nat × Bool)} (hF : FrFacts R F) (h : ∀ x ∈ L, decide (400 < (R.bys x.1).length) = x.2) : FrTold R { eqs := F, longs := L } :=
  ⟨hF, h, fun x hx => (by cases hx), fun x hx => (by cases hx), fun x hx => (by cases hx)⟩

/-- the number of row i -/
abbrev wE (i : Nat) : E := .op 7 (.dt i) (.dt 0)

section
set_option maxRecDepth 100000
theorem frRules_run0 : runFn Tryd.prog (frTable { longs := [(0, false), (1, false), (2, false)] } (frAll { longs := [(0, false), (1, false), (2, false)] })) 200 Tryd.f6 [hArg 0, hArg 1, hArg 2] = some (boolR true) := by kernel_rfl
theorem frRules_run1 : runFn Tryd.prog (frTable { longs := [(0, true)] } (frAll { longs := [(0, true)] })) 200 Tryd.f6 [hArg 0, hArg 1, hArg 2] = some (boolR true) := by kernel_rfl
theorem frRules_run2 : runFn Tryd.prog (frTable { longs := [(0, false), (1, true)] } (frAll { longs := [(0, false), (1, true)] })) 200 Tryd.f6 [hArg 0, hArg 1, hArg 2] = some (boolR true) := by kernel_rfl
theorem frRules_run3 : runFn Tryd.prog (frTable { longs := [(0, false), (1, false), (2, true)] } (frAll { longs := [(0, false), (1, false), (2, true)] })) 200 Tryd.f6 [hArg 0, hArg 1, hArg 2] = some (boolR true) := by kernel_rfl
theorem frForms_run1 : runFn Tryd.prog (frTable { longs := [(0, true)] } (frAll { longs := [(0, true)] })) 200 Tryd.f9 [hArg 0, hArg 1] = some (boolR true) := by kernel_rfl
theorem frForms_run2 : runFn Tryd.prog (frTable { longs := [(0, false), (1, true)] } (frAll { longs := [(0, false), (1, true)] })) 200 Tryd.f9 [hArg 0, hArg 1] = some (boolR true) := by kernel_rfl
theorem frForms_run3 : runFn Tryd.prog (frTable { eqs := [(wE 0, wE 1, true)], longs := [(0, false), (1, false)] } (frAll { eqs := [(wE 0, wE 1, true)], longs := [(0, false), (1, false)] })) 200 Tryd.f9 [hArg 0, hArg 1] = some (boolR true) := by kernel_rfl
theorem frForms_run4 : runFn Tryd.prog (frTable { eqs := [(wE 0, wE 1, false)], longs := [(0, false), (1, false)] } (frAll { eqs := [(wE 0, wE 1, false)], longs := [(0, false), (1, false)] })) 200 Tryd.f9 [hArg 0, hArg 1] = some (boolR true) := by kernel_rfl
end

theorem frRules_calls (A0 A1 A2 : Option Addr) (n0 n1 n2 c0 c1 c2 : Nat) (l0 l1 l2 : List Nat) (w : World) (ht : FrTab w)
    (hr0 : Rd w A0 (nums .u8 l0)) (hl0 : l0.length = n0) (hc0 : n0 ≤ c0) (hn0 : n0 ≤ 140737488355328) (hb0 : ∀ x ∈ l0, x < 256) (hk0 : ∀ g, blk A0 = some g → g < w.heap.size)
    (hr1 : Rd w A1 (nums .u8 l1)) (hl1 : l1.length = n1) (hc1 : n1 ≤ c1) (hn1 : n1 ≤ 140737488355328) (hb1 : ∀ x ∈ l1, x < 256) (hk1 : ∀ g, blk A1 = some g → g < w.heap.size)
    (hr2 : Rd w A2 (nums .u8 l2)) (hl2 : l2.length = n2) (hc2 : n2 ≤ c2) (hn2 : n2 ≤ 140737488355328) (hb2 : ∀ x ∈ l2, x < 256) (hk2 : ∀ g, blk A2 = some g → g < w.heap.size) :
    Calls Tryd.prog 6 #[.slice A0 n0 c0, .slice A1 n1 c1, .slice A2 n2 c2] w fun e w' => e = .returned (.bool true) ∧ Below w.heap.size w w' := by
  obtain ⟨inv, hinv⟩ := inv_ex
  let R : Ev := ⟨fun _ => 0, rows [l0, l1, l2], inv⟩
  have hR : R.Ok := ⟨rows_ok (by simp only [List.forall_mem_cons]; exact ⟨⟨hl0 ▸ hn0, hb0⟩, ⟨hl1 ▸ hn1, hb1⟩, ⟨hl2 ▸ hn2, hb2⟩, fun x hx => by cases hx⟩), hinv⟩
  have hin : RVsIs (frDenS R) 0 w [hArg 0, hArg 1, hArg 2] [.slice A0 n0 c0, .slice A1 n1 c1, .slice A2 n2 c2] :=
    ⟨_, _, rfl, hArg_ok (R := R) (i := 0) hr0 hl0 hc0 hk0, _, _, rfl, hArg_ok (R := R) (i := 1) hr1 hl1 hc1 hk1, _, _, rfl, hArg_ok (R := R) (i := 2) hr2 hl2 hc2 hk2, rfl⟩
  have go : ∀ X, FrTold R X → runFn Tryd.prog (frTable X (frAll X)) 200 Tryd.f6 [hArg 0, hArg 1, hArg 2] = some (boolR true) → _ := fun X hX hrun => fr_law Tryd.func6 hR hX hrun ht hin
  by_cases h0 : 400 < l0.length
  · exact go _ (told_longs (by intro x hx; simp at hx; subst hx; exact decide_eq_true h0)) frRules_run1
  by_cases h1 : 400 < l1.length
  · exact go _ (told_longs (by intro x hx; simp at hx; rcases hx with rfl | rfl; exact decide_eq_false h0; exact decide_eq_true h1)) frRules_run2
  by_cases h2 : 400 < l2.length
  · exact go _ (told_longs (by intro x hx; simp at hx; rcases hx with rfl | rfl | rfl; exact decide_eq_false h0; exact decide_eq_false h1; exact decide_eq_true h2)) frRules_run3
  exact go _ (told_longs (by intro x hx; simp at hx; rcases hx with rfl | rfl | rfl; exact decide_eq_false h0; exact decide_eq_false h1; exact decide_eq_false h2)) frRules_run0

theorem frForms_calls (A0 A1 : Option Addr) (n0 n1 c0 c1 : Nat) (l0 l1 : List Nat) (w : World) (ht : FrTab w)
    (hr0 : Rd w A0 (nums .u8 l0)) (hl0 : l0.length = n0) (hc0 : n0 ≤ c0) (hn0 : n0 ≤ 140737488355328) (hb0 : ∀ x ∈ l0, x < 256) (hk0 : ∀ g, blk A0 = some g → g < w.heap.size)
    (hr1 : Rd w A1 (nums .u8 l1)) (hl1 : l1.length = n1) (hc1 : n1 ≤ c1) (hn1 : n1 ≤ 140737488355328) (hb1 : ∀ x ∈ l1, x < 256) (hk1 : ∀ g, blk A1 = some g → g < w.heap.size) :
    Calls Tryd.prog 9 #[.slice A0 n0 c0, .slice A1 n1 c1] w fun e w' => e = .returned (.bool true) ∧ Below w.heap.size w w' := by
  obtain ⟨inv, hinv⟩ := inv_ex
  let R : Ev := ⟨fun _ => 0, rows [l0, l1], inv⟩
  have hR : R.Ok := ⟨rows_ok (by simp only [List.forall_mem_cons]; exact ⟨⟨hl0 ▸ hn0, hb0⟩, ⟨hl1 ▸ hn1, hb1⟩, fun x hx => by cases hx⟩), hinv⟩
  have hin : RVsIs (frDenS R) 0 w [hArg 0, hArg 1] [.slice A0 n0 c0, .slice A1 n1 c1] :=
    ⟨_, _, rfl, hArg_ok (R := R) (i := 0) hr0 hl0 hc0 hk0, _, _, rfl, hArg_ok (R := R) (i := 1) hr1 hl1 hc1 hk1, rfl⟩
  have go : ∀ X, FrTold R X → runFn Tryd.prog (frTable X (frAll X)) 200 Tryd.f9 [hArg 0, hArg 1] = some (boolR true) → _ := fun X hX hrun => fr_law Tryd.func9 hR hX hrun ht hin
  by_cases h0 : 400 < l0.length
  · exact go _ (told_longs (by intro x hx; simp at hx; subst hx; exact decide_eq_true h0)) frForms_run1
  by_cases h1 : 400 < l1.length
  · exact go _ (told_longs (by intro x hx; simp at hx; rcases hx with rfl | rfl; exact decide_eq_false h0; exact decide_eq_true h1)) frForms_run2
  have hL : ∀ x ∈ [(0, false), (1, false)], decide (400 < (R.bys x.1).length) = x.2 := by intro x hx; simp at hx; rcases hx with rfl | rfl; exact decide_eq_false h0; exact decide_eq_false h1
  by_cases he : frEv R (wE 0) % frQ = frEv R (wE 1) % frQ
  · exact go _ (told_eqs (by intro x hx; simp at hx; subst hx; exact decide_eq_true he) hL) frForms_run3
  · exact go _ (told_eqs (by intro x hx; simp at hx; subst hx; exact decide_eq_false he) hL) frForms_run4

end Go.Proofs.YtpinopjnlcbipaaDoor
