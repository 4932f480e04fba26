/- Package fp against the reference: the walk of FpRoots. Conditions: those of each theorem. -/
import Derived.Test.YteeckamdncdleaaDoorSyFpX
import Derived.Test.YteeckamdncdleaaDoorSyFpD
namespace Go.Proofs.YteeckamdncdleaaDoor
open Go.RowKit Sx
set_option linter.unusedVariables false

noncomputable def fpxAll (P : Program) (X : Fx) : List (Nat × Entry) :=
  (25, inlE P X (fpRef X) Tryd.f25) ::
  (33, inlE P X (fpRef X) Tryd.f33) ::
  (11, headE) :: fpRefS P X

theorem fpxAll_ok {R : Ev} {X : Fx} (hR : R.Ok) (hX : FpTold R X) : ∀ x ∈ fpxAll Tryd.prog X, EntryOk (fpDenS R) FpTab x.1 x.2 := by
  unfold fpxAll
  have h := fpRef_ok hR hX
  simp only [List.forall_mem_cons]
  exact ⟨inlE_ok hX h (by kernel_rfl) Tryd.func25, inlE_ok hX h (by kernel_rfl) Tryd.func33, fpHeadE_ok R, fpRefS_ok hR hX⟩

/-- a statement over rows of bytes and the reference, run -/
theorem fpx_law {R : Ev} {X : Fx} {f : FuncId} {fn : Func} (hf : Tryd.prog.funcs[f]? = some fn) {ins : List RV} (hR : R.Ok) (hX : FpTold R X) (hrun : runFn Tryd.prog (fpTable X (fpxAll Tryd.prog X)) 400 fn ins = some (boolR true))
    {vs : List Value} {w : World} (ht : FpTab w) (hin : RVsIs (fpDenS R) 0 w ins vs) : Calls Tryd.prog f vs.toArray w fun e w' => e = .returned (.bool true) ∧ Below w.heap.size w w' :=
  bool_post (calls_run (fpRight hX (fpxAll_ok hR hX)) mixed hf hrun hin fun w' hb => ht.below hb)

abbrev wE (i : Nat) : E := .op 7 (.dt i) (.dt 0)
/-- the number of row 0 modulo p, in the reference's words -/
abbrev mW : E := .op 45 (.op 41 (.dt 0) (.dt 0)) (.dt 0)

def rootsX (r o l : Bool) : Fx := { longs := [(0, false)], lim := 64, eqs := [(.op 2 (sE (wE 0)) (sE (wE 0)), wE 0, r)], flags := [(0, wE 0, o), (2, mW, o), (1, wE 0, l)] }

section
set_option maxRecDepth 100000
theorem fpRoots_run1 : runFn Tryd.prog (fpTable { longs := [(0, true)], lim := 64 } (fpxAll Tryd.prog { longs := [(0, true)], lim := 64 })) 400 Tryd.f8 [hArg 0] = some (boolR true) := by kernel_rfl
theorem fpRoots_run (r o l : Bool) : runFn Tryd.prog (fpTable (rootsX r o l) (fpxAll Tryd.prog (rootsX r o l))) 400 Tryd.f8 [hArg 0] = some (boolR true) := by cases r <;> cases o <;> cases l <;> kernel_rfl
end

theorem fpRoots_calls (A0 : Option Addr) (n0 c0 : Nat) (l0 : List Nat) (w : World) (ht : FpTab w)
    (hr0 : Rd w A0 (nums .u8 l0)) (hl0 : l0.length = n0) (hc0 : n0 ≤ c0) (hn0 : n0 ≤ 140737488355328) (hb0 : ∀ x ∈ l0, x < 256) (hk0 : ∀ g, blk A0 = some g → g < w.heap.size) :
    Calls Tryd.prog 8 #[.slice A0 n0 c0] w fun e w' => e = .returned (.bool true) ∧ Below w.heap.size w w' := by
  obtain ⟨inv, hinv⟩ := inv_ex
  obtain ⟨sqr_, hsqr⟩ := sqr_ex
  let R : Ev := ⟨fun _ => 0, rows [l0], inv, sqr_⟩
  have hR : R.Ok := ⟨rows_ok (by simp only [List.forall_mem_cons]; exact ⟨⟨hl0 ▸ hn0, hb0⟩, fun x hx => by cases hx⟩), hinv, hsqr⟩
  have hin : RVsIs (fpDenS R) 0 w [hArg 0] [.slice A0 n0 c0] :=
    ⟨_, _, rfl, hArg_ok (R := R) (i := 0) hr0 hl0 hc0 hk0, rfl⟩
  have go : ∀ X, FpTold R X → runFn Tryd.prog (fpTable X (fpxAll Tryd.prog X)) 400 Tryd.f8 [hArg 0] = some (boolR true) → _ := fun X hX hrun => fpx_law Tryd.func8 hR hX hrun ht hin
  by_cases h0 : 64 < l0.length
  · exact go _ ⟨fun x hx => (by cases hx), (by intro x hx; simp at hx; subst hx; exact decide_eq_true h0), fun x hx => (by cases hx), fun x hx => (by cases hx), fun x hx => (by cases hx), fun x hx => (by cases hx), fun x hx => (by cases hx)⟩ fpRoots_run1
  have ev : ∀ a b : E, ∃ r, decide (fpEv R a % fpQ = fpEv R b % fpQ) = r := fun a b => ⟨_, rfl⟩
  have fl : ∀ k a, ∃ r, flagV R k a = r := fun a b => ⟨_, rfl⟩
  obtain ⟨r, hr⟩ := ev (.op 2 (sE (wE 0)) (sE (wE 0))) (wE 0)
  obtain ⟨o, ho⟩ := fl 0 (wE 0)
  obtain ⟨l, hl⟩ := fl 1 (wE 0)
  have ho2 : flagV R 2 mW = o := by
    rw [← ho]
    show decide (wdE R mW % 2 = 1) = decide (fpEv R (wE 0) % fpQ % 2 = 1)
    rw [wdE_mod, wdE_row, fpEv_wide]
    rfl
  exact go (rootsX r o l) ⟨(by unfold FpFacts rootsX; simp only [List.forall_mem_cons]; exact ⟨hr, fun x hx => by cases hx⟩), (by intro x hx; simp [rootsX] at hx; subst hx; exact decide_eq_false h0), fun x hx => (by cases hx), fun x hx => (by cases hx), (by unfold rootsX; simp only [List.forall_mem_cons]; exact ⟨ho, ho2, hl, fun x hx => by cases hx⟩), fun x hx => (by cases hx), fun x hx => (by cases hx)⟩ (fpRoots_run r o l)

end Go.Proofs.YteeckamdncdleaaDoor
