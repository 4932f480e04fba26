/- Package fp2: its functions are run where they are called; the head of its statements. Conditions: those of each theorem. -/
import Derived.Test.YtkeommkcjigioaaDoorSyFpP
namespace Go.Proofs.YtkeommkcjigioaaDoor
open Go.RowKit Sx
set_option linter.unusedVariables false

/-- functions that call package fp alone -/
noncomputable def fp2L1 (P : Program) (X : Fx) : List (Nat × Entry) :=
  (24, inlE P X (fpPows X) Tryd.f24) ::
  (13, inlE P X (fpPows X) Tryd.f13) ::
  (19, inlE P X (fpPows X) Tryd.f19) ::
  (20, inlE P X (fpPows X) Tryd.f20) ::
  (21, inlE P X (fpPows X) Tryd.f21) ::
  (16, inlE P X (fpPows X) Tryd.f16) ::
  (22, inlE P X (fpPows X) Tryd.f22) ::
  (14, inlE P X (fpPows X) Tryd.f14) ::
  (37, inlE P X (fpPows X) Tryd.f37) ::
  (41, inlE P X (fpPows X) Tryd.f41) ::
  (17, inlE P X (fpPows X) Tryd.f17) ::
  (43, inlE P X (fpPows X) Tryd.f43) ::
  (44, inlE P X (fpPows X) Tryd.f44) :: fpPows X

theorem fp2L1_ok {R : Ev} {X : Fx} (hR : R.Ok) (hX : FpTold R X) : ∀ x ∈ fp2L1 Tryd.prog X, EntryOk (fpDenS R) FpTab x.1 x.2 := by
  unfold fp2L1
  simp only [List.forall_mem_cons]
  have h := fpPows_ok hR hX
  exact ⟨inlE_ok hX h (by kernel_rfl) Tryd.func24, inlE_ok hX h (by kernel_rfl) Tryd.func13, inlE_ok hX h (by kernel_rfl) Tryd.func19, inlE_ok hX h (by kernel_rfl) Tryd.func20, inlE_ok hX h (by kernel_rfl) Tryd.func21, inlE_ok hX h (by kernel_rfl) Tryd.func16, inlE_ok hX h (by kernel_rfl) Tryd.func22, inlE_ok hX h (by kernel_rfl) Tryd.func14, inlE_ok hX h (by kernel_rfl) Tryd.func37, inlE_ok hX h (by kernel_rfl) Tryd.func41, inlE_ok hX h (by kernel_rfl) Tryd.func17, inlE_ok hX h (by kernel_rfl) Tryd.func43, inlE_ok hX h (by kernel_rfl) Tryd.func44, h⟩

/-- functions that call those -/
noncomputable def fp2L2 (P : Program) (X : Fx) : List (Nat × Entry) :=
  (38, inlE P X (fp2L1 P X) Tryd.f38) ::
  (45, inlE P X (fp2L1 P X) Tryd.f45) ::
  (42, inlE P X (fp2L1 P X) Tryd.f42) :: fp2L1 P X

theorem fp2L2_ok {R : Ev} {X : Fx} (hR : R.Ok) (hX : FpTold R X) : ∀ x ∈ fp2L2 Tryd.prog X, EntryOk (fpDenS R) FpTab x.1 x.2 := by
  unfold fp2L2
  simp only [List.forall_mem_cons]
  have h := fp2L1_ok hR hX
  exact ⟨inlE_ok hX h (by kernel_rfl) Tryd.func38, inlE_ok hX h (by kernel_rfl) Tryd.func45, inlE_ok hX h (by kernel_rfl) Tryd.func42, h⟩

def head2X : Fx := { eqs := [(lE 1, lE 0, false)], lim := 64 }

section
set_option maxRecDepth 100000
theorem fp2Head_run : runFn Tryd.prog (fpTable head2X (fp2L2 Tryd.prog head2X)) 400 Tryd.f9 [] = some (boolR true) := by kernel_rfl
end

theorem head2_told {R : Ev} : FpTold R head2X :=
  ⟨fun x hx => by
    simp only [head2X, List.mem_cons, List.not_mem_nil, or_false] at hx
    subst hx
    refine decide_eq_false ?_
    rw [fpEv_lit, fpEv_lit]
    decide +kernel, fun x hx => (by cases hx), fun x hx => (by cases hx), fun x hx => (by cases hx), fun x hx => (by cases hx), fun x hx => (by cases hx), fun x hx => (by cases hx)⟩

theorem fp2_head_calls (w : World) (ht : FpTab w) : Calls Tryd.prog 9 #[] w fun e w' => e = .returned (.bool true) ∧ Below w.heap.size w w' := by
  obtain ⟨inv, hinv⟩ := inv_ex
  obtain ⟨sqr, hsqr⟩ := sqr_ex
  have hR := numR_ok (a := 0) hinv hsqr
  exact bool_post (calls_run (fpRight head2_told (fp2L2_ok hR head2_told)) mixed Tryd.func9 fp2Head_run (vs := []) rfl fun w' hb => ht.below hb)

def head2E : Entry
  | [] => some (boolR true)
  | _ => none

theorem head2E_ok (R : Ev) : EntryOk (fpDenS R) FpTab 9 head2E := by
  refine ⟨by kernel_rfl, fun cs r hr σ w vs hv hI => ?_⟩
  unfold head2E at hr
  split at hr
  · injection hr with hr; subst hr
    have hv : vs = [] := hv
    subst hv
    exact calls_bool (fp2_head_calls w hI)
  · cases hr

/-- all functions -/
noncomputable def fp2All (P : Program) (X : Fx) : List (Nat × Entry) :=
  (9, head2E) :: (10, inlE P X (fp2L2 P X) Tryd.f10) :: fp2L2 P X

theorem fp2All_ok {R : Ev} {X : Fx} (hR : R.Ok) (hX : FpTold R X) : ∀ x ∈ fp2All Tryd.prog X, EntryOk (fpDenS R) FpTab x.1 x.2 := by
  unfold fp2All
  have h := fp2L2_ok hR hX
  rw [List.forall_mem_cons, List.forall_mem_cons]
  exact ⟨head2E_ok R, inlE_ok hX h (by kernel_rfl) Tryd.func10, h⟩

/-- a statement over rows of bytes, run -/
theorem fp2_law {R : Ev} {X : Fx} {f : FuncId} {fn : Func} (hf : Tryd.prog.funcs[f]? = some fn) {ins : List RV} (hR : R.Ok) (hX : FpTold R X) (hrun : runFn Tryd.prog (fpTable X (fp2All Tryd.prog X)) 400 fn ins = some (boolR true))
    {vs : List Value} {w : World} (ht : FpTab w) (hin : RVsIs (fpDenS R) 0 w ins vs) : Calls Tryd.prog f vs.toArray w fun e w' => e = .returned (.bool true) ∧ Below w.heap.size w w' :=
  bool_post (calls_run (fpRight hX (fp2All_ok hR hX)) mixed hf hrun hin fun w' hb => ht.below hb)

/-- the number of row i -/
abbrev wE (i : Nat) : E := .op 7 (.dt i) (.dt 0)

theorem told64 {R : Ev} {F : List (E × E × Bool)} {L : List (Nat × Bool)} {G : List (Nat × E × Bool)} (hF : FpFacts R F) (h : ∀ x ∈ L, decide (64 < (R.bys x.1).length) = x.2) (hG : ∀ x ∈ G, flagV R x.1 x.2.1 = x.2.2) : FpTold R { eqs := F, longs := L, flags := G, lim := 64 } :=
  ⟨hF, h, fun x hx => (by cases hx), fun x hx => (by cases hx), hG, fun x hx => (by cases hx), fun x hx => (by cases hx)⟩
theorem told64L {R : Ev} {L : List (Nat × Bool)} (h : ∀ x ∈ L, decide (64 < (R.bys x.1).length) = x.2) : FpTold R { longs := L, lim := 64 } :=
  ⟨fun x hx => (by cases hx), h, fun x hx => (by cases hx), fun x hx => (by cases hx), fun x hx => (by cases hx), fun x hx => (by cases hx), fun x hx => (by cases hx)⟩

end Go.Proofs.YtkeommkcjigioaaDoor
