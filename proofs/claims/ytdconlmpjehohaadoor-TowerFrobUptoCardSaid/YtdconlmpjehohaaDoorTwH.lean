/- The head of the tower's statements; statements over rows of bytes. Conditions: those of each theorem. -/
import Derived.Test.YtdconlmpjehohaaDoorTwA
namespace Go.Proofs.YtdconlmpjehohaaDoor
open Go.RowKit Sx
set_option linter.unusedVariables false

def headTX : Fx := { eqs := [(lE 1, lE 0, false)], lim := 2000 }

section
set_option maxRecDepth 100000
theorem twHead_run : runFn Tryd.prog (fpTable headTX (tw5 Tryd.prog headTX)) 400 Tryd.f9 [] = some (boolR true) := by kernel_rfl
end

theorem headT_told {R : Ev} : FpTold R headTX :=
  ⟨fun x hx => by
    simp only [headTX, List.mem_cons, List.not_mem_nil, or_false] at hx
    subst hx
    refine decide_eq_false ?_
    rw [fpEv_lit, fpEv_lit]
    decide +kernel, fun x hx => (by cases hx), fun x hx => (by cases hx), fun x hx => (by cases hx), fun x hx => (by cases hx), fun x hx => (by cases hx), fun x hx => (by cases hx)⟩

theorem tw_head_calls (w : World) (ht : FpTab w) : Calls Tryd.prog 9 #[] w fun e w' => e = .returned (.bool true) ∧ Below w.heap.size w w' := by
  obtain ⟨inv, hinv⟩ := inv_ex
  obtain ⟨sqr, hsqr⟩ := sqr_ex
  have hR := numR_ok (a := 0) hinv hsqr
  exact bool_post (calls_run (fpRight headT_told (tw5_ok hR headT_told)) mixed Tryd.func9 twHead_run (vs := []) rfl fun w' hb => ht.below hb)

def headTE : Entry
  | [] => some (boolR true)
  | _ => none

theorem headTE_ok (R : Ev) : EntryOk (fpDenS R) FpTab 9 headTE := by
  refine ⟨by kernel_rfl, fun cs r hr σ w vs hv hI => ?_⟩
  unfold headTE at hr
  split at hr
  · injection hr with hr; subst hr
    have hv : vs = [] := hv
    subst hv
    exact calls_bool (tw_head_calls w hI)
  · cases hr

/-- all functions -/
noncomputable def twAll (P : Program) (X : Fx) : List (Nat × Entry) := (9, headTE) :: tw5 P X

theorem twAll_ok {R : Ev} {X : Fx} (hR : R.Ok) (hX : FpTold R X) : ∀ x ∈ twAll Tryd.prog X, EntryOk (fpDenS R) FpTab x.1 x.2 := by
  unfold twAll
  rw [List.forall_mem_cons]
  exact ⟨headTE_ok R, tw5_ok hR hX⟩

/-- a statement over rows of bytes, run -/
theorem tw_law {R : Ev} {X : Fx} {f : FuncId} {fn : Func} (hf : Tryd.prog.funcs[f]? = some fn) {ins : List RV} (hR : R.Ok) (hX : FpTold R X) (hrun : runFn Tryd.prog (fpTable X (twAll Tryd.prog X)) 400 fn ins = some (boolR true))
    {vs : List Value} {w : World} (ht : FpTab w) (hin : RVsIs (fpDenS R) 0 w ins vs) : Calls Tryd.prog f vs.toArray w fun e w' => e = .returned (.bool true) ∧ Below w.heap.size w w' :=
  bool_post (calls_run (fpRight hX (twAll_ok hR hX)) mixed hf hrun hin fun w' hb => ht.below hb)

theorem toldT {R : Ev} {L : List (Nat × Bool)} (h : ∀ x ∈ L, decide (2000 < (R.bys x.1).length) = x.2) : FpTold R { longs := L, lim := 2000 } :=
  ⟨fun x hx => (by cases hx), h, fun x hx => (by cases hx), fun x hx => (by cases hx), fun x hx => (by cases hx), fun x hx => (by cases hx), fun x hx => (by cases hx)⟩

end Go.Proofs.YtdconlmpjehohaaDoor
