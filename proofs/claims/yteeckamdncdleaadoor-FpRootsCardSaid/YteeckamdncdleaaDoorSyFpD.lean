/- Package fp: the table of all its functions; the head of its statements. Conditions: those of each theorem. -/
import Derived.Test.YteeckamdncdleaaDoorSyFpQ
namespace Go.Proofs.YteeckamdncdleaaDoor
open Go.RowKit Sx
set_option linter.unusedVariables false

def headX : Fx := { eqs := [(.op 2 (sE (lE 4)) (sE (lE 4)), lE 4, true), (.op 2 (sE (nE (lE 1))) (sE (nE (lE 1))), nE (lE 1), false)], flags := [(1, lE 1, false), (1, nE (lE 1), true), (0, lE 3, true)] }

section
set_option maxRecDepth 100000
theorem fpHead_run : runFn Tryd.prog (fpTable headX (fpPows headX)) 200 Tryd.f11 [] = some (boolR true) := by kernel_rfl
end

theorem fpS_small : ∃ N, 2 ^ 384 = N ∧ fpS < N := ⟨_, rfl, by decide +kernel⟩

theorem sq_pow {R : Ev} (hR : R.Ok) (a c : Nat) (h : powM a fpQ 384 fpS = c) : R.sqr a % fpQ = c := by
  have hs : ∀ k e, e < 2 ^ k → powM a fpQ k e = a ^ e % fpQ := fun k e he => powM_eq a fpQ k e he
  obtain ⟨N, hN, hlt⟩ := fpS_small
  rw [hR.sqr, ← hs 384 fpS (hN ▸ hlt)]
  exact h

theorem head_told {R : Ev} (hR : R.Ok) : FpTold R headX :=
  ⟨fun x hx => by
    simp only [headX, List.mem_cons, List.not_mem_nil, or_false] at hx
    rcases hx with rfl | rfl
    · have e := sq_pow hR 4 (powM 4 fpQ 384 fpS) rfl
      refine decide_eq_true ?_
      rw [fpEv_mul, fpEv_sqr, fpEv_lit, Nat.mul_mod, e]
      decide +kernel
    · have e := sq_pow hR (fpQ - 1 % fpQ) (powM (fpQ - 1 % fpQ) fpQ 384 fpS) rfl
      refine decide_eq_false ?_
      rw [fpEv_mul, fpEv_sqr, fpEv_neg, fpEv_lit, Nat.mul_mod, e]
      decide +kernel, fun x hx => (by cases hx), fun x hx => (by cases hx), fun x hx => (by cases hx), fun x hx => by
    simp only [headX, List.mem_cons, List.not_mem_nil, or_false] at hx
    rcases hx with rfl | rfl | rfl
    · show decide ((fpQ - fpEv R (lE 1) % fpQ) % fpQ < fpEv R (lE 1) % fpQ) = false
      rw [fpEv_lit]; decide +kernel
    · show decide ((fpQ - fpEv R (nE (lE 1)) % fpQ) % fpQ < fpEv R (nE (lE 1)) % fpQ) = true
      rw [fpEv_neg, fpEv_lit]; decide +kernel
    · show decide (fpEv R (lE 3) % fpQ % 2 = 1) = true
      rw [fpEv_lit]; decide +kernel, fun x hx => (by cases hx), fun x hx => (by cases hx)⟩

theorem fp_head_calls (w : World) (ht : FpTab w) : Calls Tryd.prog 11 #[] w fun e w' => e = .returned (.bool true) ∧ Below w.heap.size w w' := by
  obtain ⟨inv, hinv⟩ := inv_ex
  obtain ⟨sqr, hsqr⟩ := sqr_ex
  have hR := numR_ok (a := 0) hinv hsqr
  exact bool_post (calls_run (fpRight (head_told hR) (fpPows_ok hR (head_told hR))) mixed Tryd.func11 fpHead_run (vs := []) rfl fun w' hb => ht.below hb)

def headE : Entry
  | [] => some (boolR true)
  | _ => none

theorem fpHeadE_ok (R : Ev) : EntryOk (fpDenS R) FpTab 11 headE := by
  refine ⟨by kernel_rfl, fun cs r hr σ w vs hv hI => ?_⟩
  unfold headE at hr
  split at hr
  · injection hr with hr; subst hr
    have hv : vs = [] := hv
    subst hv
    exact calls_bool (fp_head_calls w hI)
  · cases hr

/-- all functions -/
def fpAll (X : Fx) : List (Nat × Entry) := (30, fpReadE X) :: (11, headE) :: fpPows X

theorem fpAll_ok {R : Ev} {X : Fx} (hR : R.Ok) (hX : FpTold R X) : ∀ x ∈ fpAll X, EntryOk (fpDenS R) FpTab x.1 x.2 := by
  unfold fpAll
  rw [List.forall_mem_cons, List.forall_mem_cons]
  exact ⟨fpReadE_ok hR hX, fpHeadE_ok R, fpPows_ok hR hX⟩

/-- a statement over rows of bytes, run -/
theorem fp_law {R : Ev} {X : Fx} {f : FuncId} {fn : Func} (hf : Tryd.prog.funcs[f]? = some fn) {ins : List RV} (hR : R.Ok) (hX : FpTold R X) (hrun : runFn Tryd.prog (fpTable X (fpAll X)) 200 fn ins = some (boolR true))
    {vs : List Value} {w : World} (ht : FpTab w) (hin : RVsIs (fpDenS R) 0 w ins vs) : Calls Tryd.prog f vs.toArray w fun e w' => e = .returned (.bool true) ∧ Below w.heap.size w w' :=
  bool_post (calls_run (fpRight hX (fpAll_ok hR hX)) mixed hf hrun hin fun w' hb => ht.below hb)

end Go.Proofs.YteeckamdncdleaaDoor
