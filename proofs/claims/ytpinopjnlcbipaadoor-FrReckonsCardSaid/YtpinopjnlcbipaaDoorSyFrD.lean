/- Package fr: the table of all its functions. Conditions: those of each theorem. -/
import Derived.Test.YtpinopjnlcbipaaDoorSyFrC
namespace Go.Proofs.YtpinopjnlcbipaaDoor
open Go.RowKit Sx
set_option linter.unusedVariables false

/-- Read of a row; of a number's own bytes -/
def frReadE (X : Fx) : Entry
  | [.held (.op 20 a _)] => frReadR X.lens X.nlens X.lts a
  | [.view [.el (.op 10 a _)]] => match isFr a with
    | true => some (.tup [.dt (.agg [.el a]), .dt (.one (.int .i64 0))])
    | false => none
  | _ => none

theorem frReadE_ok {R : Ev} (hR : R.Ok) {X : Fx} (hX : FrTold R X) : EntryOk (frDenS R) FrTab 26 (frReadE X) := by
  refine ⟨by kernel_rfl, fun cs r hr σ w vs hv hI => ?_⟩
  unfold frReadE at hr
  split at hr
  · rename_i a b
    obtain ⟨v, ws, rfl, ⟨a', b', he, A, c, rfl, h1, h2, h3⟩, h4⟩ := hv
    injection he with _ e1 e2; subst e1 e2
    have h4 : ws = [] := h4
    subst h4
    have hc := fr_read_calls A (R.row a) _ c w hI h1 rfl h2 (hR.rows a).1 (hR.rows a).2 h3
    have nought : (V.agg (u64s [0, 0, 0, 0])).Is (frDenS R) Env.empty (frE 0) := ⟨_, u64s_cells _ _ _, by rw [frE_zero]; rfl⟩
    unfold frReadR at hr
    split at hr
    · rename_i hl
      have hlen := lenRow_ok hX.lens hl
      split at hr
      · rename_i ht
        injection hr with hr; subst hr
        have hlt : be (R.row a) < frQ := of_decide_eq_true (ltOf_ok hX.lts ht)
        have e : frReadN (R.row a) = (be (R.row a), 0) := by unfold frReadN; rw [if_pos hlen, if_pos hlt]
        rw [e] at hc
        refine hc.mono fun x w' ⟨h5, h6⟩ => ⟨_, h5, h6, _, rfl, _, _, rfl, ⟨_, rfl, ?_⟩, _, _, rfl, rfl, rfl⟩
        show frE (be (R.row a)) = .agg (frDen R (.op 7 a (.dt 0)) ++ []).toArray
        rw [List.append_nil, isFr_den rfl, frEv_wide, ← frCells_ok]
      · rename_i ht
        injection hr with hr; subst hr
        have hlt : ¬ be (R.row a) < frQ := of_decide_eq_false (ltOf_ok hX.lts ht)
        have e : frReadN (R.row a) = (0, 12) := by unfold frReadN; rw [if_pos hlen, if_neg hlt]
        rw [e] at hc
        exact hc.mono fun x w' ⟨h5, h6⟩ => ⟨_, h5, h6, _, rfl, _, _, rfl, nought, _, _, rfl, rfl, rfl⟩
      · cases hr
    · split at hr
      · rename_i i hno
        split at hr
        · rename_i hn
          injection hr with hr; subst hr
          have hne : ¬ (R.row (.dt i)).length = 32 := hX.nlens _ (find_mem hn)
          have e : frReadN (R.row (.dt i)) = (0, 10) := by unfold frReadN; rw [if_neg hne]
          rw [e] at hc
          exact hc.mono fun x w' ⟨h5, h6⟩ => ⟨_, h5, h6, _, rfl, _, _, rfl, nought, _, _, rfl, rfl, rfl⟩
        · cases hr
      · cases hr
  · rename_i a b
    cases ha : isFr a with
    | false => rw [ha] at hr; cases hr
    | true =>
      rw [ha] at hr
      injection hr with hr; subst hr
      obtain ⟨v, ws, rfl, ⟨bk, o, c, l, rfl, hlc, h1, h2, h3⟩, h4⟩ := hv
      have h4 : ws = [] := h4
      subst h4
      have h1 : some (nums .u8 (digs 32 (frEv R a % frQ)) ++ []) = some l := h1
      injection h1 with h1
      rw [List.append_nil] at h1
      subst h1
      have hlt : frEv R a % frQ < frQ := Nat.mod_lt _ (by decide)
      have hbe : be (digs 32 (frEv R a % frQ)) = frEv R a % frQ := by
        rw [be_digs, Nat.mod_eq_of_lt (Nat.lt_trans hlt (by decide))]
      have hrd : Rd w (some ⟨bk, o, none⟩) (nums .u8 (digs 32 (frEv R a % frQ))) := .inr ⟨bk, o, rfl, h2, h3⟩
      have hlen : (nums .u8 (digs 32 (frEv R a % frQ))).length = 32 := by rw [nums_length, digs_length]
      rw [hlen] at hlc ⊢
      have hc := fr_read_calls (some ⟨bk, o, none⟩) (digs 32 (frEv R a % frQ)) 32 c w hI hrd (digs_length _ _) hlc (by omega) (digs_lt _ _) (fun g hg => by injection hg with hg; subst hg; exact h2)
      have e : frReadN (digs 32 (frEv R a % frQ)) = (frEv R a % frQ, 0) := by
        unfold frReadN
        rw [if_pos (digs_length _ _), hbe, if_pos hlt]
      rw [e] at hc
      refine hc.mono fun x w' ⟨h5, h6⟩ => ⟨_, h5, h6, _, rfl, _, _, rfl, ⟨_, rfl, ?_⟩, _, _, rfl, rfl, rfl⟩
      show frE (frEv R a % frQ) = .agg (frDen R a ++ []).toArray
      rw [List.append_nil, isFr_den ha, frE_mod, ← frCells_ok]
  · cases hr

/-- the functions of the package, Read as well -/
def frAll (X : Fx) : List (Nat × Entry) := (26, frReadE X) :: frEntries X.eqs

theorem frAll_ok {R : Ev} {X : Fx} (hR : R.Ok) (hX : FrTold R X) : ∀ x ∈ frAll X, EntryOk (frDenS R) FrTab x.1 x.2 := by
  unfold frAll
  simp only [List.forall_mem_cons]
  exact ⟨frReadE_ok hR hX, frEntries_ok hR hX.eqs⟩

/-- a statement over rows of bytes, run -/
theorem fr_law {R : Ev} {X : Fx} {f : FuncId} {fn : Func} (hf : Tryd.prog.funcs[f]? = some fn) {ins : List RV} (hR : R.Ok) (hX : FrTold R X) (hrun : runFn Tryd.prog (frTable X (frAll X)) 200 fn ins = some (boolR true))
    {vs : List Value} {w : World} (ht : FrTab w) (hin : RVsIs (frDenS R) 0 w ins vs) : Calls Tryd.prog f vs.toArray w fun e w' => e = .returned (.bool true) ∧ Below w.heap.size w w' :=
  bool_post (calls_run (frRight hX (frAll_ok hR hX)) mixed hf hrun hin fun w' hb => ht.below hb)

end Go.Proofs.YtpinopjnlcbipaaDoor
