/- Package fr: the table of all its functions. Conditions: those of each theorem. -/
import Derived.Test.YtdconlmpjehohaaDoorSyFpR
namespace Go.Proofs.YtdconlmpjehohaaDoor
open Go.RowKit Sx
set_option linter.unusedVariables false

/-- Read of a row; of a number's own bytes -/
def fpReadE (X : Fx) : Entry
  | [.held (.op 20 a _)] => fpReadR X.lens X.nlens X.lts a
  | [.view [.el (.op 10 a _)]] => match isFp a with
    | true => some (.tup [.dt (.agg [.el a]), .dt (.one (.int .i64 0))])
    | false => none
  | _ => none

theorem fpReadE_ok {R : Ev} (hR : R.Ok) {X : Fx} (hX : FpTold R X) : EntryOk (fpDenS R) FpTab 50 (fpReadE X) := by
  refine ⟨by kernel_rfl, fun cs r hr σ w vs hv hI => ?_⟩
  unfold fpReadE at hr
  split at hr
  · rename_i a b
    obtain ⟨v, ws, rfl, hh20, h4⟩ := hv
    obtain ⟨A, c, rfl, h1, h2, h3⟩ := hold20 hh20
    have h4 : ws = [] := h4
    subst h4
    have hc := fp_read_calls A (R.row a) _ c w hI h1 rfl h2 (hR.rows a).1 (hR.rows a).2 h3
    have nought : (V.agg (u64s [0, 0, 0, 0, 0, 0])).Is (fpDenS R) Env.empty (fpE 0) := ⟨_, u64s_cells _ _ _, by rw [fpE_zero]; rfl⟩
    unfold fpReadR at hr
    split at hr
    · rename_i hl
      have hlen := lenRow_ok hX.lens hl
      split at hr
      · rename_i ht
        injection hr with hr; subst hr
        have hlt : be (R.row a) < fpQ := of_decide_eq_true (ltOf_ok hX.lts ht)
        have e : fpReadN (R.row a) = (be (R.row a), 0) := by unfold fpReadN; rw [if_pos hlen, if_pos hlt]
        rw [e] at hc
        refine hc.mono fun x w' ⟨h5, h6⟩ => ⟨_, h5, h6, _, rfl, _, _, rfl, ⟨_, rfl, ?_⟩, _, _, rfl, rfl, rfl⟩
        show fpE (be (R.row a)) = .agg (fpDen R (.op 7 a (.dt 0)) ++ []).toArray
        rw [List.append_nil, isFp_den rfl, fpEv_wide, ← fpCells_ok]
      · rename_i ht
        injection hr with hr; subst hr
        have hlt : ¬ be (R.row a) < fpQ := of_decide_eq_false (ltOf_ok hX.lts ht)
        have e : fpReadN (R.row a) = (0, 12) := by unfold fpReadN; rw [if_pos hlen, if_neg hlt]
        rw [e] at hc
        exact hc.mono fun x w' ⟨h5, h6⟩ => ⟨_, h5, h6, _, rfl, _, _, rfl, nought, _, _, rfl, rfl, rfl⟩
      · cases hr
    · split at hr
      · rename_i i hno
        split at hr
        · rename_i hn
          injection hr with hr; subst hr
          have hne : ¬ (R.row (.dt i)).length = 48 := hX.nlens _ (find_mem hn)
          have e : fpReadN (R.row (.dt i)) = (0, 10) := by unfold fpReadN; rw [if_neg hne]
          rw [e] at hc
          exact hc.mono fun x w' ⟨h5, h6⟩ => ⟨_, h5, h6, _, rfl, _, _, rfl, nought, _, _, rfl, rfl, rfl⟩
        · cases hr
      · cases hr
  · rename_i a b
    cases ha : isFp a with
    | false => rw [ha] at hr; cases hr
    | true =>
      rw [ha] at hr
      injection hr with hr; subst hr
      obtain ⟨v, ws, rfl, ⟨bk, o, c, l, rfl, hlc, h1, h2, h3⟩, h4⟩ := hv
      have h4 : ws = [] := h4
      subst h4
      have h1 : some (nums .u8 (digs 48 (fpEv R a % fpQ)) ++ []) = some l := h1
      injection h1 with h1
      rw [List.append_nil] at h1
      subst h1
      have hlt : fpEv R a % fpQ < fpQ := Nat.mod_lt _ (by decide)
      have hbe : be (digs 48 (fpEv R a % fpQ)) = fpEv R a % fpQ := by
        rw [be_digs, Nat.mod_eq_of_lt (Nat.lt_trans hlt (by decide))]
      have hrd : Rd w (some ⟨bk, o, none⟩) (nums .u8 (digs 48 (fpEv R a % fpQ))) := .inr ⟨bk, o, rfl, h2, h3⟩
      have hlen : (nums .u8 (digs 48 (fpEv R a % fpQ))).length = 48 := by rw [nums_length, digs_length]
      rw [hlen] at hlc ⊢
      have hc := fp_read_calls (some ⟨bk, o, none⟩) (digs 48 (fpEv R a % fpQ)) 48 c w hI hrd (digs_length _ _) hlc (by omega) (digs_lt _ _) (fun g hg => by injection hg with hg; subst hg; exact h2)
      have e : fpReadN (digs 48 (fpEv R a % fpQ)) = (fpEv R a % fpQ, 0) := by
        unfold fpReadN
        rw [if_pos (digs_length _ _), hbe, if_pos hlt]
      rw [e] at hc
      refine hc.mono fun x w' ⟨h5, h6⟩ => ⟨_, h5, h6, _, rfl, _, _, rfl, ⟨_, rfl, ?_⟩, _, _, rfl, rfl, rfl⟩
      show fpE (fpEv R a % fpQ) = .agg (fpDen R a ++ []).toArray
      rw [List.append_nil, isFp_den ha, fpE_mod, ← fpCells_ok]
  · cases hr

theorem fp_invR {R : Ev} (hR : R.Ok) (a : Nat) (w : World) (ht : FpTab w) :
    Calls Tryd.prog 62 #[fpE a] w fun e w' => e = .returned (fpE (R.inv a)) ∧ Below w.heap.size w w' := by
  rw [hR.inv]
  exact fp_inv_calls a w ht

/-- the functions of the package, powers as well -/
def fpPows (X : Fx) : List (Nat × Entry) :=
  (62, fpUn 5) :: fpLow X.eqs

theorem fpPows_ok {R : Ev} {X : Fx} (hR : R.Ok) (hX : FpTold R X) : ∀ x ∈ fpPows X, EntryOk (fpDenS R) FpTab x.1 x.2 := by
  unfold fpPows
  simp only [List.forall_mem_cons]
  exact ⟨fpUn_ok rfl (by kernel_rfl) R.inv (fpEv_inv R) (fp_invR hR), fpLow_ok hR hX.eqs⟩

/-- the head of the statements -/
abbrev lE (n : Nat) : E := .op 0 (.dt n) (.dt 0)
abbrev nE (a : E) : E := .op 4 a (.dt 0)
abbrev sE (a : E) : E := .op 6 a (.dt 0)
end Go.Proofs.YtdconlmpjehohaaDoor
