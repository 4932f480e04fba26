/- Package fp2 against the reference: the walk of Fp2Reads. Conditions: those of each theorem. -/
import Derived.Test.YtkeommkcjigioaaDoorSyFpW
import Derived.Test.YtkeommkcjigioaaDoorFp2A
namespace Go.Proofs.YtkeommkcjigioaaDoor
open Go.RowKit Sx
set_option linter.unusedVariables false

theorem cells_1 {D : Den} {σ : Env} {p : Atom} {y : List Value} (h : p.cells D σ = some y) : cellsL D σ [p] = some y := by
  have e : cellsL D σ ([] : List Atom) = some [] := rfl
  have := cellsL_mk h e
  rwa [List.append_nil] at this

/-- the row that 48 bytes are -/
def rowV (X : Fx) : Atom → Option E
  | .el (.op 10 (.op 7 r _) _) => match lenRow X.lens r, ltOf X.lts r with
    | some 48, some true => some r
    | _, _ => none
  | _ => none

theorem rowV_ok {R : Ev} (hR : R.Ok) {X : Fx} (hX : FpTold R X) {p : Atom} {r : E} (h : rowV X p = some r) {σ : Env} : p.cells (fpDenS R) σ = some (nums .u8 (R.row r)) ∧ (R.row r).length = 48 := by
  unfold rowV at h
  split at h
  · rename_i r' a b
    split at h
    · rename_i hl ht
      injection h with h; subst h
      have hlen := lenRow_ok hX.lens hl
      have hlt : be (R.row r') < fpQ := of_decide_eq_true (ltOf_ok hX.lts ht)
      refine ⟨?_, hlen⟩
      show some (nums .u8 (digs 48 (fpEv R (.op 7 r' a) % fpQ))) = _
      rw [fpEv_wide, Nat.mod_eq_of_lt hlt]
      have := digs_be (R.row r') (hR.rows r').2
      rw [hlen] at this
      rw [this]
    · cases h
  · cases h

def same2E (X : Fx) : Entry := fun cs => match cs with
  | [.view [p], .held (.op 20 a _)] => match rowV X p with
    | some r => match E.eqb r a with
      | true => some (boolR true)
      | false => sameBE X cs
    | none => sameBE X cs
  | [.view [p, q], .held (.op 20 a _)] => match rowV X p, rowV X q, lenRow X.lens a with
    | some r, some s, some 96 => match E.eqb r (.op 22 (.op 23 a (.dt 48)) (.dt 0)), E.eqb s (.op 22 a (.dt 48)) with
      | true, true => some (boolR true)
      | _, _ => none
    | _, _, _ => none
  | _ => sameBE X cs

theorem same_view {R : Ev} {σ : Env} {w : World} {xs : List Atom} {a b : E} {l : List Nat} {vs : List Value} (hR : R.Ok) (hc : cellsL (fpDenS R) σ xs = some (nums .u8 l)) (hl : l = R.row a) (hv : ArgsIs (fpDenS R) σ w [.view xs, .held (.op 20 a b)] vs) :
    Calls Tryd.prog 26 vs.toArray w fun e w' => ∃ v, e = .returned v ∧ Below w.heap.size w w' ∧ (boolR true).Is (fpDenS R) w.heap.size w' v := by
  obtain ⟨u, us, rfl, ⟨bk, o, c, m, rfl, hlc, h1, h2, h3⟩, v, ws, rfl, h4, h5⟩ := hv
  have h5 : ws = [] := h5
  subst h5
  obtain ⟨B, d, rfl, b1, b2, b3⟩ := hold20 h4
  rw [hc] at h1
  injection h1 with h1
  subst h1
  subst hl
  have hlen : (nums .u8 (R.row a)).length = (R.row a).length := nums_length _ _
  rw [hlen]
  have hl := same_calls (some ⟨bk, o, none⟩) B (R.row a) (R.row a) c d w (.inr ⟨bk, o, rfl, h2, h3⟩) b1 (hR.rows a).1 (hR.rows a).1
  rw [show SameB (R.row a) (R.row a) = true from decide_eq_true rfl] at hl
  exact calls_bool (hl.mono fun y w' ⟨h1, h2⟩ => ⟨h1, below_ex h2⟩)

theorem same2E_ok {R : Ev} (hR : R.Ok) {X : Fx} (hX : FpTold R X) : EntryOk (fpDenS R) FpTab 26 (same2E X) := by
  refine ⟨by kernel_rfl, fun cs r hr σ w vs hv hI => ?_⟩
  have gen := (sameBE_ok hR hX).2 cs r
  unfold same2E at hr
  split at hr
  · rename_i p a b
    split at hr
    · rename_i r' hp
      split at hr
      · rename_i he
        injection hr with hr; subst hr
        have e := E.eqb_eq he
        subst e
        obtain ⟨h1, h2⟩ := rowV_ok hR hX hp (σ := σ)
        refine same_view hR (l := R.row r') ?_ rfl hv
        exact cells_1 h1
      · exact gen hr σ w vs hv hI
    · exact gen hr σ w vs hv hI
  · rename_i p q a b
    split at hr
    · rename_i r' s hp hq hl
      split at hr
      · rename_i h1 h2
        injection hr with hr; subst hr
        have e1 := E.eqb_eq h1
        have e2 := E.eqb_eq h2
        subst e1 e2
        obtain ⟨p1, p2⟩ := rowV_ok hR hX hp (σ := σ)
        obtain ⟨q1, q2⟩ := rowV_ok hR hX hq (σ := σ)
        refine same_view hR (l := R.row (.op 22 (.op 23 a (.dt 48)) (.dt 0)) ++ R.row (.op 22 a (.dt 48))) ?_ ?_ hv
        · have := cellsL_mk p1 (cells_1 q1)
          rw [← nums_append] at this
          exact this
        · have e3 : R.row (.op 22 (.op 23 a (.dt 48)) (.dt 0)) = (R.row a).take 48 := by simp only [Ev.row]; exact List.drop_zero
          have e4 : R.row (.op 22 a (.dt 48)) = (R.row a).drop 48 := by simp only [Ev.row]
          rw [e3, e4, List.take_append_drop]
      · cases hr
    · cases hr
  · exact gen hr σ w vs hv hI

noncomputable def fp2R (P : Program) (X : Fx) : List (Nat × Entry) := (26, same2E X) :: fpRef X

theorem fp2R_ok {R : Ev} {X : Fx} (hR : R.Ok) (hX : FpTold R X) : ∀ x ∈ fp2R Tryd.prog X, EntryOk (fpDenS R) FpTab x.1 x.2 := by
  unfold fp2R
  rw [List.forall_mem_cons]
  exact ⟨same2E_ok hR hX, fpRef_ok hR hX⟩

/-- the table for Fp2Reads -/
noncomputable def fp2rAll (P : Program) (X : Fx) : List (Nat × Entry) :=
  (9, head2E) :: (25, inlE P X (fp2R P X) Tryd.f25) :: (30, inlE P X (fp2R P X) Tryd.f30) ::
  (19, inlE P X (fp2R P X) Tryd.f19) :: fp2R P X

theorem fp2rAll_ok {R : Ev} {X : Fx} (hR : R.Ok) (hX : FpTold R X) : ∀ x ∈ fp2rAll Tryd.prog X, EntryOk (fpDenS R) FpTab x.1 x.2 := by
  unfold fp2rAll
  have h := fp2R_ok hR hX
  simp only [List.forall_mem_cons]
  exact ⟨head2E_ok R, inlE_ok hX h (by kernel_rfl) Tryd.func25, inlE_ok hX h (by kernel_rfl) Tryd.func30, inlE_ok hX h (by kernel_rfl) Tryd.func19, h⟩

theorem fp2r_law {R : Ev} {X : Fx} {f : FuncId} {fn : Func} (hf : Tryd.prog.funcs[f]? = some fn) {ins : List RV} (hR : R.Ok) (hX : FpTold R X) (hrun : runFn Tryd.prog (fpTable X (fp2rAll Tryd.prog X)) 400 fn ins = some (boolR true))
    {vs : List Value} {w : World} (ht : FpTab w) (hin : RVsIs (fpDenS R) 0 w ins vs) : Calls Tryd.prog f vs.toArray w fun e w' => e = .returned (.bool true) ∧ Below w.heap.size w w' :=
  bool_post (calls_run (fpRight hX (fp2rAll_ok hR hX)) mixed hf hrun hin fun w' hb => ht.below hb)

abbrev rHi : E := .op 22 (.op 23 (.dt 0) (.dt 48)) (.dt 0)
abbrev rLo : E := .op 22 (.dt 0) (.dt 48)
def reads2N : Fx := { nlens := [(0, 96)] }
def reads2B (t1 t2 : Bool) : Fx := { lens := [(0, 96)], lts := [(rHi, t1), (rLo, t2)] }
def reads2A (z1 z2 : Bool) : Fx := { lens := [(0, 96)], lts := [(rHi, true), (rLo, true)], eqs := [(.op 7 rHi (.dt 0), lE 0, z1), (.op 7 rLo (.dt 0), lE 0, z2)] }

section
set_option maxRecDepth 100000
theorem fp2Reads_runN : runFn Tryd.prog (fpTable reads2N (fp2rAll Tryd.prog reads2N)) 400 Tryd.f5 [hArg 0] = some (boolR true) := by kernel_rfl
theorem fp2Reads_runB (t1 t2 : Bool) (h : (t1 && t2) = false) : runFn Tryd.prog (fpTable (reads2B t1 t2) (fp2rAll Tryd.prog (reads2B t1 t2))) 400 Tryd.f5 [hArg 0] = some (boolR true) := by
  revert h
  cases t1 <;> cases t2 <;> intro h <;> first | (exact absurd h (by decide)) | kernel_rfl
theorem fp2Reads_runA (z1 z2 : Bool) : runFn Tryd.prog (fpTable (reads2A z1 z2) (fp2rAll Tryd.prog (reads2A z1 z2))) 400 Tryd.f5 [hArg 0] = some (boolR true) := by cases z1 <;> cases z2 <;> kernel_rfl
end

theorem fp2Reads_calls (A0 : Option Addr) (n0 c0 : Nat) (l0 : List Nat) (w : World) (ht : FpTab w)
    (hr0 : Rd w A0 (nums .u8 l0)) (hl0 : l0.length = n0) (hc0 : n0 ≤ c0) (hn0 : n0 ≤ 140737488355328) (hb0 : ∀ x ∈ l0, x < 256) (hk0 : ∀ g, blk A0 = some g → g < w.heap.size) :
    Calls Tryd.prog 5 #[.slice A0 n0 c0] w fun e w' => e = .returned (.bool true) ∧ Below w.heap.size w w' := by
  obtain ⟨inv, hinv⟩ := inv_ex
  obtain ⟨sqr_, hsqr⟩ := sqr_ex
  let R : Ev := ⟨fun _ => 0, rows [l0], inv, sqr_⟩
  have hR : R.Ok := ⟨rows_ok (by simp only [List.forall_mem_cons]; exact ⟨⟨hl0 ▸ hn0, hb0⟩, fun x hx => by cases hx⟩), hinv, hsqr⟩
  have hin : RVsIs (fpDenS R) 0 w [hArg 0] [.slice A0 n0 c0] :=
    ⟨_, _, rfl, hArg_ok (R := R) (i := 0) hr0 hl0 hc0 hk0, rfl⟩
  have go : ∀ X, FpTold R X → runFn Tryd.prog (fpTable X (fp2rAll Tryd.prog X)) 400 Tryd.f5 [hArg 0] = some (boolR true) → _ := fun X hX hrun => fp2r_law Tryd.func5 hR hX hrun ht hin
  by_cases h96 : l0.length = 96
  · have hL : ∀ x ∈ [((0 : Nat), (96 : Nat))], (R.bys x.1).length = x.2 := by intro x hx; simp at hx; subst hx; exact h96
    have ht1 : ∃ t, decide (be (R.row rHi) < fpQ) = t := ⟨_, rfl⟩
    have ht2 : ∃ t, decide (be (R.row rLo) < fpQ) = t := ⟨_, rfl⟩
    obtain ⟨t1, ht1⟩ := ht1
    obtain ⟨t2, ht2⟩ := ht2
    cases hb : (t1 && t2) with
    | false =>
      exact go (reads2B t1 t2) ⟨fun x hx => (by cases hx), fun x hx => (by cases hx), hL, fun x hx => (by cases hx), fun x hx => (by cases hx), (by unfold reads2B; simp only [List.forall_mem_cons]; exact ⟨ht1, ht2, fun x hx => by cases hx⟩), fun x hx => (by cases hx)⟩ (fp2Reads_runB t1 t2 hb)
    | true =>
      simp only [Bool.and_eq_true] at hb
      obtain ⟨rfl, rfl⟩ := hb
      have hz1 : ∃ z, decide (fpEv R (.op 7 rHi (.dt 0)) % fpQ = fpEv R (lE 0) % fpQ) = z := ⟨_, rfl⟩
      have hz2 : ∃ z, decide (fpEv R (.op 7 rLo (.dt 0)) % fpQ = fpEv R (lE 0) % fpQ) = z := ⟨_, rfl⟩
      obtain ⟨z1, hz1⟩ := hz1
      obtain ⟨z2, hz2⟩ := hz2
      exact go (reads2A z1 z2) ⟨(by unfold FpFacts reads2A; simp only [List.forall_mem_cons]; exact ⟨hz1, hz2, fun x hx => by cases hx⟩), fun x hx => (by cases hx), hL, fun x hx => (by cases hx), fun x hx => (by cases hx), (by unfold reads2A; simp only [List.forall_mem_cons]; exact ⟨ht1, ht2, fun x hx => by cases hx⟩), fun x hx => (by cases hx)⟩ (fp2Reads_runA z1 z2)
  · exact go reads2N ⟨fun x hx => (by cases hx), fun x hx => (by cases hx), fun x hx => (by cases hx), fun x hx => (by simp [reads2N] at hx; subst hx; exact h96), fun x hx => (by cases hx), fun x hx => (by cases hx), fun x hx => (by cases hx)⟩ fp2Reads_runN

end Go.Proofs.YtkeommkcjigioaaDoor
