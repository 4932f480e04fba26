/- Package fp: contracts of power, Inv, Sqrt, Odd, Large. Conditions: those of each theorem. -/
import Derived.Test.YtdconlmpjehohaaDoorSyFpC
namespace Go.Proofs.YtdconlmpjehohaaDoor
open Go.RowKit Sx
set_option linter.unusedVariables false

theorem told_nil {R : Ev} : FpTold R {} :=
  ⟨fun x hx => (by cases hx), fun x hx => (by cases hx), fun x hx => (by cases hx), fun x hx => (by cases hx), fun x hx => (by cases hx), fun x hx => (by cases hx), fun x hx => (by cases hx)⟩

theorem told_eqF {R : Ev} {F : List (E × E × Bool)} (hF : FpFacts R F) : FpTold R { eqs := F } :=
  ⟨hF, fun x hx => (by cases hx), fun x hx => (by cases hx), fun x hx => (by cases hx), fun x hx => (by cases hx), fun x hx => (by cases hx), fun x hx => (by cases hx)⟩

theorem told_flags {R : Ev} {G : List (Nat × E × Bool)} (hG : ∀ x ∈ G, flagV R x.1 x.2.1 = x.2.2) : FpTold R { flags := G } :=
  ⟨fun x hx => (by cases hx), fun x hx => (by cases hx), fun x hx => (by cases hx), fun x hx => (by cases hx), hG, fun x hx => (by cases hx), fun x hx => (by cases hx)⟩

theorem el_post {R : Ev} {e : E} (he : isFp e = true) {f : FuncId} {vs : Array Value} {w : World} (h : Calls Tryd.prog f vs w fun x w' => ∃ v, x = .returned v ∧ Below w.heap.size w w' ∧ (Res.one (.dt (.agg [.el e]))).Is (fpDenS R) w.heap.size w' v) :
    Calls Tryd.prog f vs w fun x w' => x = .returned (fpE (fpEv R e)) ∧ Below w.heap.size w w' :=
  h.mono fun x w' ⟨v, h1, h2, m, h3, h4⟩ => by
    have h3 : some (fpDen R e ++ []) = some m := h3
    injection h3 with h3; subst h3
    exact ⟨by rw [h1, h4, List.append_nil, isFp_den he, ← fpCells_ok], h2⟩

theorem bool_post {D : Den} {f : FuncId} {vs : List Value} {w : World} {b : Bool} (h : Calls Tryd.prog f vs.toArray w fun e w' => ∃ v, e = .returned v ∧ Below w.heap.size w w' ∧ (boolR b).Is D w.heap.size w' v) :
    Calls Tryd.prog f vs.toArray w fun e w' => e = .returned (.bool b) ∧ Below w.heap.size w w' :=
  h.mono fun e w' ⟨v, h1, h2, h3⟩ => by
    injection h3 with h3; injection h3 with h3; subst h3
    exact ⟨h1, h2⟩

theorem el_in {R : Ev} (w : World) : (RV.dt (.agg [.el (.dt 0)])).Is (fpDenS R) 0 w (fpE (R.num 0)) := ⟨fpCells (R.num 0) ++ [], rfl, by rw [List.append_nil]; exact fpCells_ok _⟩

/-- one number, and what powers are -/
def numR (a : Nat) (inv sqr : Nat → Nat) : Ev := ⟨fun _ => a, fun _ => [], inv, sqr⟩

theorem numR_ok {a : Nat} {inv sqr : Nat → Nat} (hi : ∀ a, inv a = a ^ fpI) (hs : ∀ a, sqr a = a ^ fpS) : (numR a inv sqr).Ok := ⟨fun _ => ⟨Nat.zero_le _, fun x hx => by cases hx⟩, hi, hs⟩

theorem pow_right (R : Ev) : Right Tryd.prog (fpDenS R) FpTab (fpTable {} powEntries) := fpRight told_nil (by
  unfold powEntries
  simp only [List.forall_mem_cons]
  exact ⟨powMulE_ok R, powSquareE_ok R, fpOfE_ok R, fun x hx => by cases hx⟩)

theorem fp_powI_calls (a : Nat) (w : World) (ht : FpTab w) : Calls Tryd.prog 76 #[fpE a, fpV fpI] w fun e w' => e = .returned (fpE (a ^ fpI)) ∧ Below w.heap.size w w' := by
  obtain ⟨inv, hinv⟩ := inv_ex
  obtain ⟨sqr, hsqr⟩ := sqr_ex
  have h := el_post (R := numR a inv sqr) rfl (calls_run (pow_right (numR a inv sqr)) mixed Tryd.func76 fpPower_runI (vs := [fpE a, fpV fpI]) ⟨_, _, rfl, el_in w, _, _, rfl, ⟨_, u64s_cells _ _ _, fpI_val⟩, rfl⟩ fun w' hb => ht.below hb)
  rw [fpEv_pow] at h
  exact h

theorem fp_powS_calls (a : Nat) (w : World) (ht : FpTab w) : Calls Tryd.prog 76 #[fpE a, fpV fpS] w fun e w' => e = .returned (fpE (a ^ fpS)) ∧ Below w.heap.size w w' := by
  obtain ⟨inv, hinv⟩ := inv_ex
  obtain ⟨sqr, hsqr⟩ := sqr_ex
  have h := el_post (R := numR a inv sqr) rfl (calls_run (pow_right (numR a inv sqr)) mixed Tryd.func76 fpPower_runS (vs := [fpE a, fpV fpS]) ⟨_, _, rfl, el_in w, _, _, rfl, ⟨_, u64s_cells _ _ _, fpS_val⟩, rfl⟩ fun w' hb => ht.below hb)
  rw [fpEv_pow] at h
  exact h

def litsAre : List Atom → List Nat → Bool
  | [], [] => true
  | .int .u64 (.ofNat n) :: bs, m :: ms => match Nat.beq n m with
    | true => litsAre bs ms
    | false => false
  | _, _ => false

theorem litsAre_ok : ∀ {bs : List Atom} {ms : List Nat}, litsAre bs ms = true → bs = u64s ms
  | [], [], h => rfl
  | a :: bs, [], h => by simp [litsAre] at h
  | [], m :: ms, h => by cases h
  | a :: bs, m :: ms, h => by
    unfold litsAre at h
    split at h
    · contradiction
    · rename_i n bs' m' ms' e1 e2
      injection e1 with e1 e3
      injection e2 with e2 e4
      subst e1 e2 e3 e4
      split at h
      · rename_i hb
        rw [litsAre_ok h, Nat.eq_of_beq_eq_true hb]
        rfl
      · cases h
    · cases h

def fpPowerE : Entry
  | [.dt (.agg xs), .dt (.agg es)] => match fpEl xs with
    | some a => match litsAre es wordsI with
      | true => some (.one (.dt (.agg [.el (.op 5 a (.dt 0))])))
      | false => match litsAre es wordsS with
        | true => some (.one (.dt (.agg [.el (.op 6 a (.dt 0))])))
        | false => none
    | none => none
  | _ => none

theorem fpPowerE_ok {R : Ev} (hR : R.Ok) : EntryOk (fpDenS R) FpTab 76 fpPowerE := by
  refine ⟨by kernel_rfl, fun cs r hr σ w vs hv hI => ?_⟩
  unfold fpPowerE at hr
  split at hr
  · rename_i xs es
    obtain ⟨v, ws, rfl, h1, u, us, rfl, ⟨m, h2, rfl⟩, h3⟩ := hv
    have h3 : us = [] := h3
    subst h3
    split at hr
    · rename_i a ha
      rw [fpEl_ok ha h1]
      split at hr
      · rename_i hw
        injection hr with hr; subst hr
        rw [litsAre_ok hw, u64s_cells] at h2
        injection h2 with h2; subst h2
        refine calls_el (e := .op 5 a (.dt 0)) rfl ?_
        rw [fpEv_inv, hR.inv]
        have := fp_powI_calls (fpEv R a) w hI
        rw [fpI_val] at this
        exact this
      · split at hr
        · rename_i hw
          injection hr with hr; subst hr
          rw [litsAre_ok hw, u64s_cells] at h2
          injection h2 with h2; subst h2
          refine calls_el (e := .op 6 a (.dt 0)) rfl ?_
          rw [fpEv_sqr, hR.sqr]
          have := fp_powS_calls (fpEv R a) w hI
          rw [fpS_val] at this
          exact this
        · cases hr
    · cases hr
  · cases hr

/-- the words of the number itself -/
def fpPlainE : Entry := fun cs => match fp1 cs with
  | some a => some (.one (.dt (.agg [.el (.op 14 a (.dt 0)), .el (.op 14 a (.dt 1)), .el (.op 14 a (.dt 2)), .el (.op 14 a (.dt 3)), .el (.op 14 a (.dt 4)), .el (.op 14 a (.dt 5))])))
  | none => none

theorem fpPlainE_ok (R : Ev) : EntryOk (fpDenS R) FpTab 47 fpPlainE := by
  refine ⟨by kernel_rfl, fun cs r hr σ w vs hv hI => ?_⟩
  unfold fpPlainE at hr
  split at hr
  · rename_i a hc
    injection hr with hr; subst hr
    rw [fp1_ok hc hv]
    have h := fp_plain_calls (fpEv R a) w hI
    rw [fpV_wd] at h
    exact h.mono fun x w' ⟨h1, h2⟩ => ⟨_, h1, h2, _, rfl, rfl⟩
  · cases hr

section
set_option maxRecDepth 100000
theorem fpInv_run : runFn Tryd.prog (fpTable {} [(76, fpPowerE)]) 200 Tryd.f62 [.dt (.agg [.el (.dt 0)])] = some (.one (.dt (.agg [.el (.op 5 (.dt 0) (.dt 0))]))) := by kernel_rfl
end

theorem fp_inv_calls (a : Nat) (w : World) (ht : FpTab w) : Calls Tryd.prog 62 #[fpE a] w fun e w' => e = .returned (fpE (a ^ fpI)) ∧ Below w.heap.size w w' := by
  obtain ⟨inv, hinv⟩ := inv_ex
  obtain ⟨sqr, hsqr⟩ := sqr_ex
  have hR := numR_ok (a := a) hinv hsqr
  have h := el_post (R := numR a inv sqr) rfl (calls_run (fpRight told_nil (by
    simp only [List.forall_mem_cons]
    exact ⟨fpPowerE_ok hR, fun x hx => by cases hx⟩)) mixed Tryd.func62 fpInv_run (vs := [fpE a]) ⟨_, _, rfl, el_in w, rfl⟩ fun w' hb => ht.below hb)
  rw [fpEv_inv, hR.inv] at h
  exact h

end Go.Proofs.YtdconlmpjehohaaDoor
