/- Package fp: contracts of power, Inv, Sqrt, Odd, Large. Conditions: those of each theorem. -/
import Derived.Test.YtkeommkcjigioaaDoorSyFpC
namespace Go.Proofs.YtkeommkcjigioaaDoor
open Go.RowKit Sx
set_option linter.unusedVariables false

theorem told_nil {R : Ev} : FpTold R {} :=
  ⟨fun x hx => (by cases hx), fun x hx => (by cases hx), fun x hx => (by cases hx), fun x hx => (by cases hx), fun x hx => (by cases hx), fun x hx => (by cases hx), fun x hx => (by cases hx)⟩

theorem told_eqF {R : Ev} {F : List (E × E × Bool)} (hF : FpFacts R F) : FpTold R { eqs := F } :=
  ⟨hF, fun x hx => (by cases hx), fun x hx => (by cases hx), fun x hx => (by cases hx), fun x hx => (by cases hx), fun x hx => (by cases hx), fun x hx => (by cases hx)⟩

theorem told_flags {R : Ev} {G : List (Nat × E × Bool)} (hG : ∀ x ∈ G, flagV R x.1 x.2.1 = x.2.2) : FpTold R { flags := G } :=
  ⟨fun x hx => (by cases hx), fun x hx => (by cases hx), fun x hx => (by cases hx), fun x hx => (by cases hx), hG, fun x hx => (by cases hx), fun x hx => (by cases hx)⟩

theorem el_post {R : Ev} {e : E} (he : isFp e = true) {f : FuncId} {vs : Array Value} {w : World} (h : Calls Tryd.prog f vs w fun x w' => ∃ v, x = .returned v ∧ Below w.heap.size w w' ∧ (Res.one (.dt (.agg [.el e]))).Is (fpDenS R) w.heap.size w' v) :
    Calls Tryd.prog f vs w fun x w' => x = .returned (fpE (fpEv R e)) ∧ Below w.heap.size w w' :=
  h.mono fun x w' ⟨v, h1, h2, m, h3, h4⟩ => by
    have h3 : some (fpDen R e ++ []) = some m := h3
    injection h3 with h3; subst h3
    exact ⟨by rw [h1, h4, List.append_nil, isFp_den he, ← fpCells_ok], h2⟩

theorem bool_post {D : Den} {f : FuncId} {vs : List Value} {w : World} {b : Bool} (h : Calls Tryd.prog f vs.toArray w fun e w' => ∃ v, e = .returned v ∧ Below w.heap.size w w' ∧ (boolR b).Is D w.heap.size w' v) :
    Calls Tryd.prog f vs.toArray w fun e w' => e = .returned (.bool b) ∧ Below w.heap.size w w' :=
  h.mono fun e w' ⟨v, h1, h2, h3⟩ => by
    injection h3 with h3; injection h3 with h3; subst h3
    exact ⟨h1, h2⟩

theorem el_in {R : Ev} (w : World) : (RV.dt (.agg [.el (.dt 0)])).Is (fpDenS R) 0 w (fpE (R.num 0)) := ⟨fpCells (R.num 0) ++ [], rfl, by rw [List.append_nil]; exact fpCells_ok _⟩

/-- one number, and what powers are -/
def numR (a : Nat) (inv sqr : Nat → Nat) : Ev := ⟨fun _ => a, fun _ => [], inv, sqr⟩

theorem numR_ok {a : Nat} {inv sqr : Nat → Nat} (hi : ∀ a, inv a = a ^ fpI) (hs : ∀ a, sqr a = a ^ fpS) : (numR a inv sqr).Ok := ⟨fun _ => ⟨Nat.zero_le _, fun x hx => by cases hx⟩, hi, hs⟩

theorem pow_right (R : Ev) : Right Tryd.prog (fpDenS R) FpTab (fpTable {} powEntries) := fpRight told_nil (by
  unfold powEntries
  simp only [List.forall_mem_cons]
  exact ⟨powMulE_ok R, powSquareE_ok R, fpOfE_ok R, fun x hx => by cases hx⟩)

theorem fp_powI_calls (a : Nat) (w : World) (ht : FpTab w) : Calls Tryd.prog 79 #[fpE a, fpV fpI] w fun e w' => e = .returned (fpE (a ^ fpI)) ∧ Below w.heap.size w w' := by
  obtain ⟨inv, hinv⟩ := inv_ex
  obtain ⟨sqr, hsqr⟩ := sqr_ex
  have h := el_post (R := numR a inv sqr) rfl (calls_run (pow_right (numR a inv sqr)) mixed Tryd.func79 fpPower_runI (vs := [fpE a, fpV fpI]) ⟨_, _, rfl, el_in w, _, _, rfl, ⟨_, u64s_cells _ _ _, fpI_val⟩, rfl⟩ fun w' hb => ht.below hb)
  rw [fpEv_pow] at h
  exact h

theorem fp_powS_calls (a : Nat) (w : World) (ht : FpTab w) : Calls Tryd.prog 79 #[fpE a, fpV fpS] w fun e w' => e = .returned (fpE (a ^ fpS)) ∧ Below w.heap.size w w' := by
  obtain ⟨inv, hinv⟩ := inv_ex
  obtain ⟨sqr, hsqr⟩ := sqr_ex
  have h := el_post (R := numR a inv sqr) rfl (calls_run (pow_right (numR a inv sqr)) mixed Tryd.func79 fpPower_runS (vs := [fpE a, fpV fpS]) ⟨_, _, rfl, el_in w, _, _, rfl, ⟨_, u64s_cells _ _ _, fpS_val⟩, rfl⟩ fun w' hb => ht.below hb)
  rw [fpEv_pow] at h
  exact h

def litsAre : List Atom → List Nat → Bool
  | [], [] => true
  | .int .u64 (.ofNat n) :: bs, m :: ms => match Nat.beq n m with
    | true => litsAre bs ms
    | false => false
  | _, _ => false

theorem litsAre_ok : ∀ {bs : List Atom} {ms : List Nat}, litsAre bs ms = true → bs = u64s ms
  | [], [], h => rfl
  | a :: bs, [], h => by simp [litsAre] at h
  | [], m :: ms, h => by cases h
  | a :: bs, m :: ms, h => by
    unfold litsAre at h
    split at h
    · contradiction
    · rename_i n bs' m' ms' e1 e2
      injection e1 with e1 e3
      injection e2 with e2 e4
      subst e1 e2 e3 e4
      split at h
      · rename_i hb
        rw [litsAre_ok h, Nat.eq_of_beq_eq_true hb]
        rfl
      · cases h
    · cases h

def fpPowerE : Entry
  | [.dt (.agg xs), .dt (.agg es)] => match fpEl xs with
    | some a => match litsAre es wordsI with
      | true => some (.one (.dt (.agg [.el (.op 5 a (.dt 0))])))
      | false => match litsAre es wordsS with
        | true => some (.one (.dt (.agg [.el (.op 6 a (.dt 0))])))
        | false => none
    | none => none
  | _ => none

theorem fpPowerE_ok {R : Ev} (hR : R.Ok) : EntryOk (fpDenS R) FpTab 79 fpPowerE := by
  refine ⟨by kernel_rfl, fun cs r hr σ w vs hv hI => ?_⟩
  unfold fpPowerE at hr
  split at hr
  · rename_i xs es
    obtain ⟨v, ws, rfl, h1, u, us, rfl, ⟨m, h2, rfl⟩, h3⟩ := hv
    have h3 : us = [] := h3
    subst h3
    split at hr
    · rename_i a ha
      rw [fpEl_ok ha h1]
      split at hr
      · rename_i hw
        injection hr with hr; subst hr
        rw [litsAre_ok hw, u64s_cells] at h2
        injection h2 with h2; subst h2
        refine calls_el (e := .op 5 a (.dt 0)) rfl ?_
        rw [fpEv_inv, hR.inv]
        have := fp_powI_calls (fpEv R a) w hI
        rw [fpI_val] at this
        exact this
      · split at hr
        · rename_i hw
          injection hr with hr; subst hr
          rw [litsAre_ok hw, u64s_cells] at h2
          injection h2 with h2; subst h2
          refine calls_el (e := .op 6 a (.dt 0)) rfl ?_
          rw [fpEv_sqr, hR.sqr]
          have := fp_powS_calls (fpEv R a) w hI
          rw [fpS_val] at this
          exact this
        · cases hr
    · cases hr
  · cases hr

/-- the words of the number itself -/
def fpPlainE : Entry := fun cs => match fp1 cs with
  | some a => some (.one (.dt (.agg [.el (.op 14 a (.dt 0)), .el (.op 14 a (.dt 1)), .el (.op 14 a (.dt 2)), .el (.op 14 a (.dt 3)), .el (.op 14 a (.dt 4)), .el (.op 14 a (.dt 5))])))
  | none => none

theorem fpPlainE_ok (R : Ev) : EntryOk (fpDenS R) FpTab 59 fpPlainE := by
  refine ⟨by kernel_rfl, fun cs r hr σ w vs hv hI => ?_⟩
  unfold fpPlainE at hr
  split at hr
  · rename_i a hc
    injection hr with hr; subst hr
    rw [fp1_ok hc hv]
    have h := fp_plain_calls (fpEv R a) w hI
    rw [fpV_wd] at h
    exact h.mono fun x w' ⟨h1, h2⟩ => ⟨_, h1, h2, _, rfl, rfl⟩
  · cases hr

section
set_option maxRecDepth 100000
theorem fpInv_run : runFn Tryd.prog (fpTable {} [(79, fpPowerE)]) 200 Tryd.f67 [.dt (.agg [.el (.dt 0)])] = some (.one (.dt (.agg [.el (.op 5 (.dt 0) (.dt 0))]))) := by kernel_rfl
theorem fpSqrt_run1 : runFn Tryd.prog (fpTable { eqs := [(.op 2 (.op 6 (.dt 0) (.dt 0)) (.op 6 (.dt 0) (.dt 0)), .dt 0, true)] } [(79, fpPowerE), (52, fpSquareE)]) 200 Tryd.f66 [.dt (.agg [.el (.dt 0)])] = some (.tup [.dt (.agg [.el (.op 6 (.dt 0) (.dt 0))]), .dt (.one (.bool true))]) := by kernel_rfl
theorem fpSqrt_run0 : runFn Tryd.prog (fpTable { eqs := [(.op 2 (.op 6 (.dt 0) (.dt 0)) (.op 6 (.dt 0) (.dt 0)), .dt 0, false)] } [(79, fpPowerE), (52, fpSquareE)]) 200 Tryd.f66 [.dt (.agg [.el (.dt 0)])] = some (.tup [.dt (.agg (u64s [0, 0, 0, 0, 0, 0])), .dt (.one (.bool false))]) := by kernel_rfl
theorem fpOdd_run (b : Bool) : runFn Tryd.prog (fpTable { flags := [(0, .dt 0, b)] } [(59, fpPlainE)]) 200 Tryd.f68 [.dt (.agg [.el (.dt 0)])] = some (boolR b) := by kernel_rfl
theorem fpLarge_run5 (g : Bool) : runFn Tryd.prog (fpTable { flags := [(15, .dt 0, false), (25, .dt 0, g)] } [(59, fpPlainE), (15, fpUn 4)]) 200 Tryd.f69 [.dt (.agg [.el (.dt 0)])] = some (boolR g) := by kernel_rfl
theorem fpLarge_run4 (g : Bool) : runFn Tryd.prog (fpTable { flags := [(15, .dt 0, true), (14, .dt 0, false), (24, .dt 0, g)] } [(59, fpPlainE), (15, fpUn 4)]) 200 Tryd.f69 [.dt (.agg [.el (.dt 0)])] = some (boolR g) := by kernel_rfl
theorem fpLarge_run3 (g : Bool) : runFn Tryd.prog (fpTable { flags := [(15, .dt 0, true), (14, .dt 0, true), (13, .dt 0, false), (23, .dt 0, g)] } [(59, fpPlainE), (15, fpUn 4)]) 200 Tryd.f69 [.dt (.agg [.el (.dt 0)])] = some (boolR g) := by kernel_rfl
theorem fpLarge_run2 (g : Bool) : runFn Tryd.prog (fpTable { flags := [(15, .dt 0, true), (14, .dt 0, true), (13, .dt 0, true), (12, .dt 0, false), (22, .dt 0, g)] } [(59, fpPlainE), (15, fpUn 4)]) 200 Tryd.f69 [.dt (.agg [.el (.dt 0)])] = some (boolR g) := by kernel_rfl
theorem fpLarge_run1 (g : Bool) : runFn Tryd.prog (fpTable { flags := [(15, .dt 0, true), (14, .dt 0, true), (13, .dt 0, true), (12, .dt 0, true), (11, .dt 0, false), (21, .dt 0, g)] } [(59, fpPlainE), (15, fpUn 4)]) 200 Tryd.f69 [.dt (.agg [.el (.dt 0)])] = some (boolR g) := by kernel_rfl
theorem fpLarge_run0 (g : Bool) : runFn Tryd.prog (fpTable { flags := [(15, .dt 0, true), (14, .dt 0, true), (13, .dt 0, true), (12, .dt 0, true), (11, .dt 0, true), (10, .dt 0, false), (20, .dt 0, g)] } [(59, fpPlainE), (15, fpUn 4)]) 200 Tryd.f69 [.dt (.agg [.el (.dt 0)])] = some (boolR g) := by kernel_rfl
theorem fpLarge_run : runFn Tryd.prog (fpTable { flags := [(15, .dt 0, true), (14, .dt 0, true), (13, .dt 0, true), (12, .dt 0, true), (11, .dt 0, true), (10, .dt 0, true)] } [(59, fpPlainE), (15, fpUn 4)]) 200 Tryd.f69 [.dt (.agg [.el (.dt 0)])] = some (boolR false) := by kernel_rfl
end

theorem fp_inv_calls (a : Nat) (w : World) (ht : FpTab w) : Calls Tryd.prog 67 #[fpE a] w fun e w' => e = .returned (fpE (a ^ fpI)) ∧ Below w.heap.size w w' := by
  obtain ⟨inv, hinv⟩ := inv_ex
  obtain ⟨sqr, hsqr⟩ := sqr_ex
  have hR := numR_ok (a := a) hinv hsqr
  have h := el_post (R := numR a inv sqr) rfl (calls_run (fpRight told_nil (by
    simp only [List.forall_mem_cons]
    exact ⟨fpPowerE_ok hR, fun x hx => by cases hx⟩)) mixed Tryd.func67 fpInv_run (vs := [fpE a]) ⟨_, _, rfl, el_in w, rfl⟩ fun w' hb => ht.below hb)
  rw [fpEv_inv, hR.inv] at h
  exact h

theorem fp_sqrt_calls {R : Ev} (hR' : R.Ok) (a : Nat) (w : World) (ht : FpTab w) : Calls Tryd.prog 66 #[fpE a] w fun e w' => e = .returned (.tuple #[fpE (if R.sqr a * R.sqr a % fpQ = a % fpQ then R.sqr a else 0), .bool (decide (R.sqr a * R.sqr a % fpQ = a % fpQ))]) ∧ Below w.heap.size w w' := by
  have hR : (numR a R.inv R.sqr).Ok := numR_ok hR'.inv hR'.sqr
  have hl : ∀ F, FpFacts (numR a R.inv R.sqr) F → ∀ x ∈ [(79, fpPowerE), (52, fpSquareE)], EntryOk (fpDenS (numR a R.inv R.sqr)) FpTab x.1 x.2 := fun F hF => by
    simp only [List.forall_mem_cons]
    exact ⟨fpPowerE_ok hR, fpSquareE_ok _, fun x hx => by cases hx⟩
  have e1 : fpEv (numR a R.inv R.sqr) (.op 2 (.op 6 (.dt 0) (.dt 0)) (.op 6 (.dt 0) (.dt 0))) = R.sqr a * R.sqr a := by
    rw [fpEv_mul, fpEv_sqr]; rfl
  have e2 : fpEv (numR a R.inv R.sqr) (.dt 0) = a := rfl
  by_cases hs : R.sqr a * R.sqr a % fpQ = a % fpQ
  · rw [if_pos hs, decide_eq_true hs]
    have hF : FpFacts (numR a R.inv R.sqr) [(.op 2 (.op 6 (.dt 0) (.dt 0)) (.op 6 (.dt 0) (.dt 0)), .dt 0, true)] := fun x hx => by
      simp only [List.mem_cons, List.not_mem_nil, or_false] at hx
      subst hx
      dsimp only
      rw [e1, e2, decide_eq_true hs]
    refine (calls_run (fpRight (told_eqF hF) (hl _ hF)) mixed Tryd.func66 fpSqrt_run1 (vs := [fpE a]) ⟨_, _, rfl, el_in w, rfl⟩ fun w' hb => ht.below hb).mono ?_
    rintro e w' ⟨v, h1, h2, vs, rfl, v0, ws, rfl, h3, v1, us, rfl, h4, h5⟩
    have h5 : us = [] := h5
    subst h5
    obtain ⟨m, h6, rfl⟩ := h3
    have h6 : some (fpDen (numR a R.inv R.sqr) (.op 6 (.dt 0) (.dt 0)) ++ []) = some m := h6
    injection h6 with h6; subst h6
    injection h4 with h4; injection h4 with h4; subst h4
    refine ⟨?_, h2⟩
    rw [h1, List.append_nil, isFp_den rfl, ← fpCells_ok, fpEv_sqr]
    rfl
  · rw [if_neg hs, decide_eq_false hs]
    have hF : FpFacts (numR a R.inv R.sqr) [(.op 2 (.op 6 (.dt 0) (.dt 0)) (.op 6 (.dt 0) (.dt 0)), .dt 0, false)] := fun x hx => by
      simp only [List.mem_cons, List.not_mem_nil, or_false] at hx
      subst hx
      dsimp only
      rw [e1, e2, decide_eq_false hs]
    refine (calls_run (fpRight (told_eqF hF) (hl _ hF)) mixed Tryd.func66 fpSqrt_run0 (vs := [fpE a]) ⟨_, _, rfl, el_in w, rfl⟩ fun w' hb => ht.below hb).mono ?_
    rintro e w' ⟨v, h1, h2, vs, rfl, v0, ws, rfl, h3, v1, us, rfl, h4, h5⟩
    have h5 : us = [] := h5
    subst h5
    obtain ⟨m, h6, rfl⟩ := h3
    injection h6 with h6; subst h6
    injection h4 with h4; injection h4 with h4; subst h4
    exact ⟨by rw [h1, fpE_zero]; rfl, h2⟩

theorem fp_odd_calls (a : Nat) (w : World) (ht : FpTab w) : Calls Tryd.prog 68 #[fpE a] w fun e w' => e = .returned (.bool (decide (a % fpQ % 2 = 1))) ∧ Below w.heap.size w w' := by
  obtain ⟨inv, hinv⟩ := inv_ex
  obtain ⟨sqr, hsqr⟩ := sqr_ex
  exact bool_post (calls_run (fpRight (R := numR a inv sqr) (told_flags (by simp only [List.forall_mem_cons]; exact ⟨rfl, fun x hx => by cases hx⟩)) (by
    simp only [List.forall_mem_cons]
    exact ⟨fpPlainE_ok _, fun x hx => by cases hx⟩)) mixed Tryd.func68 (fpOdd_run (decide (a % fpQ % 2 = 1))) (vs := [fpE a]) ⟨_, _, rfl, el_in w, rfl⟩ fun w' hb => ht.below hb)

theorem fpWd_num {n : Nat} (hn : n < 39402006196394479212279040100143613805079739270465446667948293404245721771497210611414266254884915640806627990306816) : n = fpWd n 0 + fpWd n 1 * 18446744073709551616 + fpWd n 2 * 340282366920938463463374607431768211456 + fpWd n 3 * 6277101735386680763835789423207666416102355444464034512896 + fpWd n 4 * 115792089237316195423570985008687907853269984665640564039457584007913129639936 + fpWd n 5 * 2135987035920910082395021706169552114602704522356652769947041607822219725780640550022962086936576 := by
  unfold fpWd
  rw [Nat.pow_zero, Nat.div_one, Nat.pow_one, show (18446744073709551616 : Nat) ^ 2 = 340282366920938463463374607431768211456 by decide, show (18446744073709551616 : Nat) ^ 3 = 6277101735386680763835789423207666416102355444464034512896 by decide, show (18446744073709551616 : Nat) ^ 4 = 115792089237316195423570985008687907853269984665640564039457584007913129639936 by decide, show (18446744073709551616 : Nat) ^ 5 = 2135987035920910082395021706169552114602704522356652769947041607822219725780640550022962086936576 by decide]
  omega

theorem fp_large_calls (a : Nat) (w : World) (ht : FpTab w) : Calls Tryd.prog 69 #[fpE a] w fun e w' => e = .returned (.bool (decide ((fpQ - a % fpQ) % fpQ < a % fpQ))) ∧ Below w.heap.size w w' := by
  obtain ⟨inv, hinv⟩ := inv_ex
  obtain ⟨sqr, hsqr⟩ := sqr_ex
  have hlt : ∀ n, n % fpQ < 39402006196394479212279040100143613805079739270465446667948293404245721771497210611414266254884915640806627990306816 := fun n => Nat.lt_trans (Nat.mod_lt n (show 0 < fpQ by decide)) (by decide)
  have hu := fpWd_num (hlt a)
  have hv := fpWd_num (hlt (fpQ - a % fpQ))
  have b1 := fun i => wd_lt (a % fpQ) i
  have b2 := fun i => wd_lt ((fpQ - a % fpQ) % fpQ) i
  have go : ∀ G r, (∀ x ∈ G, flagV (numR a inv sqr) x.1 x.2.1 = x.2.2) → runFn Tryd.prog (fpTable { flags := G } [(59, fpPlainE), (15, fpUn 4)]) 200 Tryd.f69 [.dt (.agg [.el (.dt 0)])] = some (boolR r) → Calls Tryd.prog 69 #[fpE a] w fun e w' => e = .returned (.bool r) ∧ Below w.heap.size w w' := fun G r hG hrun =>
    bool_post (calls_run (fpRight (R := numR a inv sqr) (told_flags hG) (by
      simp only [List.forall_mem_cons]
      exact ⟨fpPlainE_ok _, fpUn_ok rfl (by kernel_rfl) (fun a => fpQ - a % fpQ) (fpEv_neg _) fp_neg_calls, fun x hx => by cases hx⟩)) mixed Tryd.func69 hrun (vs := [fpE a]) ⟨_, _, rfl, el_in w, rfl⟩ fun w' hb => ht.below hb)
  by_cases e5 : fpWd (a % fpQ) 5 = fpWd ((fpQ - a % fpQ) % fpQ) 5
  rotate_left
  · have h := go _ _ (by simp only [List.forall_mem_cons]; exact ⟨decide_eq_false e5, rfl, fun x hx => by cases hx⟩) (fpLarge_run5 (decide (fpWd ((fpQ - a % fpQ) % fpQ) 5 < fpWd (a % fpQ) 5)))
    have e : decide ((fpQ - a % fpQ) % fpQ < a % fpQ) = decide (fpWd ((fpQ - a % fpQ) % fpQ) 5 < fpWd (a % fpQ) 5) := by
      rw [decide_eq_decide]
      have := b1 0; have := b2 0; have := b1 1; have := b2 1; have := b1 2; have := b2 2; have := b1 3; have := b2 3; have := b1 4; have := b2 4; have := b1 5; have := b2 5
      omega
    rw [e]
    exact h
  by_cases e4 : fpWd (a % fpQ) 4 = fpWd ((fpQ - a % fpQ) % fpQ) 4
  rotate_left
  · have h := go _ _ (by simp only [List.forall_mem_cons]; exact ⟨decide_eq_true e5, decide_eq_false e4, rfl, fun x hx => by cases hx⟩) (fpLarge_run4 (decide (fpWd ((fpQ - a % fpQ) % fpQ) 4 < fpWd (a % fpQ) 4)))
    have e : decide ((fpQ - a % fpQ) % fpQ < a % fpQ) = decide (fpWd ((fpQ - a % fpQ) % fpQ) 4 < fpWd (a % fpQ) 4) := by
      rw [decide_eq_decide]
      have := b1 0; have := b2 0; have := b1 1; have := b2 1; have := b1 2; have := b2 2; have := b1 3; have := b2 3; have := b1 4; have := b2 4; have := b1 5; have := b2 5
      omega
    rw [e]
    exact h
  by_cases e3 : fpWd (a % fpQ) 3 = fpWd ((fpQ - a % fpQ) % fpQ) 3
  rotate_left
  · have h := go _ _ (by simp only [List.forall_mem_cons]; exact ⟨decide_eq_true e5, decide_eq_true e4, decide_eq_false e3, rfl, fun x hx => by cases hx⟩) (fpLarge_run3 (decide (fpWd ((fpQ - a % fpQ) % fpQ) 3 < fpWd (a % fpQ) 3)))
    have e : decide ((fpQ - a % fpQ) % fpQ < a % fpQ) = decide (fpWd ((fpQ - a % fpQ) % fpQ) 3 < fpWd (a % fpQ) 3) := by
      rw [decide_eq_decide]
      have := b1 0; have := b2 0; have := b1 1; have := b2 1; have := b1 2; have := b2 2; have := b1 3; have := b2 3; have := b1 4; have := b2 4; have := b1 5; have := b2 5
      omega
    rw [e]
    exact h
  by_cases e2 : fpWd (a % fpQ) 2 = fpWd ((fpQ - a % fpQ) % fpQ) 2
  rotate_left
  · have h := go _ _ (by simp only [List.forall_mem_cons]; exact ⟨decide_eq_true e5, decide_eq_true e4, decide_eq_true e3, decide_eq_false e2, rfl, fun x hx => by cases hx⟩) (fpLarge_run2 (decide (fpWd ((fpQ - a % fpQ) % fpQ) 2 < fpWd (a % fpQ) 2)))
    have e : decide ((fpQ - a % fpQ) % fpQ < a % fpQ) = decide (fpWd ((fpQ - a % fpQ) % fpQ) 2 < fpWd (a % fpQ) 2) := by
      rw [decide_eq_decide]
      have := b1 0; have := b2 0; have := b1 1; have := b2 1; have := b1 2; have := b2 2; have := b1 3; have := b2 3; have := b1 4; have := b2 4; have := b1 5; have := b2 5
      omega
    rw [e]
    exact h
  by_cases e1 : fpWd (a % fpQ) 1 = fpWd ((fpQ - a % fpQ) % fpQ) 1
  rotate_left
  · have h := go _ _ (by simp only [List.forall_mem_cons]; exact ⟨decide_eq_true e5, decide_eq_true e4, decide_eq_true e3, decide_eq_true e2, decide_eq_false e1, rfl, fun x hx => by cases hx⟩) (fpLarge_run1 (decide (fpWd ((fpQ - a % fpQ) % fpQ) 1 < fpWd (a % fpQ) 1)))
    have e : decide ((fpQ - a % fpQ) % fpQ < a % fpQ) = decide (fpWd ((fpQ - a % fpQ) % fpQ) 1 < fpWd (a % fpQ) 1) := by
      rw [decide_eq_decide]
      have := b1 0; have := b2 0; have := b1 1; have := b2 1; have := b1 2; have := b2 2; have := b1 3; have := b2 3; have := b1 4; have := b2 4; have := b1 5; have := b2 5
      omega
    rw [e]
    exact h
  by_cases e0 : fpWd (a % fpQ) 0 = fpWd ((fpQ - a % fpQ) % fpQ) 0
  rotate_left
  · have h := go _ _ (by simp only [List.forall_mem_cons]; exact ⟨decide_eq_true e5, decide_eq_true e4, decide_eq_true e3, decide_eq_true e2, decide_eq_true e1, decide_eq_false e0, rfl, fun x hx => by cases hx⟩) (fpLarge_run0 (decide (fpWd ((fpQ - a % fpQ) % fpQ) 0 < fpWd (a % fpQ) 0)))
    have e : decide ((fpQ - a % fpQ) % fpQ < a % fpQ) = decide (fpWd ((fpQ - a % fpQ) % fpQ) 0 < fpWd (a % fpQ) 0) := by
      rw [decide_eq_decide]
      have := b1 0; have := b2 0; have := b1 1; have := b2 1; have := b1 2; have := b2 2; have := b1 3; have := b2 3; have := b1 4; have := b2 4; have := b1 5; have := b2 5
      omega
    rw [e]
    exact h
  · have h := go _ _ (by simp only [List.forall_mem_cons]; exact ⟨decide_eq_true e5, decide_eq_true e4, decide_eq_true e3, decide_eq_true e2, decide_eq_true e1, decide_eq_true e0, fun x hx => by cases hx⟩) fpLarge_run
    have e : decide ((fpQ - a % fpQ) % fpQ < a % fpQ) = false := decide_eq_false (by omega)
    rw [e]
    exact h
end Go.Proofs.YtkeommkcjigioaaDoor
