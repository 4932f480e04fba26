/- Package fr: Read, Inv; functions that are run where they are called. Conditions: those of each theorem. -/
import Derived.Test.YtpinopjnlcbipaaDoorVFrB
namespace Go.Proofs.YtpinopjnlcbipaaDoor.V
open Go.RowKit Sx
set_option linter.unusedVariables false

theorem mixed : Tryd.prog.follows .mixedOrders = true := by kernel_rfl
theorem inv_ex : ∃ f : Nat → Nat, ∀ a, f a = a ^ frI := ⟨fun a => a ^ frI, fun _ => rfl⟩
theorem sqr_ex : ∃ f : Nat → Nat, ∀ a, f a = a ^ frS := ⟨fun a => a ^ frS, fun _ => rfl⟩

theorem bool_post {D : Den} {f : FuncId} {vs : List Value} {w : World} {b : Bool} (h : Calls Tryd.prog f vs.toArray w fun e w' => ∃ v, e = .returned v ∧ Below w.heap.size w w' ∧ (boolR b).Is D w.heap.size w' v) :
    Calls Tryd.prog f vs.toArray w fun e w' => e = .returned (.bool b) ∧ Below w.heap.size w w' :=
  h.mono fun e w' ⟨v, h1, h2, h3⟩ => by
    injection h3 with h3; injection h3 with h3; subst h3
    exact ⟨h1, h2⟩

def hArg (i : Nat) : RV := .h (.op 20 (.dt i) (.dt 0))

/-- an argument: a row of bytes -/
theorem hArg_ok {R : Ev} {w : World} {A : Option Addr} {n c i : Nat} (hr : Rd w A (nums .u8 (R.bys i))) (hl : (R.bys i).length = n) (hc : n ≤ c) (hlt : ∀ g, blk A = some g → g < w.heap.size) : (hArg i).Is (frDenS R) 0 w (.slice A n c) := by
  subst hl
  exact ⟨.inl ⟨.dt i, .dt 0, rfl, A, c, rfl, hr, hc, hlt⟩, fun g _ => Nat.zero_le g⟩

def rows (ls : List (List Nat)) (i : Nat) : List Nat := ls.getD i []

theorem rows_ok {ls : List (List Nat)} (h : ∀ l ∈ ls, l.length ≤ 140737488355328 ∧ ∀ x ∈ l, x < 256) (i : Nat) : (rows ls i).length ≤ 140737488355328 ∧ ∀ x ∈ rows ls i, x < 256 := by
  unfold rows
  by_cases hi : i < ls.length
  · have : ls.getD i [] = ls[i] := by simp [List.getD, hi]
    rw [this]
    exact h _ (List.getElem_mem _)
  · have : ls.getD i [] = [] := by simp [List.getD, List.getElem?_eq_none (Nat.le_of_not_lt hi)]
    rw [this]
    exact ⟨Nat.zero_le _, fun x hx => by cases hx⟩

/-- is the row's number below the modulus? -/
def ltOf : List (E × Bool) → E → Option Bool
  | [], _ => none
  | (x, b) :: r, e => match E.eqb x e with
    | true => some b
    | false => ltOf r e

theorem ltOf_ok {R : Ev} : ∀ {T : List (E × Bool)} (hT : ∀ x ∈ T, decide (be (R.row x.1) < frQ) = x.2) {e : E} {b : Bool} (h : ltOf T e = some b), decide (be (R.row e) < frQ) = b
  | [], hT, e, b, h => by cases h
  | (x, c) :: r, hT, e, b, h => by
    unfold ltOf at h
    split at h
    · rename_i he
      injection h with h; subst h
      rw [← E.eqb_eq he]
      exact hT (x, c) (by simp)
    · exact ltOf_ok (fun y hy => hT y (List.mem_cons_of_mem _ hy)) h

/-- what Read answers of a row -/
def frReadR (L N : List (Nat × Nat)) (T : List (E × Bool)) (e : E) : Option Res := match lenRow L e with
  | some 32 => match ltOf T e with
    | some true => some (.tup [.dt (.agg [.el (.op 7 e (.dt 0))]), .dt (.one (.int .i64 0))])
    | some false => some (.tup [.dt (.agg (u64s [0, 0, 0, 0])), .dt (.one (.int .i64 12))])
    | none => none
  | _ => match e with
    | .dt i => match find N i with
      | some 32 => some (.tup [.dt (.agg (u64s [0, 0, 0, 0])), .dt (.one (.int .i64 10))])
      | _ => none
    | _ => none

/-- Read of a row; of a number's own bytes -/
def frReadE (X : Fx) : Entry
  | [.held (.op 20 a _)] => frReadR X.lens X.nlens X.lts a
  | [.view [.el (.op 10 a _)]] => match isFr a with
    | true => some (.tup [.dt (.agg [.el a]), .dt (.one (.int .i64 0))])
    | false => none
  | _ => none

theorem frReadE_ok {R : Ev} (hR : R.Ok) {X : Fx} (hX : FrTold R X) : EntryOk (frDenS R) FrTab 26 (frReadE X) := by
  refine ⟨by kernel_rfl, fun cs r hr σ w vs hv hI => ?_⟩
  unfold frReadE at hr
  split at hr
  · rename_i a b
    obtain ⟨v, ws, rfl, hh20, h4⟩ := hv
    obtain ⟨A, c, rfl, h1, h2, h3⟩ := hold20 hh20
    have h4 : ws = [] := h4
    subst h4
    have hc := fr_read_calls A (R.row a) _ c w hI h1 rfl h2 (hR.rows a).1 (hR.rows a).2 h3
    have nought : (V.agg (u64s [0, 0, 0, 0])).Is (frDenS R) Env.empty (frE 0) := ⟨_, u64s_cells _ _ _, by rw [frE_zero]; rfl⟩
    unfold frReadR at hr
    split at hr
    · rename_i hl
      have hlen := lenRow_ok hX.lens hl
      split at hr
      · rename_i ht
        injection hr with hr; subst hr
        have hlt : be (R.row a) < frQ := of_decide_eq_true (ltOf_ok hX.lts ht)
        have e : frReadN (R.row a) = (be (R.row a), 0) := by unfold frReadN; rw [if_pos hlen, if_pos hlt]
        rw [e] at hc
        refine hc.mono fun x w' ⟨h5, h6⟩ => ⟨_, h5, h6, _, rfl, _, _, rfl, ⟨_, rfl, ?_⟩, _, _, rfl, rfl, rfl⟩
        show frE (be (R.row a)) = .agg (frDen R (.op 7 a (.dt 0)) ++ []).toArray
        rw [List.append_nil, isFr_den rfl, frEv_wide, ← frCells_ok]
      · rename_i ht
        injection hr with hr; subst hr
        have hlt : ¬ be (R.row a) < frQ := of_decide_eq_false (ltOf_ok hX.lts ht)
        have e : frReadN (R.row a) = (0, 12) := by unfold frReadN; rw [if_pos hlen, if_neg hlt]
        rw [e] at hc
        exact hc.mono fun x w' ⟨h5, h6⟩ => ⟨_, h5, h6, _, rfl, _, _, rfl, nought, _, _, rfl, rfl, rfl⟩
      · cases hr
    · split at hr
      · rename_i i hno
        split at hr
        · rename_i hn
          injection hr with hr; subst hr
          have hne : ¬ (R.row (.dt i)).length = 32 := hX.nlens _ (find_mem hn)
          have e : frReadN (R.row (.dt i)) = (0, 10) := by unfold frReadN; rw [if_neg hne]
          rw [e] at hc
          exact hc.mono fun x w' ⟨h5, h6⟩ => ⟨_, h5, h6, _, rfl, _, _, rfl, nought, _, _, rfl, rfl, rfl⟩
        · cases hr
      · cases hr
  · rename_i a b
    cases ha : isFr a with
    | false => rw [ha] at hr; cases hr
    | true =>
      rw [ha] at hr
      injection hr with hr; subst hr
      obtain ⟨v, ws, rfl, ⟨bk, o, c, l, rfl, hlc, h1, h2, h3⟩, h4⟩ := hv
      have h4 : ws = [] := h4
      subst h4
      have h1 : some (nums .u8 (digs 32 (frEv R a % frQ)) ++ []) = some l := h1
      injection h1 with h1
      rw [List.append_nil] at h1
      subst h1
      have hlt : frEv R a % frQ < frQ := Nat.mod_lt _ (by decide)
      have hbe : be (digs 32 (frEv R a % frQ)) = frEv R a % frQ := by
        rw [be_digs, Nat.mod_eq_of_lt (Nat.lt_trans hlt (by decide))]
      have hrd : Rd w (some ⟨bk, o, none⟩) (nums .u8 (digs 32 (frEv R a % frQ))) := .inr ⟨bk, o, rfl, h2, h3⟩
      have hlen : (nums .u8 (digs 32 (frEv R a % frQ))).length = 32 := by rw [nums_length, digs_length]
      rw [hlen] at hlc ⊢
      have hc := fr_read_calls (some ⟨bk, o, none⟩) (digs 32 (frEv R a % frQ)) 32 c w hI hrd (digs_length _ _) hlc (by omega) (digs_lt _ _) (fun g hg => by injection hg with hg; subst hg; exact h2)
      have e : frReadN (digs 32 (frEv R a % frQ)) = (frEv R a % frQ, 0) := by
        unfold frReadN
        rw [if_pos (digs_length _ _), hbe, if_pos hlt]
      rw [e] at hc
      refine hc.mono fun x w' ⟨h5, h6⟩ => ⟨_, h5, h6, _, rfl, _, _, rfl, ⟨_, rfl, ?_⟩, _, _, rfl, rfl, rfl⟩
      show frE (frEv R a % frQ) = .agg (frDen R a ++ []).toArray
      rw [List.append_nil, isFr_den ha, frE_mod, ← frCells_ok]
  · cases hr

theorem fr_invR {R : Ev} (hR : R.Ok) (a : Nat) (w : World) (ht : FrTab w) :
    Calls Tryd.prog 24 #[frE a] w fun e w' => e = .returned (frE (R.inv a)) ∧ Below w.heap.size w w' := by
  rw [hR.inv]
  exact fr_inv_calls a w ht

/-- the functions of the package, powers as well -/
def frPows (X : Fx) : List (Nat × Entry) := (24, frUn 5) :: frLow X.eqs

theorem frPows_ok {R : Ev} {X : Fx} (hR : R.Ok) (hX : FrTold R X) : ∀ x ∈ frPows X, EntryOk (frDenS R) FrTab x.1 x.2 := by
  unfold frPows
  simp only [List.forall_mem_cons]
  exact ⟨frUn_ok rfl (by kernel_rfl) R.inv (frEv_inv R) (fr_invR hR), frLow_ok hR hX.eqs⟩

abbrev lE (n : Nat) : E := .op 0 (.dt n) (.dt 0)
abbrev nE (a : E) : E := .op 4 a (.dt 0)
abbrev sE (a : E) : E := .op 6 a (.dt 0)

def caRV : CArg → Option RV
  | .dt (.one a) => match a.free with
    | true => some (.dt (.one a))
    | false => none
  | .dt (.agg xs) => match freeL xs with
    | true => some (.dt (.agg xs))
    | false => none
  | .held e => some (.h e)
  | .view _ => none

def casRV : List CArg → Option (List RV)
  | [] => some []
  | c :: cs => match caRV c, casRV cs with
    | some r, some rs => some (r :: rs)
    | _, _ => none

theorem caRV_ok {D : Den} {σ : Env} {w : World} {c : CArg} {r : RV} {v : Value} (h : caRV c = some r) (hv : c.Is D σ w v) : r.Is D 0 w v := by
  unfold caRV at h
  split at h
  · split at h
    · rename_i hf
      injection h with h; subst h
      exact Atom.free_ok hf hv
    · cases h
  · split at h
    · rename_i hf
      injection h with h; subst h
      obtain ⟨l, h1, h2⟩ := hv
      exact ⟨l, freeL_ok hf h1, h2⟩
    · cases h
  · injection h with h; subst h
    exact ⟨hv, fun g _ => Nat.zero_le g⟩
  · cases h

theorem casRV_ok {D : Den} {σ : Env} {w : World} : ∀ {cs : List CArg} {rs : List RV} {vs : List Value}, casRV cs = some rs → ArgsIs D σ w cs vs → RVsIs D 0 w rs vs
  | [], rs, vs, h, hv => by injection h with h; subst h; exact hv
  | c :: cs, rs, vs, h, hv => by
    unfold casRV at h
    split at h
    · rename_i r rs' h1 h2
      injection h with h; subst h
      obtain ⟨v, ws, rfl, h3, h4⟩ := hv
      exact ⟨v, ws, rfl, caRV_ok h1 h3, casRV_ok h2 h4⟩
    · cases h

/-- a function that is run where it is called -/
def inlE (P : Program) (X : Fx) (l : List (Nat × Entry)) (fn : Func) : Entry := fun cs => match casRV cs with
  | some ins => runFn P (frTable X l) 400 fn ins
  | none => none

theorem inlE_ok {R : Ev} {X : Fx} {l : List (Nat × Entry)} {f : FuncId} {fn : Func} (hX : FrTold R X) (hl : ∀ x ∈ l, EntryOk (frDenS R) FrTab x.1 x.2) (hg : isGo Tryd.prog f = true) (hf : Tryd.prog.funcs[f]? = some fn) :
    EntryOk (frDenS R) FrTab f (inlE Tryd.prog X l fn) := by
  refine ⟨hg, fun cs r hr σ w vs hv hI => ?_⟩
  unfold inlE at hr
  split at hr
  · rename_i ins hc
    exact calls_run (frRight hX hl) mixed hf hr (casRV_ok hc hv) fun w' hb => hI.below hb
  · cases hr

end Go.Proofs.YtpinopjnlcbipaaDoor.V
