/- A symbolic run of straight code, part 7: bodies of functions. Conditions: those of each theorem. -/
import Derived.Test.YtdconlmpjehohaaDoorSxF
namespace Go.Proofs.YtdconlmpjehohaaDoor.Sx
open Go.RowKit
set_option linter.unusedVariables false

inductive Ex where
  | normal
  | exit (id : Nat)
  | ret

def Ex.as : Ex → Exit
  | .normal => .normal
  | .exit id => .exit id
  | .ret => .ret

/-- what is known, reckoned out (in the kernel nothing is reckoned out that is not looked at) -/
def forceN {β : Type} (n : Nat) (k : Nat → β) : β := match n with
  | 0 => k 0
  | m + 1 => k (m + 1)

def forceI {β : Type} (i : Int) (k : Int → β) : β := match i with
  | .ofNat n => forceN n fun n => k (.ofNat n)
  | .negSucc n => forceN n fun n => k (.negSucc n)

def forceE {β : Type} : E → (E → β) → β
  | .dt i, k => forceN i fun i => k (.dt i)
  | .op c a b, k => forceN c fun c => forceE a fun a => forceE b fun b => k (.op c a b)

def forceA {β : Type} (a : Atom) (k : Atom → β) : β := match a with
  | .bool b => match b with
    | true => k (.bool true)
    | false => k (.bool false)
  | .int kd n => forceI n fun n => k (.int kd n)
  | .el e => forceE e fun e => k (.el e)
  | .ptr b o => forceN b fun b => forceN o fun o => k (.ptr b o)
  | .slc b o n c => forceN b fun b => forceN o fun o => forceN n fun n => forceN c fun c => k (.slc b o n c)
  | .nils => k .nils
  | .held i => forceN i fun i => k (.held i)
  | .gl g => forceN g fun g => k (.gl g)
  | .hp i j => forceN i fun i => forceN j fun j => k (.hp i j)

def forceAs {β : Type} : List Atom → (List Atom → β) → β
  | [], k => k []
  | a :: as, k => forceA a fun a => forceAs as fun as => k (a :: as)

def forceV {β : Type} (x : V) (k : V → β) : β := match x with
  | .one a => forceA a fun a => k (.one a)
  | .agg as => forceAs as fun as => k (.agg as)

def forceVs {β : Type} : List V → (List V → β) → β
  | [], k => k []
  | a :: as, k => forceV a fun a => forceVs as fun as => k (a :: as)

def forceT {β : Type} (x : T) (k : T → β) : β := match x with
  | .dt x => forceV x fun x => k (.dt x)
  | .tup xs => forceVs xs fun xs => k (.tup xs)

/-- each name once -/
def forceEnv {β : Type} : List (Nat × T) → Nat → (List (Nat × T) → β) → β
  | [], _, k => k []
  | (t, x) :: r, m, k => match Nat.testBit m t with
    | true => forceEnv r m k
    | false => forceN t fun t => forceT x fun x => forceEnv r (Nat.lor m (Nat.shiftLeft 1 t)) fun l => k ((t, x) :: l)

def forceMem {β : Type} : List (Nat × TypeId × List Atom) → Nat → (List (Nat × TypeId × List Atom) → β) → β
  | [], _, k => k []
  | (t, ty, as) :: r, m, k => match Nat.testBit m t with
    | true => forceMem r m k
    | false => forceN t fun t => forceN ty fun ty => forceAs as fun as => forceMem r (Nat.lor m (Nat.shiftLeft 1 t)) fun l => k ((t, ty, as) :: l)

def forceHs {β : Type} : List (Nat × E) → (List (Nat × E) → β) → β
  | [], k => k []
  | (t, x) :: r, k => forceN t fun t => forceE x fun x => forceHs r fun l => k ((t, x) :: l)

def forceSt {β : Type} (s : St) (k : St → β) : β := forceEnv s.env 0 fun e => forceMem s.mem 0 fun m => forceHs s.hs fun h => k ⟨e, m, h⟩

section
variable {β : Type}
theorem forceN_eq (n : Nat) (k : Nat → β) : forceN n k = k n := by cases n <;> rfl
theorem forceI_eq (i : Int) (k : Int → β) : forceI i k = k i := by cases i <;> simp only [forceI, forceN_eq]
theorem forceE_eq : ∀ (e : E) (k : E → β), forceE e k = k e
  | .dt i, k => by rw [forceE, forceN_eq]
  | .op c a b, k => by rw [forceE, forceN_eq, forceE_eq a, forceE_eq b]
theorem forceA_eq (a : Atom) (k : Atom → β) : forceA a k = k a := by
  cases a with
  | bool b => cases b <;> rfl
  | int kd n => simp only [forceA, forceI_eq]
  | el e => simp only [forceA, forceE_eq]
  | ptr b o => simp only [forceA, forceN_eq]
  | slc b o n c => simp only [forceA, forceN_eq]
  | nils => rfl
  | held i => simp only [forceA, forceN_eq]
  | gl g => simp only [forceA, forceN_eq]
  | hp i j => simp only [forceA, forceN_eq]
theorem forceAs_eq : ∀ (l : List Atom) (k : List Atom → β), forceAs l k = k l
  | [], k => rfl
  | a :: l, k => by rw [forceAs, forceA_eq, forceAs_eq l]
theorem forceV_eq (x : V) (k : V → β) : forceV x k = k x := by
  cases x with
  | one a => simp only [forceV, forceA_eq]
  | agg l => simp only [forceV, forceAs_eq]
theorem forceVs_eq : ∀ (l : List V) (k : List V → β), forceVs l k = k l
  | [], k => rfl
  | a :: l, k => by rw [forceVs, forceV_eq, forceVs_eq l]
theorem forceT_eq (x : T) (k : T → β) : forceT x k = k x := by
  cases x with
  | dt x => simp only [forceT, forceV_eq]
  | tup l => simp only [forceT, forceVs_eq]
theorem forceHs_eq : ∀ (l : List (Nat × E)) (k : List (Nat × E) → β), forceHs l k = k l
  | [], k => rfl
  | (t, x) :: l, k => by rw [forceHs, forceN_eq, forceE_eq, forceHs_eq l]
end

theorem testBit_add {m t s : Nat} (h : Nat.testBit (Nat.lor m (Nat.shiftLeft 1 t)) s = false) : Nat.testBit m s = false := by
  have h : Nat.testBit (m ||| (1 <<< t)) s = false := h
  rw [Nat.testBit_or] at h
  simp only [Bool.or_eq_false_iff] at h
  exact h.1

theorem find_other {α : Type} {t s : Nat} {x : α} {l : List (Nat × α)} (h : t ≠ s) : find ((t, x) :: l) s = find l s := by
  simp only [find]
  cases hb : Nat.beq t s with
  | true => exact absurd (Nat.eq_of_beq_eq_true hb) h
  | false => rfl

theorem find_same {α : Type} {t : Nat} {x : α} {l : List (Nat × α)} : find ((t, x) :: l) t = some x := by simp [find]

theorem forceEnv_ok : ∀ (l : List (Nat × T)) (m : Nat), ∃ l', (∀ (β : Type) (k : List (Nat × T) → β), forceEnv l m k = k l') ∧ ∀ t y, find l' t = some y → find l t = some y ∧ Nat.testBit m t = false
  | [], m => ⟨[], fun _ _ => rfl, fun t y h => by cases h⟩
  | (t, x) :: r, m => by
    cases hb : Nat.testBit m t with
    | true =>
      obtain ⟨l', h1, h2⟩ := forceEnv_ok r m
      refine ⟨l', fun β k => by rw [forceEnv, hb]; exact h1 β k, fun s y h => ?_⟩
      obtain ⟨h3, h4⟩ := h2 s y h
      exact ⟨by rw [find_other (fun e => by subst e; rw [hb] at h4; cases h4)]; exact h3, h4⟩
    | false =>
      obtain ⟨l', h1, h2⟩ := forceEnv_ok r (Nat.lor m (Nat.shiftLeft 1 t))
      refine ⟨(t, x) :: l', fun β k => by rw [forceEnv, hb]; simp only [forceN_eq, forceT_eq, h1], fun s y h => ?_⟩
      rcases find_cons h with ⟨h3, h4⟩ | ⟨h3, h4⟩
      · subst h3 h4; exact ⟨find_same, hb⟩
      · obtain ⟨h5, h6⟩ := h2 s y h4
        exact ⟨by rw [find_other h3]; exact h5, testBit_add h6⟩

theorem forceMem_ok : ∀ (l : List (Nat × TypeId × List Atom)) (m : Nat), ∃ l', (∀ (β : Type) (k : List (Nat × TypeId × List Atom) → β), forceMem l m k = k l') ∧ ∀ t y, find l' t = some y → find l t = some y ∧ Nat.testBit m t = false
  | [], m => ⟨[], fun _ _ => rfl, fun t y h => by cases h⟩
  | (t, ty, as) :: r, m => by
    cases hb : Nat.testBit m t with
    | true =>
      obtain ⟨l', h1, h2⟩ := forceMem_ok r m
      refine ⟨l', fun β k => by rw [forceMem, hb]; exact h1 β k, fun s y h => ?_⟩
      obtain ⟨h3, h4⟩ := h2 s y h
      exact ⟨by rw [find_other (fun e => by subst e; rw [hb] at h4; cases h4)]; exact h3, h4⟩
    | false =>
      obtain ⟨l', h1, h2⟩ := forceMem_ok r (Nat.lor m (Nat.shiftLeft 1 t))
      refine ⟨(t, ty, as) :: l', fun β k => by rw [forceMem, hb]; simp only [forceN_eq, forceAs_eq, h1], fun s y h => ?_⟩
      rcases find_cons h with ⟨h3, h4⟩ | ⟨h3, h4⟩
      · subst h3 h4; exact ⟨find_same, hb⟩
      · obtain ⟨h5, h6⟩ := h2 s y h4
        exact ⟨by rw [find_other h3]; exact h5, testBit_add h6⟩

theorem forceSt_ok (s : St) : ∃ s' : St, (∀ (β : Type) (k : St → β), forceSt s k = k s') ∧ (∀ t x, find s'.env t = some x → find s.env t = some x) ∧ (∀ t x, find s'.mem t = some x → find s.mem t = some x) ∧ (∀ t x, find s'.hs t = some x → find s.hs t = some x) := by
  obtain ⟨e, h1, h2⟩ := forceEnv_ok s.env 0
  obtain ⟨m, h3, h4⟩ := forceMem_ok s.mem 0
  exact ⟨⟨e, m, s.hs⟩, fun β k => by rw [forceSt, h1]; simp only [h3, forceHs_eq], fun t x h => (h2 t x h).1, fun t x h => (h4 t x h).1, fun t x h => h⟩

def runCode (P : Program) (tab : Tab) (n : Nat) : Nat → Code → Nat → St → Option (Ex × Nat × St)
  | 0, _, _, _ => none
  | k + 1, c, u, s => match c with
    | .skip => some (.normal, u, s)
    | .label _ => some (.normal, u, s)
    | .exit id => some (.exit id, u, s)
    | .ret => some (.ret, u, s)
    | .region _ ops dr => match dr with
      | true => match runDraw P tab n ops u s with
        | some s' => some (.normal, u + ops.toList.length, s')
        | none => none
      | false => match runOps P tab n ops ops.toList u s with
        | some s' => some (.normal, u + ops.toList.length, s')
        | none => none
    | .seq x y => match runCode P tab n k x u s with
      | some (.normal, u', s') => runCode P tab n k y u' s'
      | r => r
    | .cond o x y => match boolOf (opnd s o) with
      | some true => runCode P tab n k x u s
      | some false => runCode P tab n k y u s
      | none => none
    | .block id x => match runCode P tab n k x u s with
      | some (.exit j, u', s') => match Nat.beq j id with
        | true => some (.normal, u', s')
        | false => some (.exit j, u', s')
      | r => r
    | .loop x => match runCode P tab n k x u s with
      | some (.normal, u', s') => forceSt s' fun s' => forceN u' fun u' => runCode P tab n k (.loop x) u' s'
      | r => r
    | .scope x => runCode P tab n k x u s
    | _ => none

section
variable {P : Program} {D : Den} {k0 n : Nat} {F F' : Nat → Prop} {w0 : World} {σ : Env} {a : Act} {w : World} {I : World → Prop} {tab : Tab}

theorem runCode_ok (R : Right P D I tab) (hI : ∀ w, Below w0.heap.size w0 w → I w) (hm : P.follows .mixedOrders = true) : ∀ (k : Nat),
    (∀ (c : Code) (u : Nat) (s : St) (x : Ex) (u' : Nat) (s' : St) (σ : Env) (a : Act) (w : World) (Q : Exit → Act → World → Prop), Ok D k0 n (u ≤ ·) w0 s σ a w → runCode P tab n k c u s = some (x, u', s') →
      (∀ σ' a' w', Ok D k0 n (u' ≤ ·) w0 s' σ' a' w' → Q x.as a' w') → c.wp P Q a w) ∧
    (∀ (c : Code) (u : Nat) (s : St) (x : Ex) (u' : Nat) (s' : St) (σ : Env) (a : Act) (w : World) (Q : Exit → Act → World → Prop), Ok D k0 n (u ≤ ·) w0 s σ a w → runCode P tab n k (.loop c) u s = some (x, u', s') →
      (∀ σ' a' w', Ok D k0 n (u' ≤ ·) w0 s' σ' a' w' → Q x.as a' w') → Code.rounds P c Q k a w)
  | 0 => ⟨fun c u s x u' s' σ a w Q h hr => (by cases hr), fun c u s x u' s' σ a w Q h hr => (by cases hr)⟩
  | k + 1 => by
    obtain ⟨ih1, ih2⟩ := runCode_ok R hI hm k
    have two : (∀ (c : Code) (u : Nat) (s : St) (x : Ex) (u' : Nat) (s' : St) (σ : Env) (a : Act) (w : World) (Q : Exit → Act → World → Prop), Ok D k0 n (u ≤ ·) w0 s σ a w → runCode P tab n (k + 1) (.loop c) u s = some (x, u', s') →
      (∀ σ' a' w', Ok D k0 n (u' ≤ ·) w0 s' σ' a' w' → Q x.as a' w') → Code.rounds P c Q (k + 1) a w) := by
      intro c u s x u' s' σ a w Q h hr hQ
      simp only [runCode] at hr
      rw [rounds_succ]
      split at hr
      · rename_i u1 s1 h1
        obtain ⟨s2, e0, e1, e2, e3⟩ := forceSt_ok s1
        rw [e0, forceN_eq] at hr
        exact ih1 c u s .normal u1 s1 σ a w _ h h1 fun σ' a' w' h' => ih2 c u1 s2 x u' s' σ' a' w' Q (h'.weaken e1 e2 e3) hr hQ
      · rename_i hne
        refine ih1 c u s x u' s' σ a w _ h hr fun σ' a' w' h' => ?_
        cases x with
        | normal => exact absurd hr (hne _ _)
        | exit id => exact hQ σ' a' w' h'
        | ret => exact hQ σ' a' w' h'
    refine ⟨?_, two⟩
    intro c u s x u' s' σ a w Q h hr hQ
    cases c with
    | skip =>
      injection hr with hr; injection hr with e1 hr; injection hr with e2 e3; subst e1 e2 e3
      exact wp_skip (hQ σ a w h)
    | label l =>
      injection hr with hr; injection hr with e1 hr; injection hr with e2 e3; subst e1 e2 e3
      exact wp_label (hQ σ a w h)
    | exit id =>
      injection hr with hr; injection hr with e1 hr; injection hr with e2 e3; subst e1 e2 e3
      exact wp_exit (hQ σ a w h)
    | ret =>
      injection hr with hr; injection hr with e1 hr; injection hr with e2 e3; subst e1 e2 e3
      exact wp_ret (hQ σ a w h)
    | region id ops dr =>
      simp only [runCode] at hr
      cases dr with
      | true =>
        dsimp only at hr
        cases hd : runDraw P tab n ops u s with
        | none => rw [hd] at hr; cases hr
        | some t =>
          rw [hd] at hr
          injection hr with hr; injection hr with e1 hr; injection hr with e2 e3; subst e1 e2 e3
          have hdr : Ok D k0 n (u ≤ ·) w0 s σ a { w with drawn := w.drawn + 1 } :=
            ⟨h.size, h.defers, h.tmps, h.mem, fun i e he => by
              obtain ⟨v, h1, h2⟩ := h.hs i e he
              exact ⟨v, h1, D.keep e v w _ h2 (Nat.le_refl _) fun _ _ => rfl⟩, h.base, h.inj, h.apart, h.hlt, h.new, h.below.drew, h.fresh⟩
          exact wp_region_any hm (runDraw_ok R hI hdr hd fun σ' a' w' h' => hQ σ' a' w' (h'.fewer fun x hx => by simpa using hx))
      | false =>
        dsimp only at hr
        cases hd : runOps P tab n ops ops.toList u s with
        | none => rw [hd] at hr; cases hr
        | some t =>
          rw [hd] at hr
          injection hr with hr; injection hr with e1 hr; injection hr with e2 e3; subst e1 e2 e3
          exact wp_region_list (runOps_ok R hI h hd hQ)
    | seq y z =>
      simp only [runCode] at hr
      refine wp_seq ?_
      split at hr
      · rename_i u1 s1 h1
        exact ih1 y u s .normal u1 s1 σ a w _ h h1 fun σ' a' w' h' => ih1 z u1 s1 x u' s' σ' a' w' Q h' hr hQ
      · rename_i hne
        refine ih1 y u s x u' s' σ a w _ h hr fun σ' a' w' h' => ?_
        cases x with
        | normal => exact absurd hr (hne _ _)
        | exit id => exact hQ σ' a' w' h'
        | ret => exact hQ σ' a' w' h'
    | cond o y z =>
      simp only [runCode] at hr
      cases hb : boolOf (opnd s o) with
      | none => rw [hb] at hr; cases hr
      | some b =>
        rw [hb] at hr
        refine wp_cond (boolOf_ok h hb) ?_
        cases b with
        | true => exact ih1 y u s x u' s' σ a w Q h hr hQ
        | false => exact ih1 z u s x u' s' σ a w Q h hr hQ
    | block id y =>
      simp only [runCode] at hr
      refine wp_block ?_
      split at hr
      · rename_i j u1 s1 h1
        cases hj : Nat.beq j id with
        | true =>
          rw [hj] at hr
          have e := Nat.eq_of_beq_eq_true hj
          injection hr with hr; injection hr with e1 hr; injection hr with e2 e3; subst e1 e2 e3
          refine ih1 y u s (.exit j) u1 s1 σ a w _ h h1 fun σ' a' w' h' => ?_
          simp only [Ex.as, Exit.inBlock, e, if_true]
          exact hQ σ' a' w' h'
        | false =>
          rw [hj] at hr
          have e := Nat.ne_of_beq_eq_false hj
          injection hr with hr; injection hr with e1 hr; injection hr with e2 e3; subst e1 e2 e3
          refine ih1 y u s (.exit j) u1 s1 σ a w _ h h1 fun σ' a' w' h' => ?_
          simp only [Ex.as, Exit.inBlock, if_neg e]
          exact hQ σ' a' w' h'
      · rename_i hne
        refine ih1 y u s x u' s' σ a w _ h hr fun σ' a' w' h' => ?_
        cases x with
        | normal => exact hQ σ' a' w' h'
        | exit id => exact absurd hr (hne _ _ _)
        | ret => exact hQ σ' a' w' h'
    | loop y =>
      exact wp_loop_rounds (k + 1) (two y u s x u' s' σ a w Q h hr hQ)
    | scope y =>
      refine wp_scope_straight (ih1 y u s x u' s' σ a w _ h hr fun σ' a' w' h' => ?_)
      cases x with
      | normal => exact hQ σ' a' w' h'
      | exit id => exact hQ σ' a' w' h'
      | ret => exact hQ σ' a' w' h'
    | _ => simp [runCode] at hr

end

/-- what does not hang on places -/
def Atom.free : Atom → Bool
  | .bool _ => true
  | .int _ _ => true
  | .el _ => true
  | .nils => true
  | _ => false

def freeL : List Atom → Bool
  | [] => true
  | a :: as => match a.free with
    | true => freeL as
    | false => false

/-- a struct's parts as a result -/
def mixBack (k0 : Nat) (s : St) : List Atom → Option (List MA)
  | [] => some []
  | .held i :: as => match Nat.ble k0 i && Nat.blt (i % 32) 16, find s.hs i, mixBack k0 s as with
    | true, some e, some ms => some (.hd e :: ms)
    | _, _, _ => none
  | a :: as => match a.free, mixBack k0 s as with
    | true, some ms => some (.at_ a :: ms)
    | _, _ => none

def rvBack (k0 : Nat) (s : St) : V → Option RV
  | .one (.held i) => match Nat.ble k0 i && Nat.blt (i % 32) 16 with
    | true => match find s.hs i with
      | some e => some (.h e)
      | none => none
    | false => none
  | .one a => match a.free with
    | true => some (.dt (.one a))
    | false => none
  | .agg as => match freeL as with
    | true => some (.dt (.agg as))
    | false => match mixBack k0 s as with
      | some ms => some (.mix ms)
      | none => none

def resultOf (P : Program) (wid : E → Nat) (k0 : Nat) (s : St) : ResultVar → Option RV
  | .tmp t => match find s.env t with
    | some (.dt x) => rvBack k0 s x
    | _ => none
  | .cell p ty => match ptrOf (find s.env p) with
    | some (b, o) => match find s.mem b with
      | some (_, as) => match partOf P wid as o ty with
        | some x => rvBack k0 s x
        | none => none
      | none => none
    | none => none

def resultsOf (P : Program) (wid : E → Nat) (k0 : Nat) (s : St) : List ResultVar → Option (List RV)
  | [] => some []
  | r :: rs => match resultOf P wid k0 s r, resultsOf P wid k0 s rs with
    | some x, some xs => some (x :: xs)
    | _, _ => none

def slotsOf : Nat → List V → List (Nat × T)
  | _, [] => []
  | i, x :: xs => (i, .dt x) :: slotsOf (i + 1) xs

def runFn (P : Program) (tab : Tab) (fuel : Nat) (fn : Func) (ins : List RV) : Option Res := match fn.body with
  | some c => match Nat.ble ins.length fn.ntmps, Nat.ble (cntR ins) 32 with
    | true, true => match runCode P tab fn.ntmps fuel c 1 ⟨slotsOf 0 (rvsOf 0 ins).1, [], (rvsOf 0 ins).2⟩ with
      | some (.exit _, _, _) => none
      | some (_, _, s) => match resultsOf P tab.wid 32 s fn.results.toList with
        | some [r] => some (.one r)
        | some rs => some (.tup rs)
        | none => none
      | none => none
    | _, _ => none
  | none => none

section
variable {P : Program} {D : Den} {k0 n : Nat} {F F' : Nat → Prop} {w0 : World} {s : St} {σ : Env} {a : Act} {w : World} {I : World → Prop} {tab : Tab}

theorem Atom.free_ok {x : Atom} (h : x.free = true) {l : List Value} (hx : x.cells D σ = some l) : x.cells D Env.empty = some l := by
  cases x <;> first | exact hx | cases h

theorem freeL_ok : ∀ {as : List Atom} {l : List Value}, freeL as = true → cellsL D σ as = some l → cellsL D Env.empty as = some l
  | [], l, h, hl => hl
  | x :: as, l, h, hl => by
    simp only [freeL] at h
    cases hx : x.free with
    | false => rw [hx] at h; cases h
    | true =>
      rw [hx] at h
      obtain ⟨y, z, h1, h2, rfl⟩ := cellsL_cons hl
      exact cellsL_mk (Atom.free_ok hx h1) (freeL_ok h h2)

theorem mixBack_at (h : Ok D k0 n F w0 s σ a w) {x : Atom} {as : List Atom} {ms : List MA} {l : List Value} (hm : (match x.free, mixBack k0 s as with
    | true, some ms => some (.at_ x :: ms)
    | _, _ => none) = some ms) (hl : cellsL D σ (x :: as) = some l) (ih : ∀ {ms l}, mixBack k0 s as = some ms → cellsL D σ as = some l → MAsIs D Env.empty w (fun v => ∀ g, v.ownBlock = some g → w0.heap.size ≤ g) ms l) : MAsIs D Env.empty w (fun v => ∀ g, v.ownBlock = some g → w0.heap.size ≤ g) ms l := by
  obtain ⟨y, z, h1, h2, rfl⟩ := cellsL_cons hl
  split at hm
  · rename_i ms' hf hms
    injection hm with hm; subst hm
    exact ⟨y, z, rfl, Atom.free_ok hf h1, ih hms h2⟩
  · cases hm

theorem mixBack_ok (h : Ok D k0 n F w0 s σ a w) : ∀ {as : List Atom} {ms : List MA} {l : List Value}, mixBack k0 s as = some ms → cellsL D σ as = some l → MAsIs D Env.empty w (fun v => ∀ g, v.ownBlock = some g → w0.heap.size ≤ g) ms l
  | [], ms, l, hm, hl => by
    injection hm with hm; subst hm
    injection hl with hl; subst hl
    rfl
  | .held i :: as, ms, l, hm, hl => by
    simp only [mixBack] at hm
    obtain ⟨x, y, h1, h2, rfl⟩ := cellsL_cons hl
    split at hm
    · rename_i e ms' hb he hms
      injection hm with hm; subst hm
      simp only [Bool.and_eq_true] at hb
      obtain ⟨v, hv, hh⟩ := h.hs i e he
      simp only [Atom.cells, hv] at h1
      injection h1 with h1; subst h1
      exact ⟨v, y, rfl, hh, fun g hg => h.new i v g (Nat.le_of_ble_eq_true hb.1) (Nat.le_of_ble_eq_true hb.2) hv hg, mixBack_ok h hms h2⟩
    · cases hm
  | .bool b :: as, ms, l, hm, hl => mixBack_at h hm hl (fun hm h2 => mixBack_ok h hm h2)
  | .int k n :: as, ms, l, hm, hl => mixBack_at h hm hl (fun hm h2 => mixBack_ok h hm h2)
  | .el e :: as, ms, l, hm, hl => mixBack_at h hm hl (fun hm h2 => mixBack_ok h hm h2)
  | .ptr b o :: as, ms, l, hm, hl => by
    have hm : (none : Option (List MA)) = some ms := hm
    cases hm
  | .slc b o n c :: as, ms, l, hm, hl => by
    have hm : (none : Option (List MA)) = some ms := hm
    cases hm
  | .nils :: as, ms, l, hm, hl => mixBack_at h hm hl (fun hm h2 => mixBack_ok h hm h2)
  | .gl g :: as, ms, l, hm, hl => by
    have hm : (none : Option (List MA)) = some ms := hm
    cases hm
  | .hp i j :: as, ms, l, hm, hl => by
    have hm : (none : Option (List MA)) = some ms := hm
    cases hm

theorem mixBack_no : ∀ {as : List Atom} {ms : List MA}, mixBack k0 s as = some ms → noVw ms = true
  | [], ms, hm => by injection hm with hm; subst hm; rfl
  | .held i :: as, ms, hm => by
    simp only [mixBack] at hm
    split at hm
    · rename_i e ms' hb he hms
      injection hm with hm; subst hm
      show noVw ms' = true
      exact mixBack_no (as := as) hms
    · cases hm
  | .bool b :: as, ms, hm => mixBack_noA (x := .bool b) hm (fun h => mixBack_no (as := as) h)
  | .int k n :: as, ms, hm => mixBack_noA (x := .int k n) hm (fun h => mixBack_no (as := as) h)
  | .el e :: as, ms, hm => mixBack_noA (x := .el e) hm (fun h => mixBack_no (as := as) h)
  | .nils :: as, ms, hm => mixBack_noA (x := .nils) hm (fun h => mixBack_no (as := as) h)
  | .ptr b o :: as, ms, hm => by
    have hm : (none : Option (List MA)) = some ms := hm
    cases hm
  | .slc b o n c :: as, ms, hm => by
    have hm : (none : Option (List MA)) = some ms := hm
    cases hm
  | .gl g :: as, ms, hm => by
    have hm : (none : Option (List MA)) = some ms := hm
    cases hm
  | .hp i j :: as, ms, hm => by
    have hm : (none : Option (List MA)) = some ms := hm
    cases hm
where
  mixBack_noA {x : Atom} {as : List Atom} {ms : List MA} (hm : (match x.free, mixBack k0 s as with
    | true, some ms => some (.at_ x :: ms)
    | _, _ => none) = some ms) (ih : ∀ {ms}, mixBack k0 s as = some ms → noVw ms = true) : noVw ms = true := by
    split at hm
    · rename_i ms' hf hms
      injection hm with hm; subst hm
      show noVw ms' = true
      exact ih hms
    · cases hm

theorem rvBack_ok (h : Ok D k0 n F w0 s σ a w) {x : V} {v : Value} (hx : x.Is D σ v) {r : RV} (hr : rvBack k0 s x = some r) : r.Is D w0.heap.size w v := by
  unfold rvBack at hr
  split at hr
  · rename_i i
    cases hb : (Nat.ble k0 i && Nat.blt (i % 32) 16) with
    | false => rw [hb] at hr; cases hr
    | true =>
      rw [hb] at hr
      simp only [Bool.and_eq_true] at hb
      dsimp only at hr
      cases hf : find s.hs i with
      | none => rw [hf] at hr; cases hr
      | some e =>
        rw [hf] at hr
        injection hr with hr; subst hr
        obtain ⟨y, h1, h2⟩ := h.hs i e hf
        simp only [V.Is, Atom.cells, h1] at hx
        injection hx with hx; injection hx with hx; subst hx
        exact ⟨h2, fun g hg => h.new i y g (Nat.le_of_ble_eq_true hb.1) (Nat.le_of_ble_eq_true hb.2) h1 hg⟩
  · rename_i y hy
    cases hf : y.free with
    | false => rw [hf] at hr; cases hr
    | true =>
      rw [hf] at hr
      injection hr with hr; subst hr
      exact Atom.free_ok hf hx
  · rename_i as
    cases hf : freeL as with
    | false =>
      rw [hf] at hr
      dsimp only at hr
      split at hr
      · rename_i ms hms
        injection hr with hr; subst hr
        obtain ⟨l, h1, h2⟩ := hx
        exact ⟨l, h2, mixBack_no hms, mixBack_ok h hms h1⟩
      · cases hr
    | true =>
      rw [hf] at hr
      injection hr with hr; subst hr
      obtain ⟨l, h1, h2⟩ := hx
      exact ⟨l, freeL_ok hf h1, h2⟩

def resSem (tmps : Array Value) : ResultVar → Sem Value
  | .tmp t => pure (tmps.getD t undef)
  | .cell p ty => do loadVar ty (← asAddr (tmps.getD p undef))

theorem resultOf_ok (h : Ok D k0 n F w0 s σ a w) {r : ResultVar} {x : RV} (hr : resultOf P D.wid k0 s r = some x) :
    ∃ v, (resSem a.tmps r).run P w = .ok v w ∧ x.Is D w0.heap.size w v := by
  cases r with
  | tmp t =>
    simp only [resultOf] at hr
    split at hr
    · rename_i y hy
      exact ⟨_, rfl, rvBack_ok h (h.tmps t _ hy) hr⟩
    · cases hr
  | cell p ty =>
    simp only [resultOf] at hr
    split at hr
    · rename_i b o hp
      split at hr
      · rename_i q mt as hm
        split at hr
        · rename_i y hy
          obtain ⟨g, hg, he⟩ := ptrOf_ok (x := .tmp p) h hp
          obtain ⟨g', l, hg', hl, hrow⟩ := h.mem b mt as hm
          rw [hg] at hg'; injection hg' with hg'; subst hg'
          obtain ⟨v, hv, hi⟩ := partOf_load (P := P) rfl hy hl hrow
          refine ⟨v, ?_, rvBack_ok h hi hr⟩
          have he' : a.tmps.getD p undef = .pointer (some ⟨g, o, none⟩) := he
          simp only [resSem, he', asAddr, Sem.run_bind, Sem.run_pure, Result.andThen_ok]
          exact hv
        · cases hr
      · cases hr
    · cases hr

theorem resultsOf_ok (h : Ok D k0 n F w0 s σ a w) : ∀ {rs : List ResultVar} {xs : List RV}, resultsOf P D.wid k0 s rs = some xs →
    ∃ vs, (rs.mapM (resSem a.tmps)).run P w = .ok vs w ∧ RVsIs D w0.heap.size w xs vs
  | [], xs, hr => by injection hr with hr; subst hr; exact ⟨[], rfl, rfl⟩
  | r :: rs, xs, hr => by
    simp only [resultsOf] at hr
    split at hr
    · rename_i x ys h1 h2
      injection hr with hr; subst hr
      obtain ⟨v, hv, hi⟩ := resultOf_ok (P := P) h h1
      obtain ⟨vs, hvs, his⟩ := resultsOf_ok h h2
      refine ⟨v :: vs, ?_, v, vs, rfl, hi, his⟩
      rw [List.mapM_cons]
      simp only [Sem.run_bind]
      rw [hv]
      simp only [Result.andThen_ok, hvs, Sem.run_pure]
    · cases hr

theorem run_results {fn : Func} {tmps : Array Value} {vs : List Value} (h : (fn.results.toList.mapM (resSem tmps)).run P w = .ok vs w) :
    (results fn tmps).run P w = .ok (if h : vs.length = 1 then vs[0] else .tuple vs.toArray) w := by
  have e : results fn tmps = (do
      let vs ← fn.results.mapM (resSem tmps)
      pure (if h : vs.size = 1 then vs[0] else .tuple vs)) := by
    unfold results
    congr 2
  rw [e, Sem.run_bind, Array.mapM_eq_mapM_toList, Sem.run_map, h]
  simp only [Result.andThen_ok, Sem.run_pure]
  congr 1

theorem slotsOf_ok : ∀ {xs : List V} {vs : List Value} {i t : Nat} {x : T}, IsL D σ xs vs → find (slotsOf i xs) t = some x → ∃ j, t = i + j ∧ j < vs.length ∧ x.Is D σ (vs.getD j undef)
  | [], vs, i, t, x, h, hf => by cases hf
  | y :: ys, vs, i, t, x, h, hf => by
    obtain ⟨v, ws, rfl, h1, h2⟩ := h
    rcases find_cons hf with ⟨e1, e2⟩ | ⟨e1, e2⟩
    · subst e1 e2; exact ⟨0, rfl, by simp, h1⟩
    · obtain ⟨j, h3, h4, h5⟩ := slotsOf_ok h2 e2
      exact ⟨j + 1, by omega, by simp; omega, by simpa using h5⟩

theorem RVsIs_len : ∀ {rs : List RV} {vs : List Value} {b : Nat}, RVsIs D b w rs vs → vs.length = rs.length
  | [], vs, b, h => by rw [h]; rfl
  | r :: rs, vs, b, h => by
    obtain ⟨v, ws, rfl, _, h2⟩ := h
    simp [RVsIs_len h2]

theorem mixOf_len : ∀ {ms : List MA} {k i : Nat} {e : E}, (i, e) ∈ (mixOf k ms).2 → k ≤ i ∧ i < k + cntM ms
  | [], k, i, e, h => by cases h
  | .at_ a :: ms, k, i, e, h => mixOf_len (ms := ms) h
  | .vw xs :: ms, k, i, e, h => mixOf_len (ms := ms) h
  | .hd e' :: ms, k, i, e, h => by
    simp only [mixOf, List.mem_cons] at h
    simp only [cntM]
    rcases h with h | h
    · injection h with e1 e2; omega
    · have := mixOf_len h
      omega

theorem rvsOf_len : ∀ {rs : List RV} {k i : Nat} {e : E}, (i, e) ∈ (rvsOf k rs).2 → k ≤ i ∧ i < k + cntR rs
  | [], k, i, e, h => by cases h
  | r :: rs, k, i, e, h => by
    simp only [rvsOf, List.mem_append] at h
    simp only [cntR]
    rcases h with h | h
    · cases r with
      | dt x => cases h
      | h e' => simp [rvOf] at h; simp only [RV.cnt]; omega
      | mix ms =>
        have := mixOf_len (show (i, e) ∈ (mixOf k ms).2 from h)
        simp only [RV.cnt]; omega
    · have := rvsOf_len h
      omega

theorem find_mem {α : Type} {t : Nat} {y : α} : ∀ {l : List (Nat × α)}, find l t = some y → (t, y) ∈ l
  | [], h => by cases h
  | (k, x) :: r, h => by
    rcases find_cons h with ⟨h1, h2⟩ | ⟨h1, h2⟩
    · subst h1 h2; simp
    · exact List.mem_cons_of_mem _ (find_mem h2)

/-- a function's body, run -/
theorem calls_run (R : Right P D I tab) (hm : P.follows .mixedOrders = true) {f : FuncId} {fn : Func} (hf : P.funcs[f]? = some fn) {fuel : Nat} {ins : List RV} {r : Res} (hr : runFn P tab fuel fn ins = some r)
    {vs : List Value} (hv : RVsIs D 0 w ins vs) (hI : ∀ w', Below w.heap.size w w' → I w') :
    Calls P f vs.toArray w fun e w' => ∃ v, e = .returned v ∧ Below w.heap.size w w' ∧ r.Is D w.heap.size w' v := by
  unfold runFn at hr
  cases hb : fn.body with
  | none => rw [hb] at hr; cases hr
  | some c =>
    rw [hb] at hr
    dsimp only at hr
    split at hr
    · rename_i hn h8
      have hn := Nat.le_of_ble_eq_true hn
      have h8 := Nat.le_of_ble_eq_true h8
      have hlen := RVsIs_len hv
      obtain ⟨σ, a1, a2, a3, a4, a5, a6⟩ := rvsOf_ok (base := 0) (k := 0) (σ := Env.empty) hv (fun _ _ _ => rfl)
      have hok : Ok D 32 fn.ntmps (1 ≤ ·) w ⟨slotsOf 0 (rvsOf 0 ins).1, [], (rvsOf 0 ins).2⟩ σ { tmps := vs.toArray ++ Array.replicate (fn.ntmps - vs.toArray.size) undef, defers := [] } w := by
        refine ⟨by simp; omega, rfl, fun t x hx => ?_, fun k ty as hx => (by cases hx), fun i e he => a5 i e (find_mem he), fun k g hg => (by rw [a2] at hg; cases hg), fun k k' g hg => (by rw [a2] at hg; cases hg), fun i v g k h1 h2 h3 => (by rw [a2] at h3; cases h3), fun i v g h1 h2 => (a6 i v g h1 rfl h2).2, fun i v g hk _ h1 h2 => ?_, Below.refl _ _, fun u hu => ⟨by rw [a2]; rfl, fun i h1 h2 => ?_⟩⟩
        · obtain ⟨j, rfl, h2, h3⟩ := slotsOf_ok a4 hx
          have : (vs.toArray ++ Array.replicate (fn.ntmps - vs.toArray.size) undef).getD (0 + j) undef = vs.getD j undef := by
            simp [Array.getElem?_append, h2, List.getD]
          rw [this]; exact h3
        · rw [a3 i (by omega)] at h1; cases h1
        · rw [a3 i (by omega)]; rfl
      refine calls_of_wp hf hb ?_
      have fin : ∀ (x : Ex) (u' : Nat) (s' : St), runCode P tab fn.ntmps fuel c 1 ⟨slotsOf 0 (rvsOf 0 ins).1, [], (rvsOf 0 ins).2⟩ = some (x, u', s') → (x = .normal ∨ x = .ret) →
          (match resultsOf P tab.wid 32 s' fn.results.toList with
            | some [r] => some (Res.one r)
            | some rs => some (.tup rs)
            | none => none) = some r →
          c.wp P (bodyPost P fn fun e w' => ∃ v, e = .returned v ∧ Below w.heap.size w w' ∧ r.Is D w.heap.size w' v) { tmps := vs.toArray ++ Array.replicate (fn.ntmps - vs.toArray.size) undef, defers := [] } w := by
        intro x u' s' hrun hx hres
        refine (runCode_ok R hI hm fuel).1 c 1 _ x u' s' σ _ w _ hok hrun fun σ' a' w' h' => ?_
        have key : a'.defers = [] ∧ ∃ v, (results fn a'.tmps).run P w' = .ok v w' ∧ ∃ v', Ending.returned v = .returned v' ∧ Below w.heap.size w w' ∧ r.Is D w.heap.size w' v' := by
          refine ⟨h'.defers, ?_⟩
          rw [R.wid] at hres
          cases hrs : resultsOf P D.wid 32 s' fn.results.toList with
          | none => rw [hrs] at hres; cases hres
          | some xs =>
            rw [hrs] at hres
            obtain ⟨us, h1, h2⟩ := resultsOf_ok (P := P) h' hrs
            have hlen2 := RVsIs_len h2
            refine ⟨_, run_results h1, _, rfl, h'.below, ?_⟩
            split at hres
            · rename_i y heq
              injection heq with heq; subst heq
              injection hres with hres; subst hres
              obtain ⟨v, ws, rfl, h3, h4⟩ := h2
              have : ws = [] := h4
              subst this
              exact h3
            · rename_i ys hne heq
              injection heq with heq; subst heq
              injection hres with hres; subst hres
              have hl : ¬ us.length = 1 := by
                intro e
                rw [hlen2] at e
                match xs, e with
                | [y], _ => exact hne y rfl
              rw [dif_neg hl]
              exact ⟨us, rfl, h2⟩
            · rename_i heq; cases heq
        rcases hx with rfl | rfl
        · exact key
        · exact key
      split at hr
      · cases hr
      · rename_i x u' s' hne hrun
        refine fin x u' s' hrun ?_ hr
        cases x with
        | normal => exact .inl rfl
        | ret => exact .inr rfl
        | exit id => exact absurd rfl (hne id)
      · cases hr
    · cases hr
end

end Go.Proofs.YtdconlmpjehohaaDoor.Sx
