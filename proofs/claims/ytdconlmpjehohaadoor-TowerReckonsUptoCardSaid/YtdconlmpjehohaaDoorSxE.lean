/- A symbolic run of straight code, part 5: regions. Conditions: those of each theorem. -/
import Derived.Test.YtdconlmpjehohaaDoorSxD
namespace Go.Proofs.YtdconlmpjehohaaDoor.Sx
open Go.RowKit
set_option linter.unusedVariables false

def rem {α : Type} (n : Nat) : List (Nat × α) → List (Nat × α)
  | [] => []
  | (k, x) :: r => match Nat.beq k n with
    | true => rem n r
    | false => (k, x) :: rem n r

theorem find_rem {α : Type} {n t : Nat} {y : α} : ∀ {l : List (Nat × α)}, find (rem n l) t = some y → t ≠ n ∧ find l t = some y
  | [], h => by cases h
  | (k, x) :: r, h => by
    simp only [rem] at h
    cases hb : Nat.beq k n with
    | true =>
      rw [hb] at h
      obtain ⟨h1, h2⟩ := find_rem h
      refine ⟨h1, ?_⟩
      have e := Nat.eq_of_beq_eq_true hb
      subst e
      simp only [find]
      cases hc : Nat.beq k t with
      | true => exact absurd (Nat.eq_of_beq_eq_true hc).symm h1
      | false => exact h2
    | false =>
      rw [hb] at h
      rcases find_cons h with ⟨h1, h2⟩ | ⟨h1, h2⟩
      · subst h1 h2
        exact ⟨Nat.ne_of_beq_eq_false hb, by simp [find]⟩
      · obtain ⟨h3, h4⟩ := find_rem h2
        refine ⟨h3, ?_⟩
        simp only [find]
        cases hc : Nat.beq k t with
        | true => exact absurd (Nat.eq_of_beq_eq_true hc) h1
        | false => exact h4

theorem find_rem_of {α : Type} {n t : Nat} {y : α} : ∀ {l : List (Nat × α)}, find l t = some y → t ≠ n → find (rem n l) t = some y
  | [], h, _ => by cases h
  | (k, x) :: r, h, hn => by
    simp only [rem]
    cases hb : Nat.beq k n with
    | true =>
      have e := Nat.eq_of_beq_eq_true hb
      rcases find_cons h with ⟨h1, h2⟩ | ⟨h1, h2⟩
      · exact absurd (h1.symm.trans e) hn
      · exact find_rem_of h2 hn
    | false =>
      rcases find_cons h with ⟨h1, h2⟩ | ⟨h1, h2⟩
      · subst h1 h2; simp [find]
      · have := find_rem_of h2 hn
        simp only [find]
        cases hc : Nat.beq k t with
        | true => exact absurd (Nat.eq_of_beq_eq_true hc) h1
        | false => exact this

theorem find_append {α : Type} {t : Nat} {y : α} : ∀ {l m : List (Nat × α)}, find (l ++ m) t = some y → (t, y) ∈ l ∨ find m t = some y
  | [], m, h => .inr h
  | (k, x) :: r, m, h => by
    rcases find_cons h with ⟨h1, h2⟩ | ⟨h1, h2⟩
    · subst h1 h2; exact .inl (by simp)
    · rcases find_append h2 with h3 | h3
      · exact .inl (List.mem_cons_of_mem _ h3)
      · exact .inr h3

def Eff.nil : Eff := ⟨none, none, [], none⟩

def St.put (s : St) (u : Nat) (dst : Option Tmp) (f : Eff) : St where
  env := match dst with
    | some d => match f.val with
      | some x => (d, x) :: s.env
      | none => rem d s.env
    | none => s.env
  mem := match f.st with
    | some e => e :: s.mem
    | none => match f.blk with
      | some (ty, as) => (u, ty, as) :: s.mem
      | none => s.mem
  hs := match f.st with
    | some _ => s.hs
    | none => f.hld ++ s.hs

def dstOk (n : Nat) : Option Tmp → Bool
  | some d => Nat.blt d n
  | none => true

section
variable {P : Program} {D : Den} {k0 n : Nat} {F F' : Nat → Prop} {w0 : World} {s : St} {σ σ' : Env} {a : Act} {w w' : World} {I : World → Prop} {tab : Tab} {base : Nat}

theorem put_size (a : Act) (dst : Option Tmp) (v : Value) : (a.put dst v).tmps.size = a.tmps.size := by cases dst <;> simp [Act.put]
theorem put_defers (a : Act) (dst : Option Tmp) (v : Value) : (a.put dst v).defers = a.defers := by cases dst <;> rfl
theorem put_same (a : Act) (d : Tmp) (v : Value) (h : d < a.tmps.size) : (a.put (some d) v).tmps.getD d undef = v := by simp [Act.put, h]
theorem put_other (a : Act) (d t : Tmp) (v : Value) (h : t ≠ d) : (a.put (some d) v).tmps.getD t undef = a.tmps.getD t undef := by
  simp [Act.put, Array.getElem?_setIfInBounds_ne (Ne.symm h)]

theorem Ok.weaken (h : Ok D k0 n F w0 s σ a w) {s1 : St} (h1 : ∀ t x, find s1.env t = some x → find s.env t = some x) (h2 : ∀ t x, find s1.mem t = some x → find s.mem t = some x) (h3 : ∀ t x, find s1.hs t = some x → find s.hs t = some x) : Ok D k0 n F w0 s1 σ a w :=
  { h with tmps := fun t x hx => h.tmps t x (h1 t x hx), mem := fun k ty as hx => h.mem k ty as (h2 k _ hx), hs := fun i e hx => h.hs i e (h3 i e hx) }

theorem Ok.fewer (h : Ok D k0 n F w0 s σ a w) (hF : ∀ u, F' u → F u) : Ok D k0 n F' w0 s σ a w := { h with fresh := fun u hu => h.fresh u (hF u hu) }

theorem setRow_keep {e : E} {v : Value} (h : D.hold e v w) {g : Nat} (hg : ∀ k, v.ownBlock = some k → k ≠ g) (cs : Array Value) : D.hold e v (w.setRow g cs) :=
  D.keep e v w _ h (by simp) fun k hk => setRow_other w g k cs (hg k hk)

theorem Ok.step {u : Nat} {f : Eff} {v : Value} {dst : Option Tmp} (h : Ok D k0 n F w0 s σ a w) (hA : After D u f σ w σ' w' v) (hF : ∀ x, F' x → F x ∧ x ≠ u) (hd : dstOk n dst = true) : Ok D k0 n F' w0 (s.put u dst f) σ' (a.put dst v) w' := by
  have hold' : ∀ i x g, σ'.hld i = some x → x.ownBlock = some g → (σ.hld i = some x ∧ g < w.heap.size) ∨ (g < w'.heap.size ∧ σ'.blk u ≠ some g ∧ (w.heap.size ≤ g ∨ (16 ≤ i % 32 ∧ ∃ i' v', σ.hld i' = some v' ∧ v'.ownBlock = some g))) := by
    intro i x g h1 h2
    cases e : σ.hld i with
    | none => exact .inr (hA.newH i x g h1 e h2)
    | some y =>
      have := hA.le.h _ _ e
      rw [this] at h1; injection h1 with h1; subst h1
      exact .inl ⟨rfl, h.hlt i y g e h2⟩
  have hsize : w.heap.size ≤ w'.heap.size := by
    have := hA.world
    split at this
    · exact this.size
    · obtain ⟨g, l, old, _, _, _, rfl⟩ := this; simp
  refine { size := by rw [put_size]; exact h.size, defers := by rw [put_defers]; exact h.defers, tmps := ?_, mem := ?_, hs := ?_, base := ?_, inj := ?_, apart := ?_, hlt := ?_, new := ?_, below := ?_, fresh := ?_ }
  · intro t x hx
    cases dst with
    | none => exact T.Is_mono hA.le (h.tmps t x hx)
    | some d =>
      have hdn : d < a.tmps.size := by rw [h.size]; exact Nat.le_of_ble_eq_true hd
      simp only [St.put] at hx
      cases hv : f.val with
      | none =>
        rw [hv] at hx
        obtain ⟨h1, h2⟩ := find_rem hx
        rw [put_other a d t v h1]
        exact T.Is_mono hA.le (h.tmps t x h2)
      | some y =>
        rw [hv] at hx
        rcases find_cons hx with ⟨h1, h2⟩ | ⟨h1, h2⟩
        · subst h1 h2
          rw [put_same a d v hdn]
          exact hA.val _ hv
        · rw [put_other a d t v (Ne.symm h1)]
          exact T.Is_mono hA.le (h.tmps t x h2)
  · intro k ty as hx
    have hw := hA.world
    simp only [St.put] at hx
    split at hw
    · rename_i hst
      rw [hst] at hx
      have old : find s.mem k = some (ty, as) → ∃ g l, σ'.blk k = some g ∧ cellsL D σ' as = some l ∧ w'.heap[g]? = some (.cells l.toArray ty (0, 0)) := fun hx => by
        obtain ⟨g, l, h1, h2, h3⟩ := h.mem k ty as hx
        exact ⟨g, l, hA.le.b _ _ h1, cellsL_mono hA.le h2, (hw.block g (h.base k g h1).2).trans h3⟩
      cases hb : f.blk with
      | none => rw [hb] at hx; exact old hx
      | some q =>
        obtain ⟨ty', as'⟩ := q
        rw [hb] at hx
        rcases find_cons hx with ⟨h1, h2⟩ | ⟨h1, h2⟩
        · injection h2 with h2 h3; subst h1 h2 h3
          exact hA.blk _ _ hb
        · exact old h2
    · rename_i b ty' as' hst
      rw [hst] at hx
      obtain ⟨g, l, cur, h1, h2, h3, rfl⟩ := hw
      rcases find_cons hx with ⟨h4, h5⟩ | ⟨h4, h5⟩
      · injection h5 with h5 h6; subst h4 h5 h6
        exact ⟨g, l, hA.le.b _ _ h1, cellsL_mono hA.le h2, setRow_heap w g cur _ _ _ h3⟩
      · obtain ⟨g', l', h6, h7, h8⟩ := h.mem k ty as h5
        have hne : g' ≠ g := fun e => h4 (h.inj _ _ _ h1 (e ▸ h6))
        exact ⟨g', l', hA.le.b _ _ h6, cellsL_mono hA.le h7, (setRow_other w g g' _ hne).trans h8⟩
  · intro i e hx
    have hw := hA.world
    simp only [St.put] at hx
    split at hw
    · rename_i hst
      rw [hst] at hx
      rcases find_append hx with h1 | h1
      · exact hA.hld i e h1
      · obtain ⟨x, h2, h3⟩ := h.hs i e h1
        exact ⟨x, hA.le.h _ _ h2, D.keep e x w w' h3 hw.size fun g hg => hw.block g (h.hlt i x g h2 hg)⟩
    · rename_i b ty' as' hst
      rw [hst] at hx
      obtain ⟨g, l, cur, h1, h2, h3, rfl⟩ := hw
      obtain ⟨x, h4, h5⟩ := h.hs i e hx
      exact ⟨x, hA.le.h _ _ h4, setRow_keep h5 (fun k hk he => h.apart i x k b h4 hk (he ▸ h1)) _⟩
  · intro k g hk
    by_cases e : k = u
    · subst e
      have := hA.newB g hk
      have := h.below.size
      omega
    · rw [hA.onlyB k e] at hk
      have := h.base k g hk
      omega
  · intro k k' g h1 h2
    by_cases e : k = u
    · by_cases e' : k' = u
      · rw [e, e']
      · subst e
        rw [hA.onlyB k' e'] at h2
        have := hA.newB g h1
        have := h.base k' g h2
        omega
    · by_cases e' : k' = u
      · subst e'
        rw [hA.onlyB k e] at h1
        have := hA.newB g h2
        have := h.base k g h1
        omega
      · rw [hA.onlyB k e] at h1
        rw [hA.onlyB k' e'] at h2
        exact h.inj _ _ _ h1 h2
  · intro i x g k h1 h2 h3
    rcases hold' i x g h1 h2 with ⟨h4, h5⟩ | ⟨h4, h5, h6⟩
    · by_cases e : k = u
      · subst e
        have := hA.newB g h3
        omega
      · rw [hA.onlyB k e] at h3
        exact h.apart i x g k h4 h2 h3
    · by_cases e : k = u
      · subst e; exact h5 h3
      · rw [hA.onlyB k e] at h3
        have := h.base k g h3
        rcases h6 with h6 | ⟨_, i', v', h7, h8⟩
        · omega
        · exact h.apart i' v' g k h7 h8 h3
  · intro i x g h1 h2
    rcases hold' i x g h1 h2 with ⟨h4, h5⟩ | ⟨h4, h5, h6⟩
    · omega
    · exact h4
  · intro i x g hk hk4 h1 h2
    cases e : σ.hld i with
    | none =>
      have := h.below.size
      rcases (hA.newH i x g h1 e h2).2.2 with h6 | ⟨h6, _⟩ <;> omega
    | some y =>
      have := hA.le.h _ _ e
      rw [this] at h1; injection h1 with h1; subst h1
      exact h.new i y g hk hk4 e h2
  · have hw := hA.world
    split at hw
    · exact h.below.trans (hw.mono h.below.size)
    · obtain ⟨g, l, cur, h1, h2, h3, rfl⟩ := hw
      exact Below.row h.below (h.base _ _ h1).1 _
  · intro x hx
    obtain ⟨h1, h2⟩ := hF x hx
    obtain ⟨h3, h4⟩ := h.fresh x h1
    refine ⟨by rw [hA.onlyB x h2]; exact h3, fun i h5 h6 => ?_⟩
    rw [hA.onlyH i (by omega)]
    exact h4 i h5 h6

theorem After.weak {u : Nat} {f : Eff} {v : Value} (h : After D u f σ w σ' w' v) (hst : f.st = none) : After D u Eff.nil σ w σ' w' v :=
  { h with val := fun _ h => (by cases h), blk := fun _ _ h => (by cases h), hld := fun _ _ h => (by cases h), world := (by have := h.world; rw [hst] at this; exact this) }

theorem After.idle {u : Nat} (hu : σ.blk u = none) (v : Value) : After D u Eff.nil σ w σ w v where
  le := σ.le_refl
  onlyB := fun _ _ => rfl
  onlyH := fun _ _ => rfl
  newB := fun g hg => by rw [hu] at hg; cases hg
  newH := fun i v g h1 h2 _ => by rw [h1] at h2; cases h2
  val := fun _ h => by cases h
  blk := fun _ _ h => by cases h
  hld := fun _ _ h => by cases h
  world := Below.refl _ _

/-- is the operation wanted? -/
def guardOf (ops : Array Oper) (s : St) (o : Oper) : Option Bool := match o.guard with
  | none => some true
  | some (j, want) => match ops[j]? with
    | some oj => match oj.dst with
      | some d => match boolOf (find s.env d) with
        | some b => some (match b, want with
          | true, true => true
          | false, false => true
          | _, _ => false)
        | none => none
      | none => none
    | none => none

theorem guardOf_ok (h : Ok D k0 n F w0 s σ a w) {ops : Array Oper} {o : Oper} {b : Bool} (hg : guardOf ops s o = some b) : Region.wanted o (yielded ops a.tmps) = b := by
  unfold guardOf at hg
  unfold Region.wanted
  cases ho : o.guard with
  | none => rw [ho] at hg; injection hg with hg
  | some jw =>
    obtain ⟨j, want⟩ := jw
    rw [ho] at hg
    dsimp only at hg ⊢
    cases hj : ops[j]? with
    | none => rw [hj] at hg; cases hg
    | some oj =>
      rw [hj] at hg
      dsimp only at hg
      cases hd : oj.dst with
      | none => rw [hd] at hg; cases hg
      | some d =>
        rw [hd] at hg
        dsimp only at hg
        cases hb : boolOf (find s.env d) with
        | none => rw [hb] at hg; cases hg
        | some c =>
          rw [hb] at hg
          injection hg with hg
          have hv : a.tmps.getD d undef = .bool c := boolOf_ok (x := .tmp d) h hb
          have hlt : d < a.tmps.size := by
            rcases Nat.lt_or_ge d a.tmps.size with h' | h'
            · exact h'
            · simp [Array.getElem?_eq_none h', undef] at hv
          have hv' : a.tmps[d]? = some (.bool c) := by simp [hlt] at hv ⊢; exact hv
          have : yielded ops a.tmps j = some c := by simp [yielded, hj, hd, hv']
          rw [this]
          subst hg
          cases c <;> cases want <;> rfl

def runOps (P : Program) (tab : Tab) (n : Nat) (ops : Array Oper) : List Oper → Nat → St → Option St
  | [], u, s => some s
  | o :: r, u, s => match dstOk n o.dst with
    | true => match guardOf ops s o with
      | some true => match step P tab s u o.op with
        | some f => runOps P tab n ops r (u + 1) (s.put u o.dst f)
        | none => none
      | some false => runOps P tab n ops r (u + 1) (s.put u o.dst Eff.nil)
      | none => none
    | false => none

theorem runOps_ok (R : Right P D I tab) (hI : ∀ w, Below w0.heap.size w0 w → I w) {ops : Array Oper} {Q : Exit → Act → World → Prop} : ∀ {l : List Oper} {u : Nat} {s s' : St} {σ : Env} {a : Act} {w : World},
    Ok D k0 n (u ≤ ·) w0 s σ a w → runOps P tab n ops l u s = some s' → (∀ σ' a' w', Ok D k0 n (u + l.length ≤ ·) w0 s' σ' a' w' → Q .normal a' w') → wpList P ops Q l a w
  | [], u, s, s', σ, a, w, h, hr, hQ => by
    injection hr with hr; subst hr
    exact hQ σ a w h
  | o :: r, u, s, s', σ, a, w, h, hr, hQ => by
    simp only [runOps] at hr
    cases hd : dstOk n o.dst with
    | false => rw [hd] at hr; cases hr
    | true =>
      rw [hd] at hr
      dsimp only at hr
      obtain ⟨hu, hh⟩ := h.fresh u (Nat.le_refl u)
      have hQ' : ∀ σ' a' w', Ok D k0 n (u + 1 + r.length ≤ ·) w0 s' σ' a' w' → Q .normal a' w' := fun σ' a' w' h' => hQ σ' a' w' (h'.fewer fun x hx => by simp only [List.length_cons] at hx; omega)
      cases hg : guardOf ops s o with
      | none => rw [hg] at hr; cases hr
      | some b =>
        rw [hg] at hr
        have hw := guardOf_ok h hg
        simp only [wpList, hw]
        cases b with
        | true =>
          dsimp only at hr
          cases hs : step P tab s u o.op with
          | none => rw [hs] at hr; cases hr
          | some f =>
            rw [hs] at hr
            exact .inl (step_ok R (hI w h.below) h hu hh hs fun σ' w' v hA => runOps_ok R hI (h.step hA (fun x hx => ⟨by omega, by omega⟩) hd) hr hQ')
        | false =>
          exact runOps_ok R hI (h.step (After.idle hu undef) (fun x hx => ⟨by omega, by omega⟩) hd) hr hQ'

end
end Go.Proofs.YtdconlmpjehohaaDoor.Sx
