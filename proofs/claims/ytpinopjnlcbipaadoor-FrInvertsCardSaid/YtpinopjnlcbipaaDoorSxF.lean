/- A symbolic run of straight code, part 6: regions that draw their order. Conditions: those of each theorem. -/
import Derived.Test.YtpinopjnlcbipaaDoorSxE
namespace Go.Proofs.YtpinopjnlcbipaaDoor.Sx
open Go.RowKit
set_option linter.unusedVariables false

def St.add (s : St) (u : Nat) (dst : Option Tmp) (f : Eff) : St where
  env := match dst, f.val with
    | some d, some x => (d, x) :: s.env
    | _, _ => s.env
  mem := match f.blk with
    | some (ty, as) => (u, ty, as) :: s.mem
    | none => s.mem
  hs := f.hld ++ s.hs

def addL (s : St) (u0 : Nat) (fs : List (Option Tmp × Eff)) : List Nat → Option St
  | [] => some s
  | j :: js => match fs[j]?, addL s u0 fs js with
    | some (d, f), some s' => some (s'.add (u0 + j) d f)
    | _, _ => none

def depsOf (o : Oper) : List Nat := o.after.toList.filterMap fun e => match Region.binds .any e with
  | true => some e.on
  | false => none

def effsL (P : Program) (tab : Tab) (n : Nat) (ops : Array Oper) (s0 : St) (u0 : Nat) : List Oper → Nat → List (Option Tmp × Eff) → Option (List (Option Tmp × Eff))
  | [], i, fs => some fs
  | o :: r, i, fs => match dstOk n o.dst with
    | true => match addL s0 u0 fs (depsOf o) with
      | some s => match guardOf ops s o with
        | some true => match step P tab s (u0 + i) o.op with
          | some f => match f.st with
            | none => effsL P tab n ops s0 u0 r (i + 1) (fs ++ [(o.dst, f)])
            | some _ => none
          | none => none
        | some false => effsL P tab n ops s0 u0 r (i + 1) (fs ++ [(o.dst, Eff.nil)])
        | none => none
      | none => none
    | false => none

def remAll {α : Type} : List (Option Tmp × Eff) → List (Nat × α) → List (Nat × α)
  | [], l => l
  | (some d, _) :: r, l => rem d (remAll r l)
  | (none, _) :: r, l => remAll r l

def remOps {α : Type} : List Oper → List (Nat × α) → List (Nat × α)
  | [], l => l
  | o :: r, l => match o.dst with
    | some d => rem d (remOps r l)
    | none => remOps r l

def hasDst (d : Tmp) : List Oper → Bool
  | [] => false
  | o :: r => match o.dst with
    | some e => match Nat.beq d e with
      | true => true
      | false => hasDst d r
    | none => hasDst d r

def apartDst : List Oper → Bool
  | [] => true
  | o :: r => match o.dst with
    | some d => match hasDst d r with
      | true => false
      | false => apartDst r
    | none => apartDst r

def runDraw (P : Program) (tab : Tab) (n : Nat) (ops : Array Oper) (u : Nat) (s : St) : Option St := match apartDst ops.toList with
  | true => match effsL P tab n ops ⟨remOps ops.toList s.env, s.mem, s.hs⟩ u ops.toList 0 [] with
    | some fs => addL ⟨remOps ops.toList s.env, s.mem, s.hs⟩ u fs (List.range fs.length)
    | none => none
  | false => none

section
variable {P : Program} {D : Den} {k0 n : Nat} {F F' : Nat → Prop} {w0 : World} {s : St} {σ σ' : Env} {a : Act} {w w' : World} {I : World → Prop} {tab : Tab} {base : Nat}

theorem find_remOps {α : Type} {t : Nat} {y : α} : ∀ {l : List Oper} {m : List (Nat × α)}, find (remOps l m) t = some y → (∀ o ∈ l, o.dst ≠ some t) ∧ find m t = some y
  | [], m, h => ⟨fun o ho => (by cases ho), h⟩
  | o :: r, m, h => by
    simp only [remOps] at h
    cases hd : o.dst with
    | none =>
      rw [hd] at h
      obtain ⟨h1, h2⟩ := find_remOps h
      exact ⟨fun x hx => by
        rcases List.mem_cons.1 hx with e | e
        · subst e; rw [hd]; intro h; cases h
        · exact h1 x e, h2⟩
    | some d =>
      rw [hd] at h
      obtain ⟨h0, h⟩ := find_rem h
      obtain ⟨h1, h2⟩ := find_remOps h
      exact ⟨fun x hx => by
        rcases List.mem_cons.1 hx with e | e
        · subst e; rw [hd]; intro h; injection h with h; exact h0 h.symm
        · exact h1 x e, h2⟩

theorem hasDst_ok {d : Tmp} : ∀ {l : List Oper}, hasDst d l = false → ∀ o ∈ l, o.dst ≠ some d
  | [], h, o, ho => by cases ho
  | x :: r, h, o, ho => by
    simp only [hasDst] at h
    cases hd : x.dst with
    | none =>
      rw [hd] at h
      rcases List.mem_cons.1 ho with e | e
      · subst e; rw [hd]; intro h; cases h
      · exact hasDst_ok h o e
    | some c =>
      rw [hd] at h
      dsimp only at h
      cases hb : Nat.beq d c with
      | true => rw [hb] at h; cases h
      | false =>
        rw [hb] at h
        rcases List.mem_cons.1 ho with e | e
        · subst e; rw [hd]; intro h; injection h with h; exact Nat.ne_of_beq_eq_false hb h.symm
        · exact hasDst_ok h o e

theorem apartDst_ok : ∀ {l : List Oper}, apartDst l = true → ∀ (i j : Nat) (x y : Oper) (d : Tmp), l[i]? = some x → l[j]? = some y → x.dst = some d → y.dst = some d → i = j
  | [], h, i, j, x, y, d, hi, hj, hx, hy => by simp at hi
  | o :: r, h, i, j, x, y, d, hi, hj, hx, hy => by
    simp only [apartDst] at h
    have h' : apartDst r = true ∧ ∀ d, o.dst = some d → ∀ z ∈ r, z.dst ≠ some d := by
      cases hd : o.dst with
      | none => rw [hd] at h; exact ⟨h, fun d hd => (by cases hd)⟩
      | some c =>
        rw [hd] at h
        dsimp only at h
        cases hb : hasDst c r with
        | true => rw [hb] at h; cases h
        | false => rw [hb] at h; exact ⟨h, fun d hd => (by injection hd with hd; subst hd; exact hasDst_ok hb)⟩
    cases i with
    | zero =>
      simp at hi; subst hi
      cases j with
      | zero => rfl
      | succ j => simp at hj; exact absurd hy (h'.2 d hx y (List.mem_of_getElem? hj))
    | succ i =>
      simp at hi
      cases j with
      | zero => simp at hj; subst hj; exact absurd hx (h'.2 d hy x (List.mem_of_getElem? hi))
      | succ j => simp at hj; rw [apartDst_ok h'.1 i j x y d hi hj hx hy]

/-- an operation's effect is there -/
structure Done (D : Den) (u : Nat) (dst : Option Tmp) (f : Eff) (σ : Env) (a : Act) (w : World) : Prop where
  val : ∀ d x, dst = some d → f.val = some x → x.Is D σ (a.tmps.getD d undef)
  blk : ∀ ty as, f.blk = some (ty, as) → ∃ g l, σ.blk u = some g ∧ cellsL D σ as = some l ∧ w.heap[g]? = some (.cells l.toArray ty (0, 0))
  hld : ∀ i e, (i, e) ∈ f.hld → ∃ v, σ.hld i = some v ∧ D.hold e v w

theorem Ok.add {u : Nat} {dst : Option Tmp} {f : Eff} (h : Ok D k0 n F w0 s σ a w) (hd : Done D u dst f σ a w) : Ok D k0 n F w0 (s.add u dst f) σ a w where
  size := h.size
  defers := h.defers
  tmps := fun t x hx => by
    simp only [St.add] at hx
    split at hx
    · rename_i d y hv
      rcases find_cons hx with ⟨h1, h2⟩ | ⟨h1, h2⟩
      · subst h1 h2; exact hd.val _ _ rfl hv
      · exact h.tmps t x h2
    · exact h.tmps t x hx
  mem := fun k ty as hx => by
    simp only [St.add] at hx
    split at hx
    · rename_i ty' as' hb
      rcases find_cons hx with ⟨h1, h2⟩ | ⟨h1, h2⟩
      · injection h2 with h2 h3; subst h1 h2 h3; exact hd.blk _ _ hb
      · exact h.mem k ty as h2
    · exact h.mem k ty as hx
  hs := fun i e hx => by
    rcases find_append hx with h1 | h1
    · exact hd.hld i e h1
    · exact h.hs i e h1
  base := h.base
  inj := h.inj
  apart := h.apart
  hlt := h.hlt
  new := h.new
  below := h.below
  fresh := h.fresh

theorem addL_ok {u0 : Nat} {fs : List (Option Tmp × Eff)} : ∀ {js : List Nat} {s' : St}, Ok D k0 n F w0 s σ a w → (∀ j ∈ js, ∀ d f, fs[j]? = some (d, f) → Done D (u0 + j) d f σ a w) → addL s u0 fs js = some s' → Ok D k0 n F w0 s' σ a w
  | [], s', h, hj, hs => by injection hs with hs; subst hs; exact h
  | j :: js, s', h, hj, hs => by
    simp only [addL] at hs
    split at hs
    · rename_i d f t h1 h2
      injection hs with hs; subst hs
      exact (addL_ok h (fun k hk => hj k (List.mem_cons_of_mem _ hk)) h2).add (hj j (by simp) d f h1)
    · cases hs

theorem addL_pre {u0 : Nat} {fs gs : List (Option Tmp × Eff)} : ∀ {js : List Nat} {s s' : St}, addL s u0 fs js = some s' → addL s u0 (fs ++ gs) js = some s' ∧ ∀ j ∈ js, j < fs.length
  | [], s, s', h => ⟨h, fun j hj => by cases hj⟩
  | j :: js, s, s', h => by
    simp only [addL] at h
    split at h
    · rename_i d f t h1 h2
      obtain ⟨h3, h4⟩ := addL_pre (gs := gs) h2
      have hlt : j < fs.length := (List.getElem?_eq_some_iff.1 h1).1
      refine ⟨?_, fun k hk => ?_⟩
      · simp only [addL, h3]
        rw [List.getElem?_append_left hlt, h1]
        exact h
      · rcases List.mem_cons.1 hk with e | e
        · subst e; exact hlt
        · exact h4 k e
    · cases h

/-- what is known of each operation -/
def Fact (P : Program) (tab : Tab) (n : Nat) (ops : Array Oper) (s0 : St) (u0 : Nat) (fs : List (Option Tmp × Eff)) (i : Nat) (o : Oper) : Prop :=
  dstOk n o.dst = true ∧ (∀ j ∈ depsOf o, j < i) ∧ ∃ f s, fs[i]? = some (o.dst, f) ∧ f.st = none ∧ addL s0 u0 fs (depsOf o) = some s ∧
    ((guardOf ops s o = some true ∧ step P tab s (u0 + i) o.op = some f) ∨ (guardOf ops s o = some false ∧ f = Eff.nil))

theorem effsL_ok {ops : Array Oper} {s0 : St} {u0 : Nat} : ∀ {l : List Oper} {i : Nat} {fs gs : List (Option Tmp × Eff)}, effsL P tab n ops s0 u0 l i fs = some gs → fs.length = i →
    (∃ hs, gs = fs ++ hs ∧ hs.length = l.length) ∧ ∀ (j : Nat) (o : Oper), l[j]? = some o → Fact P tab n ops s0 u0 gs (i + j) o
  | [], i, fs, gs, h, hl => by
    injection h with h; subst h
    exact ⟨⟨[], by simp, rfl⟩, fun j o hj => by simp at hj⟩
  | o :: r, i, fs, gs, h, hl => by
    simp only [effsL] at h
    cases hd : dstOk n o.dst with
    | false => rw [hd] at h; cases h
    | true =>
      rw [hd] at h
      dsimp only at h
      cases ha : addL s0 u0 fs (depsOf o) with
      | none => rw [ha] at h; cases h
      | some s =>
        rw [ha] at h
        dsimp only at h
        have key : ∀ f : Eff, f.st = none → effsL P tab n ops s0 u0 r (i + 1) (fs ++ [(o.dst, f)]) = some gs → ((guardOf ops s o = some true ∧ step P tab s (u0 + i) o.op = some f) ∨ (guardOf ops s o = some false ∧ f = Eff.nil)) →
            (∃ hs, gs = fs ++ hs ∧ hs.length = (o :: r).length) ∧ ∀ (j : Nat) (x : Oper), (o :: r)[j]? = some x → Fact P tab n ops s0 u0 gs (i + j) x := by
          intro f hst he hor
          obtain ⟨⟨hs, h1, h2⟩, h3⟩ := effsL_ok he (by simp [hl])
          refine ⟨⟨(o.dst, f) :: hs, by rw [h1]; simp, by simp [h2]⟩, fun j x hj => ?_⟩
          cases j with
          | zero =>
            simp at hj; subst hj
            obtain ⟨h4, h5⟩ := addL_pre (gs := (o.dst, f) :: hs) ha
            have e : fs ++ (o.dst, f) :: hs = gs := by rw [h1]; simp
            rw [e] at h4
            exact ⟨hd, fun j hj => hl ▸ h5 j hj, f, s, by rw [← e, ← hl]; simp, hst, h4, hor⟩
          | succ j =>
            have := h3 j x (by simpa using hj)
            rwa [show i + 1 + j = i + (j + 1) by omega] at this
        cases hg : guardOf ops s o with
        | none => rw [hg] at h; cases h
        | some b =>
          rw [hg] at h
          cases b with
          | false => exact key Eff.nil rfl h (.inr ⟨hg, rfl⟩)
          | true =>
            dsimp only at h
            cases hs : step P tab s (u0 + i) o.op with
            | none => rw [hs] at h; cases h
            | some f =>
              rw [hs] at h
              dsimp only at h
              cases hst : f.st with
              | some _ => rw [hst] at h; cases h
              | none => rw [hst] at h; exact key f hst h (.inl ⟨hg, hs⟩)

/-- the operations that are listed are done, no others -/
structure Inv (D : Den) (k0 n : Nat) (ops : Array Oper) (w0 : World) (s0 : St) (u0 : Nat) (fs : List (Option Tmp × Eff)) (listed : Array Bool) (σ : Env) (a : Act) (w : World) : Prop where
  ok : Ok D k0 n (fun x => u0 ≤ x ∧ ∀ i, x = u0 + i → i < ops.size → listed.getD i false = false) w0 s0 σ a w
  done : ∀ i d f, listed.getD i false = true → fs[i]? = some (d, f) → Done D (u0 + i) d f σ a w
  size : listed.size = ops.size

theorem Done.after {u v : Nat} {dst : Option Tmp} {f g : Eff} {x : Value} {d : Option Tmp} (h : Done D u dst f σ a w) (hok : Ok D k0 n F w0 s σ a w) (hA : After D v g σ w σ' w' x) (hst : g.st = none) (hne : ∀ t, dst = some t → d ≠ some t) : Done D u dst f σ' (a.put d x) w' where
  val := fun t y h1 h2 => by
    have := T.Is_mono hA.le (h.val t y h1 h2)
    cases d with
    | none => exact this
    | some e => rw [put_other a e t x (fun he => hne t h1 (by rw [he]))]; exact this
  blk := fun ty as h1 => by
    obtain ⟨b, l, h2, h3, h4⟩ := h.blk ty as h1
    have hw := hA.world
    rw [hst] at hw
    exact ⟨b, l, hA.le.b _ _ h2, cellsL_mono hA.le h3, (hw.block b (hok.base u b h2).2).trans h4⟩
  hld := fun i e h1 => by
    obtain ⟨y, h2, h3⟩ := h.hld i e h1
    have hw := hA.world
    rw [hst] at hw
    exact ⟨y, hA.le.h _ _ h2, D.keep e y w w' h3 hw.size fun b hb => hw.block b (hok.hlt i y b h2 hb)⟩

theorem After.done {u : Nat} {dst : Option Tmp} {f : Eff} {v : Value} (hA : After D u f σ w σ' w' v) (hd : dstOk a.tmps.size dst = true) : Done D u dst f σ' (a.put dst v) w' where
  val := fun t y h1 h2 => by
    subst h1
    rw [put_same a t v (Nat.le_of_ble_eq_true hd)]
    exact hA.val y h2
  blk := hA.blk
  hld := hA.hld

theorem count_set (l : Array Bool) (i : Nat) (h : l.getD i true = false) : (l.setIfInBounds i true).toList.count false + 1 = l.toList.count false := by
  have hi : i < l.size := by
    rcases Nat.lt_or_ge i l.size with h' | h'
    · exact h'
    · simp [Array.getElem?_eq_none h'] at h
  have hv : l.toList[i]'(by simpa using hi) = false := by simpa [hi] using h
  have hc : 0 < l.toList.count false := List.count_pos_iff.2 (by rw [← hv]; exact List.getElem_mem _)
  rw [Array.toList_setIfInBounds, List.count_set (by simpa using hi)]
  simp [hv]
  have hc' : 0 < l.count false := by simpa using hc
  omega

theorem wpAny_run (R : Right P D I tab) (hI : ∀ w, Below w0.heap.size w0 w → I w) {ops : Array Oper} {Q : Exit → Act → World → Prop} {s0 : St} {u0 : Nat} {fs : List (Option Tmp × Eff)}
    (hF : ∀ (j : Nat) (o : Oper), ops[j]? = some o → Fact P tab n ops s0 u0 fs j o) (hlen : fs.length = ops.size) (hap : ∀ (i j : Nat) (x y : Oper) (d : Tmp), ops[i]? = some x → ops[j]? = some y → x.dst = some d → y.dst = some d → i = j)
    (hno : ∀ t x, find s0.env t = some x → ∀ o ∈ ops.toList, o.dst ≠ some t)
    (hQ : ∀ (listed : Array Bool) σ a w, (∀ i, i < ops.size → listed.getD i false = true) → Inv D k0 n ops w0 s0 u0 fs listed σ a w → Q .normal a w) :
    ∀ (fuel : Nat) (listed : Array Bool) (σ : Env) (a : Act) (w : World), Inv D k0 n ops w0 s0 u0 fs listed σ a w → listed.toList.count false ≤ fuel → wpAny P .any ops Q fuel listed a w := by
  have all : ∀ listed : Array Bool, listed.size = ops.size → Region.ready .any ops listed = [] → ∀ i, i < ops.size → listed.getD i false = true := by
    intro listed hsz hr i
    induction i using Nat.strongRecOn with
    | _ i ih =>
      intro hi
      cases hl : listed.getD i true with
      | true =>
        have : i < listed.size := by omega
        simpa [this] using hl
      | false =>
        have : i ∈ Region.ready .any ops listed := by
          rw [mem_ready]
          refine ⟨hl, ops[i], by simp [hi], fun e he hb => ?_⟩
          obtain ⟨h1, h2, h3⟩ := hF i ops[i] (by simp [hi])
          have hlt := h2 e.on (List.mem_filterMap.2 ⟨e, by simpa using he, by rw [hb]⟩)
          exact ih e.on hlt (by omega)
        rw [hr] at this
        cases this
  intro fuel
  induction fuel with
  | zero =>
    intro listed σ a w h hc
    have hnone : ∀ i, i < ops.size → listed.getD i false = true := by
      intro i hi
      have hi' : i < listed.size := by rw [h.size]; exact hi
      cases hv : listed[i] with
      | true => simp [hi', hv]
      | false =>
        have : 0 < listed.toList.count false := List.count_pos_iff.2 (by rw [← hv]; simp)
        omega
    refine ⟨?_, hQ listed σ a w hnone h⟩
    cases hr : Region.ready .any ops listed with
    | nil => rfl
    | cons i r =>
      have hm : i ∈ Region.ready .any ops listed := by rw [hr]; simp
      obtain ⟨h1, o, h2, h3⟩ := mem_ready.1 hm
      have hi : i < ops.size := (Array.getElem?_eq_some_iff.1 h2).1
      have := hnone i hi
      have hi' : i < listed.size := by rw [h.size]; exact hi
      simp [hi'] at this h1
      rw [this] at h1; cases h1
  | succ fuel ih =>
    intro listed σ a w h hc
    refine ⟨fun hr => hQ listed σ a w (all listed h.size hr) h, fun i hi => ?_⟩
    obtain ⟨h1, o, h2, h3⟩ := mem_ready.1 hi
    have hilt : i < ops.size := (Array.getElem?_eq_some_iff.1 h2).1
    obtain ⟨hd, hdeps, f, s, hf, hst, hadd, hor⟩ := hF i o h2
    have hl0 : listed.getD i false = false := by
      have hi' : i < listed.size := by rw [h.size]; exact hilt
      simpa [hi'] using h1
    have hs : Ok D k0 n (fun x => u0 ≤ x ∧ ∀ i, x = u0 + i → i < ops.size → listed.getD i false = false) w0 s σ a w := by
      refine addL_ok h.ok (fun j hj d g hg => ?_) hadd
      obtain ⟨e, he, hb⟩ := List.mem_filterMap.1 hj
      cases hb' : Region.binds .any e with
      | false => rw [hb'] at hb; cases hb
      | true =>
        rw [hb'] at hb
        injection hb with hb; subst hb
        exact h.done e.on d g (h3 e (by simpa using he) hb') hg
    obtain ⟨hu, hh⟩ := h.ok.fresh (u0 + i) ⟨by omega, fun k hk _ => by
      have : k = i := by omega
      subst this; exact hl0⟩
    have next : ∀ σ' w' v, After D (u0 + i) f σ w σ' w' v → wpAny P .any ops Q fuel (listed.setIfInBounds i true) (a.put o.dst v) w' := by
      intro σ' w' v hA
      have hi' : i < listed.size := by rw [h.size]; exact hilt
      refine ih _ σ' _ w' ⟨?_, ?_, by simp [h.size]⟩ (by have := count_set listed i h1; omega)
      · have hA0 := hA.weak hst
        have := h.ok.step (F' := fun x => u0 ≤ x ∧ ∀ k, x = u0 + k → k < ops.size → (listed.setIfInBounds i true).getD k false = false) hA0 (fun x hx => ⟨⟨hx.1, fun k hk hlt => by
            have := hx.2 k hk hlt
            by_cases e : i = k
            · subst e; simp [hi'] at this
            · rwa [getD_set_ne false e] at this⟩, fun e => by
            have := hx.2 i e hilt
            simp [hi'] at this⟩) hd
        refine this.weaken (fun t x hx => ?_) (fun t x hx => ?_) (fun t x hx => ?_)
        · simp only [St.put, Eff.nil]
          cases hdst : o.dst with
          | none => exact hx
          | some d =>
            dsimp only
            refine find_rem_of hx fun e => ?_
            subst e
            exact hno t x hx o (by have := Array.mem_of_getElem? h2; simpa using this) hdst
        · exact hx
        · exact hx
      · intro k d g hk hg
        by_cases e : i = k
        · subst e
          rw [hf] at hg
          injection hg with hg; injection hg with e1 e2; subst e1 e2
          exact hA.done (by rw [h.ok.size]; exact hd)
        · rw [getD_set_ne false e] at hk
          refine (h.done k d g hk hg).after h.ok hA hst fun t ht hot => ?_
          have hklt : k < ops.size := by
            have := (List.getElem?_eq_some_iff.1 hg).1
            omega
          obtain ⟨_, _, g', s', hg', _⟩ := hF k ops[k] (by simp [hklt])
          rw [hg] at hg'
          injection hg' with hg'; injection hg' with e1 e2
          exact e (hap i k o ops[k] t h2 (by simp [hklt]) hot (e1 ▸ ht))
    unfold wpOp
    simp only [h2]
    rcases hor with ⟨hg, hstep⟩ | ⟨hg, rfl⟩
    · have hw := guardOf_ok hs hg
      rw [if_pos hw]
      exact .inl (step_ok R (hI w h.ok.below) hs hu hh hstep next)
    · have hw := guardOf_ok hs hg
      rw [if_neg (by rw [hw]; simp)]
      exact next σ w undef (After.idle hu undef)

theorem runDraw_ok (R : Right P D I tab) (hI : ∀ w, Below w0.heap.size w0 w → I w) {ops : Array Oper} {Q : Exit → Act → World → Prop} {u : Nat} {s s' : St}
    (h : Ok D k0 n (u ≤ ·) w0 s σ a w) (hr : runDraw P tab n ops u s = some s') (hQ : ∀ σ' a' w', Ok D k0 n (u + ops.size ≤ ·) w0 s' σ' a' w' → Q .normal a' w') :
    wpAny P .any ops Q ops.size (Array.replicate ops.size false) a w := by
  unfold runDraw at hr
  cases hap : apartDst ops.toList with
  | false => rw [hap] at hr; cases hr
  | true =>
    rw [hap] at hr
    dsimp only at hr
    cases he : effsL P tab n ops ⟨remOps ops.toList s.env, s.mem, s.hs⟩ u ops.toList 0 [] with
    | none => rw [he] at hr; cases hr
    | some fs =>
      rw [he] at hr
      dsimp only at hr
      obtain ⟨⟨hs, h1, h2⟩, h3⟩ := effsL_ok he rfl
      have hlen : fs.length = ops.size := by rw [h1]; simpa using h2
      have hF : ∀ (j : Nat) (o : Oper), ops[j]? = some o → Fact P tab n ops ⟨remOps ops.toList s.env, s.mem, s.hs⟩ u fs j o := fun j o hj => by
        have := h3 j o (by simpa using hj)
        simpa using this
      have hok : Ok D k0 n (u ≤ ·) w0 ⟨remOps ops.toList s.env, s.mem, s.hs⟩ σ a w := h.weaken (fun t x hx => (find_remOps hx).2) (fun t x hx => hx) (fun t x hx => hx)
      refine wpAny_run R hI hF hlen (fun i j x y d hi hj => apartDst_ok hap i j x y d (by simpa using hi) (by simpa using hj)) (fun t x hx => (find_remOps hx).1) ?_ ops.size _ σ a w ⟨hok.fewer fun x hx => hx.1, fun i d f hi _ => ?_, by simp⟩ ?_
      · intro listed σ' a' w' hall hinv
        refine hQ σ' a' w' ?_
        have := addL_ok hinv.ok (fun j hj d f hf => hinv.done j d f (hall j (by rw [← hlen]; simpa using hj)) hf) hr
        exact this.fewer fun x hx => ⟨by omega, fun i hi hlt => by omega⟩
      · exfalso
        by_cases e : i < ops.size
        · simp [e] at hi
        · simp [e] at hi
      · simp
end
end Go.Proofs.YtpinopjnlcbipaaDoor.Sx
