/- Texts in one: SxF, SxG. Conditions: those of each theorem. -/
import Derived.Test.YtdconlmpjehohaaDoorSxE

/- A symbolic run of straight code, part 6: regions that draw their order. Conditions: those of each theorem. -/
namespace Go.Proofs.YtdconlmpjehohaaDoor.Sx
open Go.RowKit
set_option linter.unusedVariables false

def St.add (s : St) (u : Nat) (dst : Option Tmp) (f : Eff) : St where
  env := match dst, f.val with
    | some d, some x => (d, x) :: s.env
    | _, _ => s.env
  mem := match f.blk with
    | some (ty, as) => (u, ty, as) :: s.mem
    | none => s.mem
  hs := f.hld ++ s.hs

def addL (s : St) (u0 : Nat) (fs : List (Option Tmp × Eff)) : List Nat → Option St
  | [] => some s
  | j :: js => match fs[j]?, addL s u0 fs js with
    | some (d, f), some s' => some (s'.add (u0 + j) d f)
    | _, _ => none

def depsOf (o : Oper) : List Nat := o.after.toList.filterMap fun e => match Region.binds .any e with
  | true => some e.on
  | false => none

/-- the operations that come before another in every order: bits -/
def maskOf (ms : List Nat) : List Nat → Nat
  | [] => 0
  | d :: ds => Nat.lor (Nat.lor (Nat.shiftLeft 1 d) (ms.getD d 0)) (maskOf ms ds)

def masksL : List Oper → List Nat → List Nat
  | [], ms => ms
  | o :: r, ms => masksL r (ms ++ [maskOf ms (depsOf o)])

/-- without the blocks that other operations write, perhaps before -/
def cutMem {α : Type} (S : List (Nat × Nat)) (ms : List Nat) (i : Nat) (m : List (Nat × α)) : List (Nat × α) := match S with
  | [] => m
  | (j, b) :: S => match Nat.beq j i, Nat.testBit (ms.getD j 0) i with
    | false, false => rem b (cutMem S ms i m)
    | _, _ => cutMem S ms i m

def memS (j b : Nat) : List (Nat × Nat) → Bool
  | [] => false
  | (k, c) :: S => match Nat.beq j k, Nat.beq b c with
    | true, true => true
    | _, _ => memS j b S

def effsL (P : Program) (tab : Tab) (n : Nat) (ops : Array Oper) (s0 : St) (u0 : Nat) (chk : Bool) (S : List (Nat × Nat)) (ms : List Nat) : List Oper → Nat → List (Option Tmp × Eff) → Option (List (Option Tmp × Eff))
  | [], i, fs => some fs
  | o :: r, i, fs => match dstOk n o.dst with
    | true => match addL s0 u0 fs (depsOf o) with
      | some s => match guardOf ops s o with
        | some true => match step P tab ⟨s.env, cutMem S ms i s.mem, s.hs⟩ (u0 + i) o.op with
          | some f => match f.st with
            | none => effsL P tab n ops s0 u0 chk S ms r (i + 1) (fs ++ [(o.dst, f)])
            | some (b, _) => match chk with
              | true => match memS i b S with
                | true => effsL P tab n ops s0 u0 chk S ms r (i + 1) (fs ++ [(o.dst, f)])
                | false => none
              | false => effsL P tab n ops s0 u0 chk S ms r (i + 1) (fs ++ [(o.dst, f)])
          | none => none
        | some false => effsL P tab n ops s0 u0 chk S ms r (i + 1) (fs ++ [(o.dst, Eff.nil)])
        | none => none
      | none => none
    | false => none

def storesOf : List (Option Tmp × Eff) → Nat → List (Nat × Nat)
  | [], _ => []
  | (_, f) :: r, i => match f.st with
    | some (b, _) => (i, b) :: storesOf r (i + 1)
    | none => storesOf r (i + 1)

def hasB (b : Nat) : List (Nat × Nat) → Bool
  | [] => false
  | (_, c) :: S => match Nat.beq b c with
    | true => true
    | false => hasB b S

def apartB : List (Nat × Nat) → Bool
  | [] => true
  | (_, b) :: S => match hasB b S with
    | true => false
    | false => apartB S

def pushSt : List (Option Tmp × Eff) → List (Nat × TypeId × List Atom) → List (Nat × TypeId × List Atom)
  | [], m => m
  | (_, f) :: r, m => match f.st with
    | some e => e :: pushSt r m
    | none => pushSt r m

def remAll {α : Type} : List (Option Tmp × Eff) → List (Nat × α) → List (Nat × α)
  | [], l => l
  | (some d, _) :: r, l => rem d (remAll r l)
  | (none, _) :: r, l => remAll r l

def remOps {α : Type} : List Oper → List (Nat × α) → List (Nat × α)
  | [], l => l
  | o :: r, l => match o.dst with
    | some d => rem d (remOps r l)
    | none => remOps r l

def hasDst (d : Tmp) : List Oper → Bool
  | [] => false
  | o :: r => match o.dst with
    | some e => match Nat.beq d e with
      | true => true
      | false => hasDst d r
    | none => hasDst d r

def apartDst : List Oper → Bool
  | [] => true
  | o :: r => match o.dst with
    | some d => match hasDst d r with
      | true => false
      | false => apartDst r
    | none => apartDst r

def allEffs (P : Program) (tab : Tab) (n : Nat) (ops : Array Oper) (s0 : St) (u0 : Nat) : Option (List (Option Tmp × Eff)) := match effsL P tab n ops s0 u0 false [] [] ops.toList 0 [] with
  | some fs => match storesOf fs 0 with
    | [] => some fs
    | S => match apartB S with
      | true => effsL P tab n ops s0 u0 true S (masksL ops.toList []) ops.toList 0 []
      | false => none
  | none => none

def runDraw (P : Program) (tab : Tab) (n : Nat) (ops : Array Oper) (u : Nat) (s : St) : Option St := match apartDst ops.toList with
  | true => match allEffs P tab n ops ⟨remOps ops.toList s.env, s.mem, s.hs⟩ u with
    | some fs => match addL ⟨remOps ops.toList s.env, s.mem, s.hs⟩ u fs (List.range fs.length) with
      | some t => some ⟨t.env, pushSt fs t.mem, t.hs⟩
      | none => none
    | none => none
  | false => none

section
variable {P : Program} {D : Den} {k0 n : Nat} {F F' : Nat → Prop} {w0 : World} {s : St} {σ σ' : Env} {a : Act} {w w' : World} {I : World → Prop} {tab : Tab} {base : Nat}

theorem find_remOps {α : Type} {t : Nat} {y : α} : ∀ {l : List Oper} {m : List (Nat × α)}, find (remOps l m) t = some y → (∀ o ∈ l, o.dst ≠ some t) ∧ find m t = some y
  | [], m, h => ⟨fun o ho => (by cases ho), h⟩
  | o :: r, m, h => by
    simp only [remOps] at h
    cases hd : o.dst with
    | none =>
      rw [hd] at h
      obtain ⟨h1, h2⟩ := find_remOps h
      exact ⟨fun x hx => by
        rcases List.mem_cons.1 hx with e | e
        · subst e; rw [hd]; intro h; cases h
        · exact h1 x e, h2⟩
    | some d =>
      rw [hd] at h
      obtain ⟨h0, h⟩ := find_rem h
      obtain ⟨h1, h2⟩ := find_remOps h
      exact ⟨fun x hx => by
        rcases List.mem_cons.1 hx with e | e
        · subst e; rw [hd]; intro h; injection h with h; exact h0 h.symm
        · exact h1 x e, h2⟩

theorem hasDst_ok {d : Tmp} : ∀ {l : List Oper}, hasDst d l = false → ∀ o ∈ l, o.dst ≠ some d
  | [], h, o, ho => by cases ho
  | x :: r, h, o, ho => by
    simp only [hasDst] at h
    cases hd : x.dst with
    | none =>
      rw [hd] at h
      rcases List.mem_cons.1 ho with e | e
      · subst e; rw [hd]; intro h; cases h
      · exact hasDst_ok h o e
    | some c =>
      rw [hd] at h
      dsimp only at h
      cases hb : Nat.beq d c with
      | true => rw [hb] at h; cases h
      | false =>
        rw [hb] at h
        rcases List.mem_cons.1 ho with e | e
        · subst e; rw [hd]; intro h; injection h with h; exact Nat.ne_of_beq_eq_false hb h.symm
        · exact hasDst_ok h o e

theorem apartDst_ok : ∀ {l : List Oper}, apartDst l = true → ∀ (i j : Nat) (x y : Oper) (d : Tmp), l[i]? = some x → l[j]? = some y → x.dst = some d → y.dst = some d → i = j
  | [], h, i, j, x, y, d, hi, hj, hx, hy => by simp at hi
  | o :: r, h, i, j, x, y, d, hi, hj, hx, hy => by
    simp only [apartDst] at h
    have h' : apartDst r = true ∧ ∀ d, o.dst = some d → ∀ z ∈ r, z.dst ≠ some d := by
      cases hd : o.dst with
      | none => rw [hd] at h; exact ⟨h, fun d hd => (by cases hd)⟩
      | some c =>
        rw [hd] at h
        dsimp only at h
        cases hb : hasDst c r with
        | true => rw [hb] at h; cases h
        | false => rw [hb] at h; exact ⟨h, fun d hd => (by injection hd with hd; subst hd; exact hasDst_ok hb)⟩
    cases i with
    | zero =>
      simp at hi; subst hi
      cases j with
      | zero => rfl
      | succ j => simp at hj; exact absurd hy (h'.2 d hx y (List.mem_of_getElem? hj))
    | succ i =>
      simp at hi
      cases j with
      | zero => simp at hj; subst hj; exact absurd hx (h'.2 d hy x (List.mem_of_getElem? hi))
      | succ j => simp at hj; rw [apartDst_ok h'.1 i j x y d hi hj hx hy]

/-- a block lies as it is known -/
def Lies (D : Den) (σ : Env) (w : World) (k : Nat) (ty : TypeId) (as : List Atom) : Prop := ∃ g l, σ.blk k = some g ∧ cellsL D σ as = some l ∧ w.heap[g]? = some (.cells l.toArray ty (0, 0))

theorem Lies.after {k u : Nat} {ty : TypeId} {as : List Atom} {f : Eff} {v : Value} (h : Lies D σ w k ty as) (hok : Ok D k0 n F w0 s σ a w) (hA : After D u f σ w σ' w' v) (hne : ∀ t bs, f.st ≠ some (k, t, bs)) : Lies D σ' w' k ty as := by
  obtain ⟨g, l, h1, h2, h3⟩ := h
  refine ⟨g, l, hA.le.b _ _ h1, cellsL_mono hA.le h2, ?_⟩
  have hw := hA.world
  split at hw
  · exact (hw.block g (hok.base k g h1).2).trans h3
  · rename_i k' ty' as' hst
    obtain ⟨g', l', cur, h4, h5, h6, rfl⟩ := hw
    have hgg : g ≠ g' := fun e => hne ty' as' (by rw [hst, hok.inj k' k g' h4 (e ▸ h1)])
    exact (setRow_other w g' g _ hgg).trans h3

theorem hold_after {u i : Nat} {e : E} {x v : Value} {f : Eff} (h : D.hold e x w) (hi : σ.hld i = some x) (hok : Ok D k0 n F w0 s σ a w) (hA : After D u f σ w σ' w' v) : D.hold e x w' := by
  have hw := hA.world
  split at hw
  · exact D.keep e x w w' h hw.size fun g hg => hw.block g (hok.hlt i x g hi hg)
  · obtain ⟨g', l', cur, h4, h5, h6, rfl⟩ := hw
    exact setRow_keep h (fun k hk he => hok.apart i x k _ hi hk (he ▸ h4)) _

/-- an operation's effect is there -/
structure Done (D : Den) (dst : Option Tmp) (f : Eff) (σ : Env) (a : Act) (w : World) : Prop where
  val : ∀ d x, dst = some d → f.val = some x → x.Is D σ (a.tmps.getD d undef)
  hld : ∀ i e, (i, e) ∈ f.hld → ∃ v, σ.hld i = some v ∧ D.hold e v w
  st : ∀ k ty as, f.st = some (k, ty, as) → Lies D σ w k ty as

theorem addL_from {u0 : Nat} {fs : List (Option Tmp × Eff)} : ∀ {js : List Nat} {s' : St}, addL s u0 fs js = some s' →
    (∀ t x, find s'.env t = some x → find s.env t = some x ∨ ∃ j ∈ js, ∃ f, fs[j]? = some (some t, f) ∧ f.val = some x) ∧
    (∀ k ty as, find s'.mem k = some (ty, as) → find s.mem k = some (ty, as) ∨ ∃ j ∈ js, ∃ d f, fs[j]? = some (d, f) ∧ f.blk = some (ty, as) ∧ k = u0 + j) ∧
    (∀ i e, find s'.hs i = some e → find s.hs i = some e ∨ ∃ j ∈ js, ∃ d f, fs[j]? = some (d, f) ∧ (i, e) ∈ f.hld)
  | [], s', h => by injection h with h; subst h; exact ⟨fun _ _ h => .inl h, fun _ _ _ h => .inl h, fun _ _ h => .inl h⟩
  | j :: js, s', h => by
    simp only [addL] at h
    split at h
    · rename_i d f t h1 h2
      injection h with h; subst h
      obtain ⟨i1, i2, i3⟩ := addL_from h2
      refine ⟨fun x y hx => ?_, fun k ty as hx => ?_, fun i e hx => ?_⟩
      · have old : find t.env x = some y → find s.env x = some y ∨ ∃ k ∈ j :: js, ∃ f, fs[k]? = some (some x, f) ∧ f.val = some y := fun hx => (i1 x y hx).imp id fun ⟨k, hk, z⟩ => ⟨k, List.mem_cons_of_mem j hk, z⟩
        simp only [St.add] at hx
        split at hx
        · rename_i c z hv
          rcases find_cons hx with ⟨h3, h4⟩ | ⟨h3, h4⟩
          · subst h3 h4; exact .inr ⟨j, by simp, f, h1, hv⟩
          · exact old h4
        · exact old hx
      · have old : find t.mem k = some (ty, as) → find s.mem k = some (ty, as) ∨ ∃ m ∈ j :: js, ∃ d f, fs[m]? = some (d, f) ∧ f.blk = some (ty, as) ∧ k = u0 + m := fun hx => (i2 k ty as hx).imp id fun ⟨m, hk, z⟩ => ⟨m, List.mem_cons_of_mem j hk, z⟩
        simp only [St.add] at hx
        split at hx
        · rename_i ty' as' hb
          rcases find_cons hx with ⟨h3, h4⟩ | ⟨h3, h4⟩
          · injection h4 with h4 h5; subst h3 h4 h5; exact .inr ⟨j, by simp, d, f, h1, hb, rfl⟩
          · exact old h4
        · exact old hx
      · rcases find_append hx with h3 | h3
        · exact .inr ⟨j, by simp, d, f, h1, h3⟩
        · exact (i3 i e h3).imp id fun ⟨k, hk, z⟩ => ⟨k, List.mem_cons_of_mem j hk, z⟩
    · cases h

theorem testBit_shl1 (d i : Nat) : Nat.testBit (Nat.shiftLeft 1 d) i = decide (d = i) := by
  show Nat.testBit (1 <<< d) i = _
  rw [Nat.one_shiftLeft, Nat.testBit_two_pow]

theorem maskOf_ok {ms : List Nat} {i : Nat} : ∀ {ds : List Nat}, Nat.testBit (maskOf ms ds) i = true → ∃ d ∈ ds, d = i ∨ Nat.testBit (ms.getD d 0) i = true
  | [], h => by simp [maskOf] at h
  | d :: ds, h => by
    have h : Nat.testBit ((Nat.shiftLeft 1 d ||| ms.getD d 0) ||| maskOf ms ds) i = true := h
    rw [Nat.testBit_or, Nat.testBit_or, testBit_shl1] at h
    simp only [Bool.or_eq_true, decide_eq_true_eq] at h
    rcases h with (h | h) | h
    · exact ⟨d, by simp, .inl h⟩
    · exact ⟨d, by simp, .inr h⟩
    · obtain ⟨e, he, h⟩ := maskOf_ok h
      exact ⟨e, List.mem_cons_of_mem _ he, h⟩

theorem masksL_pre : ∀ {l : List Oper} {ms : List Nat}, ∃ hs, masksL l ms = ms ++ hs
  | [], ms => ⟨[], by simp [masksL]⟩
  | o :: r, ms => by
    obtain ⟨hs, h⟩ := masksL_pre (l := r) (ms := ms ++ [maskOf ms (depsOf o)])
    exact ⟨maskOf ms (depsOf o) :: hs, by simp only [masksL, h, List.append_assoc, List.singleton_append]⟩

theorem masksL_ok {i : Nat} : ∀ {l : List Oper} {ms : List Nat} {j : Nat} {o : Oper}, l[j]? = some o → Nat.testBit ((masksL l ms).getD (ms.length + j) 0) i = true →
    ∃ d ∈ depsOf o, d = i ∨ Nat.testBit ((masksL l ms).getD d 0) i = true
  | [], ms, j, o, hj, h => by simp at hj
  | x :: r, ms, j, o, hj, h => by
    simp only [masksL] at h ⊢
    cases j with
    | zero =>
      simp at hj; subst hj
      obtain ⟨hs, he⟩ := masksL_pre (l := r) (ms := ms ++ [maskOf ms (depsOf x)])
      rw [he] at h ⊢
      have e1 : ((ms ++ [maskOf ms (depsOf x)]) ++ hs).getD (ms.length + 0) 0 = maskOf ms (depsOf x) := by simp [List.getD]
      rw [e1] at h
      obtain ⟨d, hd, h⟩ := maskOf_ok h
      refine ⟨d, hd, h.imp id fun h => ?_⟩
      by_cases hlt : d < ms.length
      · have e2 : ((ms ++ [maskOf ms (depsOf x)]) ++ hs).getD d 0 = ms.getD d 0 := by
          simp only [List.getD, List.append_assoc]
          rw [List.getElem?_append_left hlt]
        rw [e2]; exact h
      · have : ms.getD d 0 = 0 := by simp [List.getD, List.getElem?_eq_none (Nat.le_of_not_lt hlt)]
        rw [this] at h
        simp at h
    | succ j =>
      refine masksL_ok (l := r) (j := j) (by simpa using hj) ?_
      rw [show (ms ++ [maskOf ms (depsOf x)]).length + j = ms.length + (j + 1) by simp; omega]
      exact h

theorem find_cutMem {α : Type} {ms : List Nat} {i k : Nat} {y : α} : ∀ {S : List (Nat × Nat)} {m : List (Nat × α)}, find (cutMem S ms i m) k = some y → find m k = some y ∧ ∀ j, (j, k) ∈ S → j = i ∨ Nat.testBit (ms.getD j 0) i = true
  | [], m, h => ⟨h, fun j hj => by cases hj⟩
  | (j, b) :: S, m, h => by
    simp only [cutMem] at h
    split at h
    · rename_i h1 h2
      obtain ⟨h3, h4⟩ := find_rem h
      obtain ⟨h5, h6⟩ := find_cutMem h4
      refine ⟨h5, fun j' hj => ?_⟩
      rcases List.mem_cons.1 hj with e | e
      · injection e with e1 e2; exact absurd e2 h3
      · exact h6 j' e
    · rename_i hn
      obtain ⟨h5, h6⟩ := find_cutMem h
      refine ⟨h5, fun j' hj => ?_⟩
      rcases List.mem_cons.1 hj with e | e
      · injection e with e1 e2; subst e1 e2
        cases hb : Nat.beq j' i with
        | true => exact .inl (Nat.eq_of_beq_eq_true hb)
        | false =>
          cases ht : Nat.testBit (ms.getD j' 0) i with
          | true => exact .inr rfl
          | false => exact absurd ht (by
              intro ht
              exact hn hb ht)
      · exact h6 j' e

theorem memS_ok {j b : Nat} : ∀ {S : List (Nat × Nat)}, memS j b S = true → (j, b) ∈ S
  | [], h => by cases h
  | (k, c) :: S, h => by
    simp only [memS] at h
    split at h
    · rename_i h1 h2
      rw [Nat.eq_of_beq_eq_true h1, Nat.eq_of_beq_eq_true h2]; simp
    · exact List.mem_cons_of_mem _ (memS_ok h)

theorem hasB_ok {b : Nat} : ∀ {S : List (Nat × Nat)}, hasB b S = false → ∀ j, (j, b) ∉ S
  | [], h, j, hj => by cases hj
  | (k, c) :: S, h, j, hj => by
    simp only [hasB] at h
    cases hb : Nat.beq b c with
    | true => rw [hb] at h; cases h
    | false =>
      rw [hb] at h
      rcases List.mem_cons.1 hj with e | e
      · injection e with e1 e2; exact Nat.ne_of_beq_eq_false hb e2
      · exact hasB_ok h j e

theorem apartB_ok {b i j : Nat} : ∀ {S : List (Nat × Nat)}, apartB S = true → (i, b) ∈ S → (j, b) ∈ S → i = j
  | [], h, hi, hj => by cases hi
  | (k, c) :: S, h, hi, hj => by
    simp only [apartB] at h
    cases hb : hasB c S with
    | true => rw [hb] at h; cases h
    | false =>
      rw [hb] at h
      rcases List.mem_cons.1 hi with e | e
      · injection e with e1 e2; subst e1 e2
        rcases List.mem_cons.1 hj with e' | e'
        · injection e' with e1 e2; exact e1.symm
        · exact absurd e' (hasB_ok hb j)
      · rcases List.mem_cons.1 hj with e' | e'
        · injection e' with e1 e2; subst e1 e2
          exact absurd e (hasB_ok hb i)
        · exact apartB_ok h e e'

theorem storesOf_nil {j : Nat} {d : Option Tmp} {f : Eff} : ∀ {fs : List (Option Tmp × Eff)} {i : Nat}, storesOf fs i = [] → fs[j]? = some (d, f) → f.st = none
  | [], i, h, hj => by simp at hj
  | (c, g) :: r, i, h, hj => by
    simp only [storesOf] at h
    split at h
    · cases h
    · rename_i hst
      cases j with
      | zero => simp at hj; rw [← hj.2]; exact hst
      | succ j => exact storesOf_nil (j := j) h (by simpa using hj)

theorem find_pushSt {k : Nat} {y : TypeId × List Atom} : ∀ {fs : List (Option Tmp × Eff)} {m : List (Nat × TypeId × List Atom)}, find (pushSt fs m) k = some y →
    (∃ (j : Nat) (d : Option Tmp) (f : Eff), fs[j]? = some (d, f) ∧ f.st = some (k, y)) ∨ (find m k = some y ∧ ∀ (j : Nat) (d : Option Tmp) (f : Eff), fs[j]? = some (d, f) → ∀ z, f.st ≠ some (k, z))
  | [], m, h => .inr ⟨h, fun j d f hj => by simp at hj⟩
  | (c, g) :: r, m, h => by
    have lift : (∃ (j : Nat) (d : Option Tmp) (f : Eff), r[j]? = some (d, f) ∧ f.st = some (k, y)) → ∃ (j : Nat) (d : Option Tmp) (f : Eff), ((c, g) :: r)[j]? = some (d, f) ∧ f.st = some (k, y) := fun ⟨j, d, f, h1, h2⟩ => ⟨j + 1, d, f, by simpa using h1, h2⟩
    simp only [pushSt] at h
    split at h
    · rename_i e hst
      obtain ⟨b, z⟩ := e
      rcases find_cons h with ⟨h1, h2⟩ | ⟨h1, h2⟩
      · subst h1 h2; exact .inl ⟨0, c, g, rfl, hst⟩
      · rcases find_pushSt h2 with h3 | ⟨h3, h4⟩
        · exact .inl (lift h3)
        · refine .inr ⟨h3, fun j d f hj => ?_⟩
          cases j with
          | zero =>
            simp at hj
            intro z' hz
            rw [← hj.2, hst] at hz
            injection hz with hz; injection hz with e1 e2
            exact h1 e1
          | succ j => exact h4 j d f (by simpa using hj)
    · rename_i hst
      rcases find_pushSt h with h3 | ⟨h3, h4⟩
      · exact .inl (lift h3)
      · refine .inr ⟨h3, fun j d f hj => ?_⟩
        cases j with
        | zero =>
          simp at hj
          intro z' hz
          rw [← hj.2, hst] at hz
          cases hz
        | succ j => exact h4 j d f (by simpa using hj)

theorem addL_pre {u0 : Nat} {fs gs : List (Option Tmp × Eff)} : ∀ {js : List Nat} {s s' : St}, addL s u0 fs js = some s' → addL s u0 (fs ++ gs) js = some s' ∧ ∀ j ∈ js, j < fs.length
  | [], s, s', h => ⟨h, fun j hj => by cases hj⟩
  | j :: js, s, s', h => by
    simp only [addL] at h
    split at h
    · rename_i d f t h1 h2
      obtain ⟨h3, h4⟩ := addL_pre (gs := gs) h2
      have hlt : j < fs.length := (List.getElem?_eq_some_iff.1 h1).1
      refine ⟨?_, fun k hk => ?_⟩
      · simp only [addL, h3]
        rw [List.getElem?_append_left hlt, h1]
        exact h
      · rcases List.mem_cons.1 hk with e | e
        · subst e; exact hlt
        · exact h4 k e
    · cases h

/-- what is known of each operation -/
def Fact (P : Program) (tab : Tab) (n : Nat) (ops : Array Oper) (s0 : St) (u0 : Nat) (S : List (Nat × Nat)) (ms : List Nat) (fs : List (Option Tmp × Eff)) (i : Nat) (o : Oper) : Prop :=
  dstOk n o.dst = true ∧ (∀ j ∈ depsOf o, j < i) ∧ ∃ f s, fs[i]? = some (o.dst, f) ∧ addL s0 u0 fs (depsOf o) = some s ∧
    ((guardOf ops s o = some true ∧ step P tab ⟨s.env, cutMem S ms i s.mem, s.hs⟩ (u0 + i) o.op = some f) ∨ (guardOf ops s o = some false ∧ f = Eff.nil))

theorem effsL_ok {ops : Array Oper} {s0 : St} {u0 : Nat} {chk : Bool} {S : List (Nat × Nat)} {ms : List Nat} : ∀ {l : List Oper} {i : Nat} {fs gs : List (Option Tmp × Eff)}, effsL P tab n ops s0 u0 chk S ms l i fs = some gs → fs.length = i →
    (∃ hs, gs = fs ++ hs ∧ hs.length = l.length) ∧ ∀ (j : Nat) (o : Oper), l[j]? = some o → Fact P tab n ops s0 u0 S ms gs (i + j) o ∧ (chk = true → ∀ d f b y, gs[i + j]? = some (d, f) → f.st = some (b, y) → (i + j, b) ∈ S)
  | [], i, fs, gs, h, hl => by
    injection h with h; subst h
    exact ⟨⟨[], by simp, rfl⟩, fun j o hj => by simp at hj⟩
  | o :: r, i, fs, gs, h, hl => by
    simp only [effsL] at h
    cases hd : dstOk n o.dst with
    | false => rw [hd] at h; cases h
    | true =>
      rw [hd] at h
      dsimp only at h
      cases ha : addL s0 u0 fs (depsOf o) with
      | none => rw [ha] at h; cases h
      | some s =>
        rw [ha] at h
        dsimp only at h
        have key : ∀ f : Eff, (chk = true → ∀ b y, f.st = some (b, y) → (i, b) ∈ S) → effsL P tab n ops s0 u0 chk S ms r (i + 1) (fs ++ [(o.dst, f)]) = some gs → ((guardOf ops s o = some true ∧ step P tab ⟨s.env, cutMem S ms i s.mem, s.hs⟩ (u0 + i) o.op = some f) ∨ (guardOf ops s o = some false ∧ f = Eff.nil)) →
            (∃ hs, gs = fs ++ hs ∧ hs.length = (o :: r).length) ∧ ∀ (j : Nat) (x : Oper), (o :: r)[j]? = some x → Fact P tab n ops s0 u0 S ms gs (i + j) x ∧ (chk = true → ∀ d f b y, gs[i + j]? = some (d, f) → f.st = some (b, y) → (i + j, b) ∈ S) := by
          intro f hst he hor
          obtain ⟨⟨hs, h1, h2⟩, h3⟩ := effsL_ok he (by simp [hl])
          refine ⟨⟨(o.dst, f) :: hs, by rw [h1]; simp, by simp [h2]⟩, fun j x hj => ?_⟩
          cases j with
          | zero =>
            simp at hj; subst hj
            obtain ⟨h4, h5⟩ := addL_pre (gs := (o.dst, f) :: hs) ha
            have e : fs ++ (o.dst, f) :: hs = gs := by rw [h1]; simp
            rw [e] at h4
            have hget : gs[i]? = some (o.dst, f) := by rw [← e, ← hl]; simp
            refine ⟨⟨hd, fun j hj => hl ▸ h5 j hj, f, s, hget, h4, hor⟩, fun hc d g b y hg hy => ?_⟩
            rw [Nat.add_zero] at hg ⊢
            rw [hget] at hg
            injection hg with hg; injection hg with e1 e2; subst e1 e2
            exact hst hc b y hy
          | succ j =>
            have := h3 j x (by simpa using hj)
            rwa [show i + 1 + j = i + (j + 1) by omega] at this
        cases hg : guardOf ops s o with
        | none => rw [hg] at h; cases h
        | some b =>
          rw [hg] at h
          cases b with
          | false => exact key Eff.nil (fun _ b y hb => by cases hb) h (.inr ⟨hg, rfl⟩)
          | true =>
            dsimp only at h
            cases hs : step P tab ⟨s.env, cutMem S ms i s.mem, s.hs⟩ (u0 + i) o.op with
            | none => rw [hs] at h; cases h
            | some f =>
              rw [hs] at h
              dsimp only at h
              cases hst : f.st with
              | none => rw [hst] at h; exact key f (fun _ b y hb => by rw [hst] at hb; cases hb) h (.inl ⟨hg, hs⟩)
              | some q =>
                obtain ⟨b, y⟩ := q
                rw [hst] at h
                dsimp only at h
                cases chk with
                | false => exact key f (fun hc => by cases hc) h (.inl ⟨hg, hs⟩)
                | true =>
                  dsimp only at h
                  cases hm : memS i b S with
                  | false => rw [hm] at h; cases h
                  | true =>
                    rw [hm] at h
                    refine key f (fun _ b' y' hb => ?_) h (.inl ⟨hg, hs⟩)
                    rw [hst] at hb
                    injection hb with hb; injection hb with e1 e2; subst e1
                    exact memS_ok hm

/-- no operation that is listed writes the block -/
def Unst (fs : List (Option Tmp × Eff)) (listed : Array Bool) (k : Nat) : Prop := ∀ j d f, listed.getD j false = true → fs[j]? = some (d, f) → ∀ y, f.st ≠ some (k, y)

/-- the operations that are listed are done, no others -/
structure Inv (D : Den) (k0 n : Nat) (ops : Array Oper) (w0 : World) (s0 : St) (u0 : Nat) (fs : List (Option Tmp × Eff)) (listed : Array Bool) (σ : Env) (a : Act) (w : World) : Prop where
  ok : Ok D k0 n (fun x => u0 ≤ x ∧ ∀ i, x = u0 + i → i < ops.size → listed.getD i false = false) w0 ⟨s0.env, [], s0.hs⟩ σ a w
  mem : ∀ k ty as, find s0.mem k = some (ty, as) → Unst fs listed k → Lies D σ w k ty as
  done : ∀ i d f, listed.getD i false = true → fs[i]? = some (d, f) → Done D d f σ a w
  blk : ∀ i d f ty as, listed.getD i false = true → fs[i]? = some (d, f) → f.blk = some (ty, as) → Unst fs listed (u0 + i) → Lies D σ w (u0 + i) ty as
  closed : ∀ j o, listed.getD j false = true → ops[j]? = some o → ∀ d ∈ depsOf o, listed.getD d false = true
  size : listed.size = ops.size

theorem Done.after {u : Nat} {dst : Option Tmp} {f g : Eff} {x : Value} {d : Option Tmp} (h : Done D dst f σ a w) (hok : Ok D k0 n F w0 s σ a w) (hA : After D u g σ w σ' w' x) (hst : ∀ k y z, f.st = some (k, y) → g.st ≠ some (k, z)) (hne : ∀ t, dst = some t → d ≠ some t) : Done D dst f σ' (a.put d x) w' where
  val := fun t y h1 h2 => by
    have := T.Is_mono hA.le (h.val t y h1 h2)
    cases d with
    | none => exact this
    | some e => rw [put_other a e t x (fun he => hne t h1 (by rw [he]))]; exact this
  hld := fun i e h1 => by
    obtain ⟨y, h2, h3⟩ := h.hld i e h1
    exact ⟨y, hA.le.h _ _ h2, hold_after h3 h2 hok hA⟩
  st := fun k ty as h1 => (h.st k ty as h1).after hok hA fun t bs => hst k (ty, as) (t, bs) h1

theorem After.done {u : Nat} {dst : Option Tmp} {f : Eff} {v : Value} (hA : After D u f σ w σ' w' v) (hd : dstOk a.tmps.size dst = true) : Done D dst f σ' (a.put dst v) w' where
  val := fun t y h1 h2 => by
    subst h1
    rw [put_same a t v (Nat.le_of_ble_eq_true hd)]
    exact hA.val y h2
  hld := hA.hld
  st := fun k ty as h1 => by
    have hw := hA.world
    rw [h1] at hw
    obtain ⟨g, l, cur, h4, h5, h6, rfl⟩ := hw
    exact ⟨g, l, hA.le.b _ _ h4, cellsL_mono hA.le h5, setRow_heap w g cur _ _ _ h6⟩

theorem After.weakSt {u : Nat} {f : Eff} {v : Value} (h : After D u f σ w σ' w' v) : After D u ⟨none, none, [], f.st⟩ σ w σ' w' v :=
  { h with val := fun _ h => (by cases h), blk := fun _ _ h => (by cases h), hld := fun _ _ h => (by cases h), world := h.world }

theorem count_set (l : Array Bool) (i : Nat) (h : l.getD i true = false) : (l.setIfInBounds i true).toList.count false + 1 = l.toList.count false := by
  have hi : i < l.size := by
    rcases Nat.lt_or_ge i l.size with h' | h'
    · exact h'
    · simp [Array.getElem?_eq_none h'] at h
  have hv : l.toList[i]'(by simpa using hi) = false := by simpa [hi] using h
  have hc : 0 < l.toList.count false := List.count_pos_iff.2 (by rw [← hv]; exact List.getElem_mem _)
  rw [Array.toList_setIfInBounds, List.count_set (by simpa using hi)]
  simp [hv]
  have hc' : 0 < l.count false := by simpa using hc
  omega

theorem wpAny_run (R : Right P D I tab) (hI : ∀ w, Below w0.heap.size w0 w → I w) {ops : Array Oper} {Q : Exit → Act → World → Prop} {s0 : St} {u0 : Nat} {S : List (Nat × Nat)} {ms : List Nat} {fs : List (Option Tmp × Eff)}
    (hF : ∀ (j : Nat) (o : Oper), ops[j]? = some o → Fact P tab n ops s0 u0 S ms fs j o) (hlen : fs.length = ops.size) (hap : ∀ (i j : Nat) (x y : Oper) (d : Tmp), ops[i]? = some x → ops[j]? = some y → x.dst = some d → y.dst = some d → i = j)
    (hS : ∀ j d f b y, fs[j]? = some (d, f) → f.st = some (b, y) → (j, b) ∈ S) (hB : ∀ b i j, (i, b) ∈ S → (j, b) ∈ S → i = j)
    (hM : ∀ i j o, ops[j]? = some o → Nat.testBit (ms.getD j 0) i = true → ∃ d ∈ depsOf o, d = i ∨ Nat.testBit (ms.getD d 0) i = true)
    (hno : ∀ t x, find s0.env t = some x → ∀ o ∈ ops.toList, o.dst ≠ some t)
    (hQ : ∀ (listed : Array Bool) σ a w, (∀ i, i < ops.size → listed.getD i false = true) → Inv D k0 n ops w0 s0 u0 fs listed σ a w → Q .normal a w) :
    ∀ (fuel : Nat) (listed : Array Bool) (σ : Env) (a : Act) (w : World), Inv D k0 n ops w0 s0 u0 fs listed σ a w → listed.toList.count false ≤ fuel → wpAny P .any ops Q fuel listed a w := by
  have inr : ∀ (listed : Array Bool) (j : Nat), listed.size = ops.size → listed.getD j false = true → j < ops.size := by
    intro listed j hsz h
    rcases Nat.lt_or_ge j ops.size with h' | h'
    · exact h'
    · rw [← hsz] at h'
      simp [Array.getElem?_eq_none h'] at h
  have anc : ∀ (listed : Array Bool) σ a w, Inv D k0 n ops w0 s0 u0 fs listed σ a w → ∀ i j, listed.getD j false = true → Nat.testBit (ms.getD j 0) i = true → listed.getD i false = true := by
    intro listed σ a w h i j
    induction j using Nat.strongRecOn with
    | _ j ih =>
      intro hj ht
      have hlt := inr listed j h.size hj
      obtain ⟨d, hd, h1⟩ := hM i j ops[j] (by simp [hlt]) ht
      have hdl := h.closed j ops[j] hj (by simp [hlt]) d hd
      rcases h1 with h1 | h1
      · subst h1; exact hdl
      · exact ih d ((hF j ops[j] (by simp [hlt])).2.1 d hd) hdl h1
  have all : ∀ listed : Array Bool, listed.size = ops.size → Region.ready .any ops listed = [] → ∀ i, i < ops.size → listed.getD i false = true := by
    intro listed hsz hr i
    induction i using Nat.strongRecOn with
    | _ i ih =>
      intro hi
      cases hl : listed.getD i true with
      | true =>
        have : i < listed.size := by omega
        simpa [this] using hl
      | false =>
        have : i ∈ Region.ready .any ops listed := by
          rw [mem_ready]
          refine ⟨hl, ops[i], by simp [hi], fun e he hb => ?_⟩
          obtain ⟨h1, h2, h3⟩ := hF i ops[i] (by simp [hi])
          have hlt := h2 e.on (List.mem_filterMap.2 ⟨e, by simpa using he, by rw [hb]⟩)
          exact ih e.on hlt (by omega)
        rw [hr] at this
        cases this
  intro fuel
  induction fuel with
  | zero =>
    intro listed σ a w h hc
    have hnone : ∀ i, i < ops.size → listed.getD i false = true := by
      intro i hi
      have hi' : i < listed.size := by rw [h.size]; exact hi
      cases hv : listed[i] with
      | true => simp [hi', hv]
      | false =>
        have : 0 < listed.toList.count false := List.count_pos_iff.2 (by rw [← hv]; simp)
        omega
    refine ⟨?_, hQ listed σ a w hnone h⟩
    cases hr : Region.ready .any ops listed with
    | nil => rfl
    | cons i r =>
      have hm : i ∈ Region.ready .any ops listed := by rw [hr]; simp
      obtain ⟨h1, o, h2, h3⟩ := mem_ready.1 hm
      have hi : i < ops.size := (Array.getElem?_eq_some_iff.1 h2).1
      have := hnone i hi
      have hi' : i < listed.size := by rw [h.size]; exact hi
      simp [hi'] at this h1
      rw [this] at h1; cases h1
  | succ fuel ih =>
    intro listed σ a w h hc
    refine ⟨fun hr => hQ listed σ a w (all listed h.size hr) h, fun i hi => ?_⟩
    obtain ⟨h1, o, h2, h3⟩ := mem_ready.1 hi
    have hilt : i < ops.size := (Array.getElem?_eq_some_iff.1 h2).1
    obtain ⟨hd, hdeps, f, s, hf, hadd, hor⟩ := hF i o h2
    have hl0 : listed.getD i false = false := by
      have hi' : i < listed.size := by rw [h.size]; exact hilt
      simpa [hi'] using h1
    have hdl : ∀ j ∈ depsOf o, listed.getD j false = true := by
      intro j hj
      obtain ⟨e, he, hb⟩ := List.mem_filterMap.1 hj
      cases hb' : Region.binds .any e with
      | false => rw [hb'] at hb; cases hb
      | true =>
        rw [hb'] at hb
        injection hb with hb; subst hb
        exact h3 e (by simpa using he) hb'
    obtain ⟨a1, a2, a3⟩ := addL_from hadd
    have hs : Ok D k0 n (fun x => u0 ≤ x ∧ ∀ i, x = u0 + i → i < ops.size → listed.getD i false = false) w0 ⟨s.env, cutMem S ms i s.mem, s.hs⟩ σ a w :=
      { h.ok with
        tmps := fun t x hx => by
          rcases a1 t x hx with h4 | ⟨j, hj, g, h4, h5⟩
          · exact h.ok.tmps t x h4
          · exact (h.done j _ g (hdl j hj) h4).val t x rfl h5
        mem := fun k ty as hx => by
          obtain ⟨h4, h5⟩ := find_cutMem hx
          have hun : Unst fs listed k := fun j d g hj hg y hy => by
            rcases h5 j (hS j d g k y hg hy) with e | e
            · subst e; rw [hl0] at hj; cases hj
            · have := anc listed σ a w h i j hj e
              rw [hl0] at this; cases this
          rcases a2 k ty as h4 with h6 | ⟨j, hj, d, g, h6, h7, rfl⟩
          · exact h.mem k ty as h6 hun
          · exact h.blk j d g ty as (hdl j hj) h6 h7 hun
        hs := fun e x hx => by
          rcases a3 e x hx with h4 | ⟨j, hj, d, g, h4, h5⟩
          · exact h.ok.hs e x h4
          · exact (h.done j d g (hdl j hj) h4).hld e x h5 }
    obtain ⟨hu, hh⟩ := h.ok.fresh (u0 + i) ⟨by omega, fun k hk _ => by
      have : k = i := by omega
      subst this; exact hl0⟩
    have next : ∀ σ' w' v, After D (u0 + i) f σ w σ' w' v → wpAny P .any ops Q fuel (listed.setIfInBounds i true) (a.put o.dst v) w' := by
      intro σ' w' v hA
      have hi' : i < listed.size := by rw [h.size]; exact hilt
      have hself : (listed.setIfInBounds i true).getD i false = true := by simp [hi']
      have hmono : ∀ k, listed.getD k false = true → (listed.setIfInBounds i true).getD k false = true := by
        intro k hk
        by_cases e : i = k
        · subst e; exact hself
        · rwa [getD_set_ne false e]
      have hunst : ∀ k, Unst fs (listed.setIfInBounds i true) k → Unst fs listed k ∧ ∀ t bs, f.st ≠ some (k, t, bs) := fun k hk =>
        ⟨fun j d g hj hg => hk j d g (hmono j hj) hg, fun t bs => hk i o.dst f hself hf (t, bs)⟩
      refine ih _ σ' _ w' ⟨?_, fun k ty as hx hk => ?_, fun k d g hk hg => ?_, fun k d g ty as hk hg hb hkk => ?_, fun j x hj hx d hd => ?_, by simp [h.size]⟩ (by have := count_set listed i h1; omega)
      · have := h.ok.step (F' := fun x => u0 ≤ x ∧ ∀ k, x = u0 + k → k < ops.size → (listed.setIfInBounds i true).getD k false = false) hA.weakSt (fun x hx => ⟨⟨hx.1, fun k hk hlt => by
            have := hx.2 k hk hlt
            by_cases e : i = k
            · subst e; rw [hself] at this; cases this
            · rwa [getD_set_ne false e] at this⟩, fun e => by
            have := hx.2 i e hilt
            rw [hself] at this; cases this⟩) hd
        refine this.weaken (fun t x hx => ?_) (fun t x hx => ?_) (fun t x hx => ?_)
        · simp only [St.put]
          cases hdst : o.dst with
          | none => exact hx
          | some d =>
            dsimp only
            refine find_rem_of hx fun e => ?_
            subst e
            exact hno t x hx o (by have := Array.mem_of_getElem? h2; simpa using this) hdst
        · cases hx
        · simp only [St.put]
          split <;> exact hx
      · obtain ⟨k1, k2⟩ := hunst k hk
        exact (h.mem k ty as hx k1).after h.ok hA k2
      · by_cases e : i = k
        · subst e
          rw [hf] at hg
          injection hg with hg; injection hg with e1 e2; subst e1 e2
          exact hA.done (by rw [h.ok.size]; exact hd)
        · rw [getD_set_ne false e] at hk
          refine (h.done k d g hk hg).after h.ok hA (fun b y z hy hz => e (hB b i k (hS i _ f b z hf hz) (hS k d g b y hg hy))) fun t ht hot => ?_
          have hklt : k < ops.size := by
            have := (List.getElem?_eq_some_iff.1 hg).1
            omega
          obtain ⟨_, _, g', s', hg', _⟩ := hF k ops[k] (by simp [hklt])
          rw [hg] at hg'
          injection hg' with hg'; injection hg' with e1 e2
          exact e (hap i k o ops[k] t h2 (by simp [hklt]) hot (e1 ▸ ht))
      · obtain ⟨k1, k2⟩ := hunst _ hkk
        by_cases e : i = k
        · subst e
          rw [hf] at hg
          injection hg with hg; injection hg with e1 e2; subst e1 e2
          exact hA.blk ty as hb
        · rw [getD_set_ne false e] at hk
          exact (h.blk k d g ty as hk hg hb k1).after h.ok hA k2
      · by_cases e : i = j
        · subst e
          rw [h2] at hx
          injection hx with hx; subst hx
          exact hmono d (hdl d hd)
        · rw [getD_set_ne false e] at hj
          exact hmono d (h.closed j x hj hx d hd)
    unfold wpOp
    simp only [h2]
    rcases hor with ⟨hg, hstep⟩ | ⟨hg, rfl⟩
    · have hw := guardOf_ok (s := ⟨s.env, cutMem S ms i s.mem, s.hs⟩) hs (show guardOf ops _ o = _ from hg)
      rw [if_pos hw]
      exact .inl (step_ok R (hI w h.ok.below) hs hu hh hstep next)
    · have hw := guardOf_ok (s := ⟨s.env, cutMem S ms i s.mem, s.hs⟩) hs (show guardOf ops _ o = _ from hg)
      rw [if_neg (by rw [hw]; simp)]
      exact next σ w undef (After.idle hu undef)

theorem runDraw_ok (R : Right P D I tab) (hI : ∀ w, Below w0.heap.size w0 w → I w) {ops : Array Oper} {Q : Exit → Act → World → Prop} {u : Nat} {s s' : St}
    (h : Ok D k0 n (u ≤ ·) w0 s σ a w) (hr : runDraw P tab n ops u s = some s') (hQ : ∀ σ' a' w', Ok D k0 n (u + ops.size ≤ ·) w0 s' σ' a' w' → Q .normal a' w') :
    wpAny P .any ops Q ops.size (Array.replicate ops.size false) a w := by
  unfold runDraw at hr
  cases hap : apartDst ops.toList with
  | false => rw [hap] at hr; cases hr
  | true =>
    rw [hap] at hr
    dsimp only at hr
    cases he : allEffs P tab n ops ⟨remOps ops.toList s.env, s.mem, s.hs⟩ u with
    | none => rw [he] at hr; cases hr
    | some fs =>
      rw [he] at hr
      dsimp only at hr
      cases hadd : addL ⟨remOps ops.toList s.env, s.mem, s.hs⟩ u fs (List.range fs.length) with
      | none => rw [hadd] at hr; cases hr
      | some t =>
      rw [hadd] at hr
      injection hr with hr; subst hr
      have key : ∃ S ms, (fs.length = ops.size) ∧ (∀ (j : Nat) (o : Oper), ops[j]? = some o → Fact P tab n ops ⟨remOps ops.toList s.env, s.mem, s.hs⟩ u S ms fs j o) ∧ (∀ j d f b y, fs[j]? = some (d, f) → f.st = some (b, y) → (j, b) ∈ S) ∧
          (∀ b i j, (i, b) ∈ S → (j, b) ∈ S → i = j) ∧ (∀ i j o, ops[j]? = some o → Nat.testBit (ms.getD j 0) i = true → ∃ d ∈ depsOf o, d = i ∨ Nat.testBit (ms.getD d 0) i = true) := by
        unfold allEffs at he
        cases h1 : effsL P tab n ops ⟨remOps ops.toList s.env, s.mem, s.hs⟩ u false [] [] ops.toList 0 [] with
        | none => rw [h1] at he; cases he
        | some gs =>
          rw [h1] at he
          dsimp only at he
          split at he
          · rename_i hst
            injection he with he; subst he
            obtain ⟨⟨hs, e1, e2⟩, h3⟩ := effsL_ok h1 rfl
            refine ⟨[], [], by rw [e1]; simpa using e2, fun j o hj => ?_, fun j d f b y hj hy => ?_, fun b i j hi => (by cases hi), fun i j o hj ht => ?_⟩
            · have := (h3 j o (by simpa using hj)).1
              simpa using this
            · rw [storesOf_nil hst hj] at hy; cases hy
            · simp at ht
          · rename_i S hne
            cases hB : apartB (storesOf gs 0) with
            | false => rw [hB] at he; cases he
            | true =>
              rw [hB] at he
              dsimp only at he
              obtain ⟨⟨hs, e1, e2⟩, h3⟩ := effsL_ok he rfl
              have hlen : fs.length = ops.size := by rw [e1]; simpa using e2
              refine ⟨storesOf gs 0, masksL ops.toList [], hlen, fun j o hj => ?_, fun j d f b y hj hy => ?_, fun b i j hi hj => apartB_ok hB hi hj, fun i j o hj ht => ?_⟩
              · have := (h3 j o (by simpa using hj)).1
                simpa using this
              · have hjlt : j < ops.size := by
                  have := (List.getElem?_eq_some_iff.1 hj).1
                  omega
                have := (h3 j ops[j] (by simp [hjlt])).2 rfl d f b y (by simpa using hj) hy
                simpa using this
              · exact masksL_ok (l := ops.toList) (ms := []) (j := j) (by simpa using hj) (by simpa using ht)
      obtain ⟨S, ms, hlen, hF, hS, hB, hM⟩ := key
      have hok : Ok D k0 n (u ≤ ·) w0 ⟨remOps ops.toList s.env, s.mem, s.hs⟩ σ a w := h.weaken (fun t x hx => (find_remOps hx).2) (fun t x hx => hx) (fun t x hx => hx)
      have hfalse : ∀ i, (Array.replicate ops.size false).getD i false = true → False := by
        intro i hi
        by_cases e : i < ops.size
        · simp [e] at hi
        · simp [e] at hi
      refine wpAny_run R hI hF hlen (fun i j x y d hi hj => apartDst_ok hap i j x y d (by simpa using hi) (by simpa using hj)) hS hB hM (fun t x hx => (find_remOps hx).1) ?_ ops.size _ σ a w
        ⟨(hok.fewer fun x hx => hx.1).weaken (fun t x hx => hx) (fun t x hx => by cases hx) (fun t x hx => hx), fun k ty as hx _ => hok.mem k ty as hx, fun i d f hi _ => (hfalse i hi).elim, fun i d f ty as hi _ _ _ => (hfalse i hi).elim, fun j o hj _ _ _ => (hfalse j hj).elim, by simp⟩ ?_
      · intro listed σ' a' w' hall hinv
        refine hQ σ' a' w' ?_
        obtain ⟨a1, a2, a3⟩ := addL_from hadd
        have hl : ∀ j d f, fs[j]? = some (d, f) → listed.getD j false = true := fun j d f hj => hall j (by
          have := (List.getElem?_eq_some_iff.1 hj).1
          omega)
        have hfin : Ok D k0 n (u + ops.size ≤ ·) w0 ⟨remOps ops.toList s.env, [], s.hs⟩ σ' a' w' := hinv.ok.fewer fun x hx => ⟨by omega, fun i hi hlt => by omega⟩
        exact { hfin with
          tmps := fun x y hx => by
            rcases a1 x y hx with h4 | ⟨j, hj, g, h4, h5⟩
            · exact hfin.tmps x y h4
            · exact (hinv.done j _ g (hl j _ g h4) h4).val x y rfl h5
          mem := fun k ty as hx => by
            rcases find_pushSt hx with ⟨j, d, f, h4, h5⟩ | ⟨h4, h5⟩
            · exact (hinv.done j d f (hl j d f h4) h4).st k ty as h5
            · have hun : Unst fs listed k := fun j d f _ hj y => h5 j d f hj y
              rcases a2 k ty as h4 with h6 | ⟨j, hj, d, g, h6, h7, rfl⟩
              · exact hinv.mem k ty as h6 hun
              · exact hinv.blk j d g ty as (hl j d g h6) h6 h7 hun
          hs := fun e x hx => by
            rcases a3 e x hx with h4 | ⟨j, hj, d, g, h4, h5⟩
            · exact hfin.hs e x h4
            · exact (hinv.done j d g (hl j d g h4) h4).hld e x h5 }
      · simp
end
end Go.Proofs.YtdconlmpjehohaaDoor.Sx

/- A symbolic run of straight code, part 7: bodies of functions. Conditions: those of each theorem. -/
namespace Go.Proofs.YtdconlmpjehohaaDoor.Sx
open Go.RowKit
set_option linter.unusedVariables false

inductive Ex where
  | normal
  | exit (id : Nat)
  | ret

def Ex.as : Ex → Exit
  | .normal => .normal
  | .exit id => .exit id
  | .ret => .ret

/-- what is known, reckoned out (in the kernel nothing is reckoned out that is not looked at) -/
def forceN {β : Type} (n : Nat) (k : Nat → β) : β := match n with
  | 0 => k 0
  | m + 1 => k (m + 1)

def forceI {β : Type} (i : Int) (k : Int → β) : β := match i with
  | .ofNat n => forceN n fun n => k (.ofNat n)
  | .negSucc n => forceN n fun n => k (.negSucc n)

def forceE {β : Type} : E → (E → β) → β
  | .dt i, k => forceN i fun i => k (.dt i)
  | .op c a b, k => forceN c fun c => forceE a fun a => forceE b fun b => k (.op c a b)

def forceA {β : Type} (a : Atom) (k : Atom → β) : β := match a with
  | .bool b => match b with
    | true => k (.bool true)
    | false => k (.bool false)
  | .int kd n => forceI n fun n => k (.int kd n)
  | .el e => forceE e fun e => k (.el e)
  | .ptr b o => forceN b fun b => forceN o fun o => k (.ptr b o)
  | .slc b o n c => forceN b fun b => forceN o fun o => forceN n fun n => forceN c fun c => k (.slc b o n c)
  | .nils => k .nils
  | .held i => forceN i fun i => k (.held i)
  | .gl g => forceN g fun g => k (.gl g)
  | .hp i j => forceN i fun i => forceN j fun j => k (.hp i j)

def forceAs {β : Type} : List Atom → (List Atom → β) → β
  | [], k => k []
  | a :: as, k => forceA a fun a => forceAs as fun as => k (a :: as)

def forceV {β : Type} (x : V) (k : V → β) : β := match x with
  | .one a => forceA a fun a => k (.one a)
  | .agg as => forceAs as fun as => k (.agg as)

def forceVs {β : Type} : List V → (List V → β) → β
  | [], k => k []
  | a :: as, k => forceV a fun a => forceVs as fun as => k (a :: as)

def forceT {β : Type} (x : T) (k : T → β) : β := match x with
  | .dt x => forceV x fun x => k (.dt x)
  | .tup xs => forceVs xs fun xs => k (.tup xs)

/-- each name once -/
def forceEnv {β : Type} : List (Nat × T) → Nat → (List (Nat × T) → β) → β
  | [], _, k => k []
  | (t, x) :: r, m, k => match Nat.testBit m t with
    | true => forceEnv r m k
    | false => forceN t fun t => forceT x fun x => forceEnv r (Nat.lor m (Nat.shiftLeft 1 t)) fun l => k ((t, x) :: l)

def forceMem {β : Type} : List (Nat × TypeId × List Atom) → Nat → (List (Nat × TypeId × List Atom) → β) → β
  | [], _, k => k []
  | (t, ty, as) :: r, m, k => match Nat.testBit m t with
    | true => forceMem r m k
    | false => forceN t fun t => forceN ty fun ty => forceAs as fun as => forceMem r (Nat.lor m (Nat.shiftLeft 1 t)) fun l => k ((t, ty, as) :: l)

def forceHs {β : Type} : List (Nat × E) → (List (Nat × E) → β) → β
  | [], k => k []
  | (t, x) :: r, k => forceN t fun t => forceE x fun x => forceHs r fun l => k ((t, x) :: l)

def forceSt {β : Type} (s : St) (k : St → β) : β := forceEnv s.env 0 fun e => forceMem s.mem 0 fun m => forceHs s.hs fun h => k ⟨e, m, h⟩

section
variable {β : Type}
theorem forceN_eq (n : Nat) (k : Nat → β) : forceN n k = k n := by cases n <;> rfl
theorem forceI_eq (i : Int) (k : Int → β) : forceI i k = k i := by cases i <;> simp only [forceI, forceN_eq]
theorem forceE_eq : ∀ (e : E) (k : E → β), forceE e k = k e
  | .dt i, k => by rw [forceE, forceN_eq]
  | .op c a b, k => by rw [forceE, forceN_eq, forceE_eq a, forceE_eq b]
theorem forceA_eq (a : Atom) (k : Atom → β) : forceA a k = k a := by
  cases a with
  | bool b => cases b <;> rfl
  | int kd n => simp only [forceA, forceI_eq]
  | el e => simp only [forceA, forceE_eq]
  | ptr b o => simp only [forceA, forceN_eq]
  | slc b o n c => simp only [forceA, forceN_eq]
  | nils => rfl
  | held i => simp only [forceA, forceN_eq]
  | gl g => simp only [forceA, forceN_eq]
  | hp i j => simp only [forceA, forceN_eq]
theorem forceAs_eq : ∀ (l : List Atom) (k : List Atom → β), forceAs l k = k l
  | [], k => rfl
  | a :: l, k => by rw [forceAs, forceA_eq, forceAs_eq l]
theorem forceV_eq (x : V) (k : V → β) : forceV x k = k x := by
  cases x with
  | one a => simp only [forceV, forceA_eq]
  | agg l => simp only [forceV, forceAs_eq]
theorem forceVs_eq : ∀ (l : List V) (k : List V → β), forceVs l k = k l
  | [], k => rfl
  | a :: l, k => by rw [forceVs, forceV_eq, forceVs_eq l]
theorem forceT_eq (x : T) (k : T → β) : forceT x k = k x := by
  cases x with
  | dt x => simp only [forceT, forceV_eq]
  | tup l => simp only [forceT, forceVs_eq]
theorem forceHs_eq : ∀ (l : List (Nat × E)) (k : List (Nat × E) → β), forceHs l k = k l
  | [], k => rfl
  | (t, x) :: l, k => by rw [forceHs, forceN_eq, forceE_eq, forceHs_eq l]
end

theorem testBit_add {m t s : Nat} (h : Nat.testBit (Nat.lor m (Nat.shiftLeft 1 t)) s = false) : Nat.testBit m s = false := by
  have h : Nat.testBit (m ||| (1 <<< t)) s = false := h
  rw [Nat.testBit_or] at h
  simp only [Bool.or_eq_false_iff] at h
  exact h.1

theorem find_other {α : Type} {t s : Nat} {x : α} {l : List (Nat × α)} (h : t ≠ s) : find ((t, x) :: l) s = find l s := by
  simp only [find]
  cases hb : Nat.beq t s with
  | true => exact absurd (Nat.eq_of_beq_eq_true hb) h
  | false => rfl

theorem find_same {α : Type} {t : Nat} {x : α} {l : List (Nat × α)} : find ((t, x) :: l) t = some x := by simp [find]

theorem forceEnv_ok : ∀ (l : List (Nat × T)) (m : Nat), ∃ l', (∀ (β : Type) (k : List (Nat × T) → β), forceEnv l m k = k l') ∧ ∀ t y, find l' t = some y → find l t = some y ∧ Nat.testBit m t = false
  | [], m => ⟨[], fun _ _ => rfl, fun t y h => by cases h⟩
  | (t, x) :: r, m => by
    cases hb : Nat.testBit m t with
    | true =>
      obtain ⟨l', h1, h2⟩ := forceEnv_ok r m
      refine ⟨l', fun β k => by rw [forceEnv, hb]; exact h1 β k, fun s y h => ?_⟩
      obtain ⟨h3, h4⟩ := h2 s y h
      exact ⟨by rw [find_other (fun e => by subst e; rw [hb] at h4; cases h4)]; exact h3, h4⟩
    | false =>
      obtain ⟨l', h1, h2⟩ := forceEnv_ok r (Nat.lor m (Nat.shiftLeft 1 t))
      refine ⟨(t, x) :: l', fun β k => by rw [forceEnv, hb]; simp only [forceN_eq, forceT_eq, h1], fun s y h => ?_⟩
      rcases find_cons h with ⟨h3, h4⟩ | ⟨h3, h4⟩
      · subst h3 h4; exact ⟨find_same, hb⟩
      · obtain ⟨h5, h6⟩ := h2 s y h4
        exact ⟨by rw [find_other h3]; exact h5, testBit_add h6⟩

theorem forceMem_ok : ∀ (l : List (Nat × TypeId × List Atom)) (m : Nat), ∃ l', (∀ (β : Type) (k : List (Nat × TypeId × List Atom) → β), forceMem l m k = k l') ∧ ∀ t y, find l' t = some y → find l t = some y ∧ Nat.testBit m t = false
  | [], m => ⟨[], fun _ _ => rfl, fun t y h => by cases h⟩
  | (t, ty, as) :: r, m => by
    cases hb : Nat.testBit m t with
    | true =>
      obtain ⟨l', h1, h2⟩ := forceMem_ok r m
      refine ⟨l', fun β k => by rw [forceMem, hb]; exact h1 β k, fun s y h => ?_⟩
      obtain ⟨h3, h4⟩ := h2 s y h
      exact ⟨by rw [find_other (fun e => by subst e; rw [hb] at h4; cases h4)]; exact h3, h4⟩
    | false =>
      obtain ⟨l', h1, h2⟩ := forceMem_ok r (Nat.lor m (Nat.shiftLeft 1 t))
      refine ⟨(t, ty, as) :: l', fun β k => by rw [forceMem, hb]; simp only [forceN_eq, forceAs_eq, h1], fun s y h => ?_⟩
      rcases find_cons h with ⟨h3, h4⟩ | ⟨h3, h4⟩
      · subst h3 h4; exact ⟨find_same, hb⟩
      · obtain ⟨h5, h6⟩ := h2 s y h4
        exact ⟨by rw [find_other h3]; exact h5, testBit_add h6⟩

theorem forceSt_ok (s : St) : ∃ s' : St, (∀ (β : Type) (k : St → β), forceSt s k = k s') ∧ (∀ t x, find s'.env t = some x → find s.env t = some x) ∧ (∀ t x, find s'.mem t = some x → find s.mem t = some x) ∧ (∀ t x, find s'.hs t = some x → find s.hs t = some x) := by
  obtain ⟨e, h1, h2⟩ := forceEnv_ok s.env 0
  obtain ⟨m, h3, h4⟩ := forceMem_ok s.mem 0
  exact ⟨⟨e, m, s.hs⟩, fun β k => by rw [forceSt, h1]; simp only [h3, forceHs_eq], fun t x h => (h2 t x h).1, fun t x h => (h4 t x h).1, fun t x h => h⟩

def runCode (P : Program) (tab : Tab) (n : Nat) : Nat → Code → Nat → St → Option (Ex × Nat × St)
  | 0, _, _, _ => none
  | k + 1, c, u, s => match c with
    | .skip => some (.normal, u, s)
    | .label _ => some (.normal, u, s)
    | .exit id => some (.exit id, u, s)
    | .ret => some (.ret, u, s)
    | .region _ ops dr => match dr with
      | true => match runDraw P tab n ops u s with
        | some s' => some (.normal, u + ops.toList.length, s')
        | none => none
      | false => match runOps P tab n ops ops.toList u s with
        | some s' => some (.normal, u + ops.toList.length, s')
        | none => none
    | .seq x y => match runCode P tab n k x u s with
      | some (.normal, u', s') => runCode P tab n k y u' s'
      | r => r
    | .cond o x y => match boolOf (opnd s o) with
      | some true => runCode P tab n k x u s
      | some false => runCode P tab n k y u s
      | none => none
    | .block id x => match runCode P tab n k x u s with
      | some (.exit j, u', s') => match Nat.beq j id with
        | true => some (.normal, u', s')
        | false => some (.exit j, u', s')
      | r => r
    | .loop x => match runCode P tab n k x u s with
      | some (.normal, u', s') => forceSt s' fun s' => forceN u' fun u' => runCode P tab n k (.loop x) u' s'
      | r => r
    | .scope x => runCode P tab n k x u s
    | _ => none

section
variable {P : Program} {D : Den} {k0 n : Nat} {F F' : Nat → Prop} {w0 : World} {σ : Env} {a : Act} {w : World} {I : World → Prop} {tab : Tab}

theorem runCode_ok (R : Right P D I tab) (hI : ∀ w, Below w0.heap.size w0 w → I w) (hm : P.follows .mixedOrders = true) : ∀ (k : Nat),
    (∀ (c : Code) (u : Nat) (s : St) (x : Ex) (u' : Nat) (s' : St) (σ : Env) (a : Act) (w : World) (Q : Exit → Act → World → Prop), Ok D k0 n (u ≤ ·) w0 s σ a w → runCode P tab n k c u s = some (x, u', s') →
      (∀ σ' a' w', Ok D k0 n (u' ≤ ·) w0 s' σ' a' w' → Q x.as a' w') → c.wp P Q a w) ∧
    (∀ (c : Code) (u : Nat) (s : St) (x : Ex) (u' : Nat) (s' : St) (σ : Env) (a : Act) (w : World) (Q : Exit → Act → World → Prop), Ok D k0 n (u ≤ ·) w0 s σ a w → runCode P tab n k (.loop c) u s = some (x, u', s') →
      (∀ σ' a' w', Ok D k0 n (u' ≤ ·) w0 s' σ' a' w' → Q x.as a' w') → Code.rounds P c Q k a w)
  | 0 => ⟨fun c u s x u' s' σ a w Q h hr => (by cases hr), fun c u s x u' s' σ a w Q h hr => (by cases hr)⟩
  | k + 1 => by
    obtain ⟨ih1, ih2⟩ := runCode_ok R hI hm k
    have two : (∀ (c : Code) (u : Nat) (s : St) (x : Ex) (u' : Nat) (s' : St) (σ : Env) (a : Act) (w : World) (Q : Exit → Act → World → Prop), Ok D k0 n (u ≤ ·) w0 s σ a w → runCode P tab n (k + 1) (.loop c) u s = some (x, u', s') →
      (∀ σ' a' w', Ok D k0 n (u' ≤ ·) w0 s' σ' a' w' → Q x.as a' w') → Code.rounds P c Q (k + 1) a w) := by
      intro c u s x u' s' σ a w Q h hr hQ
      simp only [runCode] at hr
      rw [rounds_succ]
      split at hr
      · rename_i u1 s1 h1
        obtain ⟨s2, e0, e1, e2, e3⟩ := forceSt_ok s1
        rw [e0, forceN_eq] at hr
        exact ih1 c u s .normal u1 s1 σ a w _ h h1 fun σ' a' w' h' => ih2 c u1 s2 x u' s' σ' a' w' Q (h'.weaken e1 e2 e3) hr hQ
      · rename_i hne
        refine ih1 c u s x u' s' σ a w _ h hr fun σ' a' w' h' => ?_
        cases x with
        | normal => exact absurd hr (hne _ _)
        | exit id => exact hQ σ' a' w' h'
        | ret => exact hQ σ' a' w' h'
    refine ⟨?_, two⟩
    intro c u s x u' s' σ a w Q h hr hQ
    cases c with
    | skip =>
      injection hr with hr; injection hr with e1 hr; injection hr with e2 e3; subst e1 e2 e3
      exact wp_skip (hQ σ a w h)
    | label l =>
      injection hr with hr; injection hr with e1 hr; injection hr with e2 e3; subst e1 e2 e3
      exact wp_label (hQ σ a w h)
    | exit id =>
      injection hr with hr; injection hr with e1 hr; injection hr with e2 e3; subst e1 e2 e3
      exact wp_exit (hQ σ a w h)
    | ret =>
      injection hr with hr; injection hr with e1 hr; injection hr with e2 e3; subst e1 e2 e3
      exact wp_ret (hQ σ a w h)
    | region id ops dr =>
      simp only [runCode] at hr
      cases dr with
      | true =>
        dsimp only at hr
        cases hd : runDraw P tab n ops u s with
        | none => rw [hd] at hr; cases hr
        | some t =>
          rw [hd] at hr
          injection hr with hr; injection hr with e1 hr; injection hr with e2 e3; subst e1 e2 e3
          have hdr : Ok D k0 n (u ≤ ·) w0 s σ a { w with drawn := w.drawn + 1 } :=
            ⟨h.size, h.defers, h.tmps, h.mem, fun i e he => by
              obtain ⟨v, h1, h2⟩ := h.hs i e he
              exact ⟨v, h1, D.keep e v w _ h2 (Nat.le_refl _) fun _ _ => rfl⟩, h.base, h.inj, h.apart, h.hlt, h.new, h.below.drew, h.fresh⟩
          exact wp_region_any hm (runDraw_ok R hI hdr hd fun σ' a' w' h' => hQ σ' a' w' (h'.fewer fun x hx => by simpa using hx))
      | false =>
        dsimp only at hr
        cases hd : runOps P tab n ops ops.toList u s with
        | none => rw [hd] at hr; cases hr
        | some t =>
          rw [hd] at hr
          injection hr with hr; injection hr with e1 hr; injection hr with e2 e3; subst e1 e2 e3
          exact wp_region_list (runOps_ok R hI h hd hQ)
    | seq y z =>
      simp only [runCode] at hr
      refine wp_seq ?_
      split at hr
      · rename_i u1 s1 h1
        exact ih1 y u s .normal u1 s1 σ a w _ h h1 fun σ' a' w' h' => ih1 z u1 s1 x u' s' σ' a' w' Q h' hr hQ
      · rename_i hne
        refine ih1 y u s x u' s' σ a w _ h hr fun σ' a' w' h' => ?_
        cases x with
        | normal => exact absurd hr (hne _ _)
        | exit id => exact hQ σ' a' w' h'
        | ret => exact hQ σ' a' w' h'
    | cond o y z =>
      simp only [runCode] at hr
      cases hb : boolOf (opnd s o) with
      | none => rw [hb] at hr; cases hr
      | some b =>
        rw [hb] at hr
        refine wp_cond (boolOf_ok h hb) ?_
        cases b with
        | true => exact ih1 y u s x u' s' σ a w Q h hr hQ
        | false => exact ih1 z u s x u' s' σ a w Q h hr hQ
    | block id y =>
      simp only [runCode] at hr
      refine wp_block ?_
      split at hr
      · rename_i j u1 s1 h1
        cases hj : Nat.beq j id with
        | true =>
          rw [hj] at hr
          have e := Nat.eq_of_beq_eq_true hj
          injection hr with hr; injection hr with e1 hr; injection hr with e2 e3; subst e1 e2 e3
          refine ih1 y u s (.exit j) u1 s1 σ a w _ h h1 fun σ' a' w' h' => ?_
          simp only [Ex.as, Exit.inBlock, e, if_true]
          exact hQ σ' a' w' h'
        | false =>
          rw [hj] at hr
          have e := Nat.ne_of_beq_eq_false hj
          injection hr with hr; injection hr with e1 hr; injection hr with e2 e3; subst e1 e2 e3
          refine ih1 y u s (.exit j) u1 s1 σ a w _ h h1 fun σ' a' w' h' => ?_
          simp only [Ex.as, Exit.inBlock, if_neg e]
          exact hQ σ' a' w' h'
      · rename_i hne
        refine ih1 y u s x u' s' σ a w _ h hr fun σ' a' w' h' => ?_
        cases x with
        | normal => exact hQ σ' a' w' h'
        | exit id => exact absurd hr (hne _ _ _)
        | ret => exact hQ σ' a' w' h'
    | loop y =>
      exact wp_loop_rounds (k + 1) (two y u s x u' s' σ a w Q h hr hQ)
    | scope y =>
      refine wp_scope_straight (ih1 y u s x u' s' σ a w _ h hr fun σ' a' w' h' => ?_)
      cases x with
      | normal => exact hQ σ' a' w' h'
      | exit id => exact hQ σ' a' w' h'
      | ret => exact hQ σ' a' w' h'
    | _ => simp [runCode] at hr

end

/-- what does not hang on places -/
def Atom.free : Atom → Bool
  | .bool _ => true
  | .int _ _ => true
  | .el _ => true
  | .nils => true
  | _ => false

def freeL : List Atom → Bool
  | [] => true
  | a :: as => match a.free with
    | true => freeL as
    | false => false

/-- a struct's parts as a result -/
def mixBack (k0 : Nat) (s : St) : List Atom → Option (List MA)
  | [] => some []
  | .held i :: as => match Nat.ble k0 i && Nat.blt (i % 32) 16, find s.hs i, mixBack k0 s as with
    | true, some e, some ms => some (.hd e :: ms)
    | _, _, _ => none
  | a :: as => match a.free, mixBack k0 s as with
    | true, some ms => some (.at_ a :: ms)
    | _, _ => none

def rvBack (k0 : Nat) (s : St) : V → Option RV
  | .one (.held i) => match Nat.ble k0 i && Nat.blt (i % 32) 16 with
    | true => match find s.hs i with
      | some e => some (.h e)
      | none => none
    | false => none
  | .one a => match a.free with
    | true => some (.dt (.one a))
    | false => none
  | .agg as => match freeL as with
    | true => some (.dt (.agg as))
    | false => match mixBack k0 s as with
      | some ms => some (.mix ms)
      | none => none

def resultOf (P : Program) (wid : E → Nat) (k0 : Nat) (s : St) : ResultVar → Option RV
  | .tmp t => match find s.env t with
    | some (.dt x) => rvBack k0 s x
    | _ => none
  | .cell p ty => match ptrOf (find s.env p) with
    | some (b, o) => match find s.mem b with
      | some (_, as) => match partOf P wid as o ty with
        | some x => rvBack k0 s x
        | none => none
      | none => none
    | none => none

def resultsOf (P : Program) (wid : E → Nat) (k0 : Nat) (s : St) : List ResultVar → Option (List RV)
  | [] => some []
  | r :: rs => match resultOf P wid k0 s r, resultsOf P wid k0 s rs with
    | some x, some xs => some (x :: xs)
    | _, _ => none

def slotsOf : Nat → List V → List (Nat × T)
  | _, [] => []
  | i, x :: xs => (i, .dt x) :: slotsOf (i + 1) xs

def runFn (P : Program) (tab : Tab) (fuel : Nat) (fn : Func) (ins : List RV) : Option Res := match fn.body with
  | some c => match Nat.ble ins.length fn.ntmps, Nat.ble (cntR ins) 32 with
    | true, true => match runCode P tab fn.ntmps fuel c 1 ⟨slotsOf 0 (rvsOf 0 ins).1, [], (rvsOf 0 ins).2⟩ with
      | some (.exit _, _, _) => none
      | some (_, _, s) => match resultsOf P tab.wid 32 s fn.results.toList with
        | some [r] => some (.one r)
        | some rs => some (.tup rs)
        | none => none
      | none => none
    | _, _ => none
  | none => none

section
variable {P : Program} {D : Den} {k0 n : Nat} {F F' : Nat → Prop} {w0 : World} {s : St} {σ : Env} {a : Act} {w : World} {I : World → Prop} {tab : Tab}

theorem Atom.free_ok {x : Atom} (h : x.free = true) {l : List Value} (hx : x.cells D σ = some l) : x.cells D Env.empty = some l := by
  cases x <;> first | exact hx | cases h

theorem freeL_ok : ∀ {as : List Atom} {l : List Value}, freeL as = true → cellsL D σ as = some l → cellsL D Env.empty as = some l
  | [], l, h, hl => hl
  | x :: as, l, h, hl => by
    simp only [freeL] at h
    cases hx : x.free with
    | false => rw [hx] at h; cases h
    | true =>
      rw [hx] at h
      obtain ⟨y, z, h1, h2, rfl⟩ := cellsL_cons hl
      exact cellsL_mk (Atom.free_ok hx h1) (freeL_ok h h2)

theorem mixBack_at (h : Ok D k0 n F w0 s σ a w) {x : Atom} {as : List Atom} {ms : List MA} {l : List Value} (hm : (match x.free, mixBack k0 s as with
    | true, some ms => some (.at_ x :: ms)
    | _, _ => none) = some ms) (hl : cellsL D σ (x :: as) = some l) (ih : ∀ {ms l}, mixBack k0 s as = some ms → cellsL D σ as = some l → MAsIs D Env.empty w (fun v => ∀ g, v.ownBlock = some g → w0.heap.size ≤ g) ms l) : MAsIs D Env.empty w (fun v => ∀ g, v.ownBlock = some g → w0.heap.size ≤ g) ms l := by
  obtain ⟨y, z, h1, h2, rfl⟩ := cellsL_cons hl
  split at hm
  · rename_i ms' hf hms
    injection hm with hm; subst hm
    exact ⟨y, z, rfl, Atom.free_ok hf h1, ih hms h2⟩
  · cases hm

theorem mixBack_ok (h : Ok D k0 n F w0 s σ a w) : ∀ {as : List Atom} {ms : List MA} {l : List Value}, mixBack k0 s as = some ms → cellsL D σ as = some l → MAsIs D Env.empty w (fun v => ∀ g, v.ownBlock = some g → w0.heap.size ≤ g) ms l
  | [], ms, l, hm, hl => by
    injection hm with hm; subst hm
    injection hl with hl; subst hl
    rfl
  | .held i :: as, ms, l, hm, hl => by
    simp only [mixBack] at hm
    obtain ⟨x, y, h1, h2, rfl⟩ := cellsL_cons hl
    split at hm
    · rename_i e ms' hb he hms
      injection hm with hm; subst hm
      simp only [Bool.and_eq_true] at hb
      obtain ⟨v, hv, hh⟩ := h.hs i e he
      simp only [Atom.cells, hv] at h1
      injection h1 with h1; subst h1
      exact ⟨v, y, rfl, hh, fun g hg => h.new i v g (Nat.le_of_ble_eq_true hb.1) (Nat.le_of_ble_eq_true hb.2) hv hg, mixBack_ok h hms h2⟩
    · cases hm
  | .bool b :: as, ms, l, hm, hl => mixBack_at h hm hl (fun hm h2 => mixBack_ok h hm h2)
  | .int k n :: as, ms, l, hm, hl => mixBack_at h hm hl (fun hm h2 => mixBack_ok h hm h2)
  | .el e :: as, ms, l, hm, hl => mixBack_at h hm hl (fun hm h2 => mixBack_ok h hm h2)
  | .ptr b o :: as, ms, l, hm, hl => by
    have hm : (none : Option (List MA)) = some ms := hm
    cases hm
  | .slc b o n c :: as, ms, l, hm, hl => by
    have hm : (none : Option (List MA)) = some ms := hm
    cases hm
  | .nils :: as, ms, l, hm, hl => mixBack_at h hm hl (fun hm h2 => mixBack_ok h hm h2)
  | .gl g :: as, ms, l, hm, hl => by
    have hm : (none : Option (List MA)) = some ms := hm
    cases hm
  | .hp i j :: as, ms, l, hm, hl => by
    have hm : (none : Option (List MA)) = some ms := hm
    cases hm

theorem mixBack_no : ∀ {as : List Atom} {ms : List MA}, mixBack k0 s as = some ms → noVw ms = true
  | [], ms, hm => by injection hm with hm; subst hm; rfl
  | .held i :: as, ms, hm => by
    simp only [mixBack] at hm
    split at hm
    · rename_i e ms' hb he hms
      injection hm with hm; subst hm
      show noVw ms' = true
      exact mixBack_no (as := as) hms
    · cases hm
  | .bool b :: as, ms, hm => mixBack_noA (x := .bool b) hm (fun h => mixBack_no (as := as) h)
  | .int k n :: as, ms, hm => mixBack_noA (x := .int k n) hm (fun h => mixBack_no (as := as) h)
  | .el e :: as, ms, hm => mixBack_noA (x := .el e) hm (fun h => mixBack_no (as := as) h)
  | .nils :: as, ms, hm => mixBack_noA (x := .nils) hm (fun h => mixBack_no (as := as) h)
  | .ptr b o :: as, ms, hm => by
    have hm : (none : Option (List MA)) = some ms := hm
    cases hm
  | .slc b o n c :: as, ms, hm => by
    have hm : (none : Option (List MA)) = some ms := hm
    cases hm
  | .gl g :: as, ms, hm => by
    have hm : (none : Option (List MA)) = some ms := hm
    cases hm
  | .hp i j :: as, ms, hm => by
    have hm : (none : Option (List MA)) = some ms := hm
    cases hm
where
  mixBack_noA {x : Atom} {as : List Atom} {ms : List MA} (hm : (match x.free, mixBack k0 s as with
    | true, some ms => some (.at_ x :: ms)
    | _, _ => none) = some ms) (ih : ∀ {ms}, mixBack k0 s as = some ms → noVw ms = true) : noVw ms = true := by
    split at hm
    · rename_i ms' hf hms
      injection hm with hm; subst hm
      show noVw ms' = true
      exact ih hms
    · cases hm

theorem rvBack_ok (h : Ok D k0 n F w0 s σ a w) {x : V} {v : Value} (hx : x.Is D σ v) {r : RV} (hr : rvBack k0 s x = some r) : r.Is D w0.heap.size w v := by
  unfold rvBack at hr
  split at hr
  · rename_i i
    cases hb : (Nat.ble k0 i && Nat.blt (i % 32) 16) with
    | false => rw [hb] at hr; cases hr
    | true =>
      rw [hb] at hr
      simp only [Bool.and_eq_true] at hb
      dsimp only at hr
      cases hf : find s.hs i with
      | none => rw [hf] at hr; cases hr
      | some e =>
        rw [hf] at hr
        injection hr with hr; subst hr
        obtain ⟨y, h1, h2⟩ := h.hs i e hf
        simp only [V.Is, Atom.cells, h1] at hx
        injection hx with hx; injection hx with hx; subst hx
        exact ⟨h2, fun g hg => h.new i y g (Nat.le_of_ble_eq_true hb.1) (Nat.le_of_ble_eq_true hb.2) h1 hg⟩
  · rename_i y hy
    cases hf : y.free with
    | false => rw [hf] at hr; cases hr
    | true =>
      rw [hf] at hr
      injection hr with hr; subst hr
      exact Atom.free_ok hf hx
  · rename_i as
    cases hf : freeL as with
    | false =>
      rw [hf] at hr
      dsimp only at hr
      split at hr
      · rename_i ms hms
        injection hr with hr; subst hr
        obtain ⟨l, h1, h2⟩ := hx
        exact ⟨l, h2, mixBack_no hms, mixBack_ok h hms h1⟩
      · cases hr
    | true =>
      rw [hf] at hr
      injection hr with hr; subst hr
      obtain ⟨l, h1, h2⟩ := hx
      exact ⟨l, freeL_ok hf h1, h2⟩

def resSem (tmps : Array Value) : ResultVar → Sem Value
  | .tmp t => pure (tmps.getD t undef)
  | .cell p ty => do loadVar ty (← asAddr (tmps.getD p undef))

theorem resultOf_ok (h : Ok D k0 n F w0 s σ a w) {r : ResultVar} {x : RV} (hr : resultOf P D.wid k0 s r = some x) :
    ∃ v, (resSem a.tmps r).run P w = .ok v w ∧ x.Is D w0.heap.size w v := by
  cases r with
  | tmp t =>
    simp only [resultOf] at hr
    split at hr
    · rename_i y hy
      exact ⟨_, rfl, rvBack_ok h (h.tmps t _ hy) hr⟩
    · cases hr
  | cell p ty =>
    simp only [resultOf] at hr
    split at hr
    · rename_i b o hp
      split at hr
      · rename_i q mt as hm
        split at hr
        · rename_i y hy
          obtain ⟨g, hg, he⟩ := ptrOf_ok (x := .tmp p) h hp
          obtain ⟨g', l, hg', hl, hrow⟩ := h.mem b mt as hm
          rw [hg] at hg'; injection hg' with hg'; subst hg'
          obtain ⟨v, hv, hi⟩ := partOf_load (P := P) rfl hy hl hrow
          refine ⟨v, ?_, rvBack_ok h hi hr⟩
          have he' : a.tmps.getD p undef = .pointer (some ⟨g, o, none⟩) := he
          simp only [resSem, he', asAddr, Sem.run_bind, Sem.run_pure, Result.andThen_ok]
          exact hv
        · cases hr
      · cases hr
    · cases hr

theorem resultsOf_ok (h : Ok D k0 n F w0 s σ a w) : ∀ {rs : List ResultVar} {xs : List RV}, resultsOf P D.wid k0 s rs = some xs →
    ∃ vs, (rs.mapM (resSem a.tmps)).run P w = .ok vs w ∧ RVsIs D w0.heap.size w xs vs
  | [], xs, hr => by injection hr with hr; subst hr; exact ⟨[], rfl, rfl⟩
  | r :: rs, xs, hr => by
    simp only [resultsOf] at hr
    split at hr
    · rename_i x ys h1 h2
      injection hr with hr; subst hr
      obtain ⟨v, hv, hi⟩ := resultOf_ok (P := P) h h1
      obtain ⟨vs, hvs, his⟩ := resultsOf_ok h h2
      refine ⟨v :: vs, ?_, v, vs, rfl, hi, his⟩
      rw [List.mapM_cons]
      simp only [Sem.run_bind]
      rw [hv]
      simp only [Result.andThen_ok, hvs, Sem.run_pure]
    · cases hr

theorem run_results {fn : Func} {tmps : Array Value} {vs : List Value} (h : (fn.results.toList.mapM (resSem tmps)).run P w = .ok vs w) :
    (results fn tmps).run P w = .ok (if h : vs.length = 1 then vs[0] else .tuple vs.toArray) w := by
  have e : results fn tmps = (do
      let vs ← fn.results.mapM (resSem tmps)
      pure (if h : vs.size = 1 then vs[0] else .tuple vs)) := by
    unfold results
    congr 2
  rw [e, Sem.run_bind, Array.mapM_eq_mapM_toList, Sem.run_map, h]
  simp only [Result.andThen_ok, Sem.run_pure]
  congr 1

theorem slotsOf_ok : ∀ {xs : List V} {vs : List Value} {i t : Nat} {x : T}, IsL D σ xs vs → find (slotsOf i xs) t = some x → ∃ j, t = i + j ∧ j < vs.length ∧ x.Is D σ (vs.getD j undef)
  | [], vs, i, t, x, h, hf => by cases hf
  | y :: ys, vs, i, t, x, h, hf => by
    obtain ⟨v, ws, rfl, h1, h2⟩ := h
    rcases find_cons hf with ⟨e1, e2⟩ | ⟨e1, e2⟩
    · subst e1 e2; exact ⟨0, rfl, by simp, h1⟩
    · obtain ⟨j, h3, h4, h5⟩ := slotsOf_ok h2 e2
      exact ⟨j + 1, by omega, by simp; omega, by simpa using h5⟩

theorem RVsIs_len : ∀ {rs : List RV} {vs : List Value} {b : Nat}, RVsIs D b w rs vs → vs.length = rs.length
  | [], vs, b, h => by rw [h]; rfl
  | r :: rs, vs, b, h => by
    obtain ⟨v, ws, rfl, _, h2⟩ := h
    simp [RVsIs_len h2]

theorem mixOf_len : ∀ {ms : List MA} {k i : Nat} {e : E}, (i, e) ∈ (mixOf k ms).2 → k ≤ i ∧ i < k + cntM ms
  | [], k, i, e, h => by cases h
  | .at_ a :: ms, k, i, e, h => mixOf_len (ms := ms) h
  | .vw xs :: ms, k, i, e, h => mixOf_len (ms := ms) h
  | .hd e' :: ms, k, i, e, h => by
    simp only [mixOf, List.mem_cons] at h
    simp only [cntM]
    rcases h with h | h
    · injection h with e1 e2; omega
    · have := mixOf_len h
      omega

theorem rvsOf_len : ∀ {rs : List RV} {k i : Nat} {e : E}, (i, e) ∈ (rvsOf k rs).2 → k ≤ i ∧ i < k + cntR rs
  | [], k, i, e, h => by cases h
  | r :: rs, k, i, e, h => by
    simp only [rvsOf, List.mem_append] at h
    simp only [cntR]
    rcases h with h | h
    · cases r with
      | dt x => cases h
      | h e' => simp [rvOf] at h; simp only [RV.cnt]; omega
      | mix ms =>
        have := mixOf_len (show (i, e) ∈ (mixOf k ms).2 from h)
        simp only [RV.cnt]; omega
    · have := rvsOf_len h
      omega

theorem find_mem {α : Type} {t : Nat} {y : α} : ∀ {l : List (Nat × α)}, find l t = some y → (t, y) ∈ l
  | [], h => by cases h
  | (k, x) :: r, h => by
    rcases find_cons h with ⟨h1, h2⟩ | ⟨h1, h2⟩
    · subst h1 h2; simp
    · exact List.mem_cons_of_mem _ (find_mem h2)

/-- a function's body, run -/
theorem calls_run (R : Right P D I tab) (hm : P.follows .mixedOrders = true) {f : FuncId} {fn : Func} (hf : P.funcs[f]? = some fn) {fuel : Nat} {ins : List RV} {r : Res} (hr : runFn P tab fuel fn ins = some r)
    {vs : List Value} (hv : RVsIs D 0 w ins vs) (hI : ∀ w', Below w.heap.size w w' → I w') :
    Calls P f vs.toArray w fun e w' => ∃ v, e = .returned v ∧ Below w.heap.size w w' ∧ r.Is D w.heap.size w' v := by
  unfold runFn at hr
  cases hb : fn.body with
  | none => rw [hb] at hr; cases hr
  | some c =>
    rw [hb] at hr
    dsimp only at hr
    split at hr
    · rename_i hn h8
      have hn := Nat.le_of_ble_eq_true hn
      have h8 := Nat.le_of_ble_eq_true h8
      have hlen := RVsIs_len hv
      obtain ⟨σ, a1, a2, a3, a4, a5, a6⟩ := rvsOf_ok (base := 0) (k := 0) (σ := Env.empty) hv (fun _ _ _ => rfl)
      have hok : Ok D 32 fn.ntmps (1 ≤ ·) w ⟨slotsOf 0 (rvsOf 0 ins).1, [], (rvsOf 0 ins).2⟩ σ { tmps := vs.toArray ++ Array.replicate (fn.ntmps - vs.toArray.size) undef, defers := [] } w := by
        refine ⟨by simp; omega, rfl, fun t x hx => ?_, fun k ty as hx => (by cases hx), fun i e he => a5 i e (find_mem he), fun k g hg => (by rw [a2] at hg; cases hg), fun k k' g hg => (by rw [a2] at hg; cases hg), fun i v g k h1 h2 h3 => (by rw [a2] at h3; cases h3), fun i v g h1 h2 => (a6 i v g h1 rfl h2).2, fun i v g hk _ h1 h2 => ?_, Below.refl _ _, fun u hu => ⟨by rw [a2]; rfl, fun i h1 h2 => ?_⟩⟩
        · obtain ⟨j, rfl, h2, h3⟩ := slotsOf_ok a4 hx
          have : (vs.toArray ++ Array.replicate (fn.ntmps - vs.toArray.size) undef).getD (0 + j) undef = vs.getD j undef := by
            simp [Array.getElem?_append, h2, List.getD]
          rw [this]; exact h3
        · rw [a3 i (by omega)] at h1; cases h1
        · rw [a3 i (by omega)]; rfl
      refine calls_of_wp hf hb ?_
      have fin : ∀ (x : Ex) (u' : Nat) (s' : St), runCode P tab fn.ntmps fuel c 1 ⟨slotsOf 0 (rvsOf 0 ins).1, [], (rvsOf 0 ins).2⟩ = some (x, u', s') → (x = .normal ∨ x = .ret) →
          (match resultsOf P tab.wid 32 s' fn.results.toList with
            | some [r] => some (Res.one r)
            | some rs => some (.tup rs)
            | none => none) = some r →
          c.wp P (bodyPost P fn fun e w' => ∃ v, e = .returned v ∧ Below w.heap.size w w' ∧ r.Is D w.heap.size w' v) { tmps := vs.toArray ++ Array.replicate (fn.ntmps - vs.toArray.size) undef, defers := [] } w := by
        intro x u' s' hrun hx hres
        refine (runCode_ok R hI hm fuel).1 c 1 _ x u' s' σ _ w _ hok hrun fun σ' a' w' h' => ?_
        have key : a'.defers = [] ∧ ∃ v, (results fn a'.tmps).run P w' = .ok v w' ∧ ∃ v', Ending.returned v = .returned v' ∧ Below w.heap.size w w' ∧ r.Is D w.heap.size w' v' := by
          refine ⟨h'.defers, ?_⟩
          rw [R.wid] at hres
          cases hrs : resultsOf P D.wid 32 s' fn.results.toList with
          | none => rw [hrs] at hres; cases hres
          | some xs =>
            rw [hrs] at hres
            obtain ⟨us, h1, h2⟩ := resultsOf_ok (P := P) h' hrs
            have hlen2 := RVsIs_len h2
            refine ⟨_, run_results h1, _, rfl, h'.below, ?_⟩
            split at hres
            · rename_i y heq
              injection heq with heq; subst heq
              injection hres with hres; subst hres
              obtain ⟨v, ws, rfl, h3, h4⟩ := h2
              have : ws = [] := h4
              subst this
              exact h3
            · rename_i ys hne heq
              injection heq with heq; subst heq
              injection hres with hres; subst hres
              have hl : ¬ us.length = 1 := by
                intro e
                rw [hlen2] at e
                match xs, e with
                | [y], _ => exact hne y rfl
              rw [dif_neg hl]
              exact ⟨us, rfl, h2⟩
            · rename_i heq; cases heq
        rcases hx with rfl | rfl
        · exact key
        · exact key
      split at hr
      · cases hr
      · rename_i x u' s' hne hrun
        refine fin x u' s' hrun ?_ hr
        cases x with
        | normal => exact .inl rfl
        | ret => exact .inr rfl
        | exit id => exact absurd rfl (hne id)
      · cases hr
    · cases hr
end

end Go.Proofs.YtdconlmpjehohaaDoor.Sx
