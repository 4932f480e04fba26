/- A symbolic run of straight code, part 3: one operation is run rightly. Conditions: those of each theorem. -/
import Derived.Test.YtdconlmpjehohaaDoorSxB
namespace Go.Proofs.YtdconlmpjehohaaDoor.Sx
open Go.RowKit
set_option linter.unusedVariables false

/-- the run's knowledge is true -/
structure Ok (D : Den) (k0 n : Nat) (F : Nat → Prop) (w0 : World) (s : St) (σ : Env) (a : Act) (w : World) : Prop where
  size : a.tmps.size = n
  defers : a.defers = []
  tmps : ∀ t x, find s.env t = some x → x.Is D σ (a.tmps.getD t undef)
  mem : ∀ k ty as, find s.mem k = some (ty, as) → ∃ g l, σ.blk k = some g ∧ cellsL D σ as = some l ∧ w.heap[g]? = some (.cells l.toArray ty (0, 0))
  hs : ∀ i e, find s.hs i = some e → ∃ v, σ.hld i = some v ∧ D.hold e v w
  base : ∀ k g, σ.blk k = some g → w0.heap.size ≤ g ∧ g < w.heap.size
  inj : ∀ k k' g, σ.blk k = some g → σ.blk k' = some g → k = k'
  apart : ∀ i v g k, σ.hld i = some v → v.ownBlock = some g → σ.blk k ≠ some g
  hlt : ∀ i v g, σ.hld i = some v → v.ownBlock = some g → g < w.heap.size
  new : ∀ i v g, k0 ≤ i → i % 32 < 16 → σ.hld i = some v → v.ownBlock = some g → w0.heap.size ≤ g
  below : Below w0.heap.size w0 w
  fresh : ∀ u, F u → σ.blk u = none ∧ ∀ i, 32 * u ≤ i → i < 32 * u + 32 → σ.hld i = none

/-- what an operation has done -/
structure After (D : Den) (u : Nat) (f : Eff) (σ : Env) (w : World) (σ' : Env) (w' : World) (v : Value) : Prop where
  le : σ.le σ'
  onlyB : ∀ k, k ≠ u → σ'.blk k = σ.blk k
  onlyH : ∀ i, (i < 32 * u ∨ 32 * u + 32 ≤ i) → σ'.hld i = σ.hld i
  newB : ∀ g, σ'.blk u = some g → w.heap.size ≤ g ∧ g < w'.heap.size
  newH : ∀ i v g, σ'.hld i = some v → σ.hld i = none → v.ownBlock = some g → g < w'.heap.size ∧ σ'.blk u ≠ some g ∧ (w.heap.size ≤ g ∨ (16 ≤ i % 32 ∧ ∃ i' v', σ.hld i' = some v' ∧ v'.ownBlock = some g))
  val : ∀ x, f.val = some x → x.Is D σ' v
  blk : ∀ ty as, f.blk = some (ty, as) → ∃ g l, σ'.blk u = some g ∧ cellsL D σ' as = some l ∧ w'.heap[g]? = some (.cells l.toArray ty (0, 0))
  hld : ∀ i e, (i, e) ∈ f.hld → ∃ v, σ'.hld i = some v ∧ D.hold e v w'
  world : match f.st with
    | none => Below w.heap.size w w'
    | some (k, ty, as) => ∃ g l old, σ.blk k = some g ∧ cellsL D σ as = some l ∧ w.heap[g]? = some (.cells old ty (0, 0)) ∧ w' = w.setRow g l.toArray

section
variable {P : Program} {D : Den} {k0 n : Nat} {F : Nat → Prop} {w0 : World} {s : St} {σ : Env} {a : Act} {w : World} {I : World → Prop} {tab : Tab}

theorem opnd_ok (h : Ok D k0 n F w0 s σ a w) {x : Operand} {t : T} (hx : opnd s x = some t) : t.Is D σ (a.eval x) := by
  cases x with
  | tmp i => exact h.tmps i t hx
  | const v =>
    simp only [opnd] at hx
    cases hv : vOf v with
    | none => rw [hv] at hx; cases hx
    | some y => rw [hv] at hx; injection hx with hx; subst hx; exact vOf_ok hv
  | global g => injection hx with hx; subst hx; rfl
  | func f => cases hx

theorem glOf_ok (h : Ok D k0 n F w0 s σ a w) {x : Operand} {g : Nat} (hx : glOf (opnd s x) = some g) : a.eval x = .pointer (some ⟨g, 0, none⟩) := by
  cases ht : opnd s x with
  | none => rw [ht] at hx; cases hx
  | some t =>
    rw [ht] at hx
    have hi := opnd_ok h ht
    unfold glOf at hx
    split at hx
    · rename_i g' heq
      injection heq with heq; subst heq
      injection hx with hx; subst hx
      simp only [T.Is, V.Is, Atom.cells] at hi
      injection hi with hi; injection hi with hi; exact hi.symm
    · cases hx

theorem heldOf_ok (h : Ok D k0 n F w0 s σ a w) {x : Operand} {i : Nat} (hx : heldOf (opnd s x) = some i) {e : E} (he : find s.hs i = some e) : σ.hld i = some (a.eval x) ∧ D.hold e (a.eval x) w := by
  cases ht : opnd s x with
  | none => rw [ht] at hx; cases hx
  | some t =>
    rw [ht] at hx
    have hi := opnd_ok h ht
    unfold heldOf at hx
    split at hx
    · rename_i i' heq
      injection heq with heq; subst heq
      injection hx with hx; subst hx
      obtain ⟨v, hv, hh⟩ := h.hs _ e he
      simp only [T.Is, V.Is, Atom.cells, hv] at hi
      injection hi with hi; injection hi with hi
      rw [← hi]
      exact ⟨hv, hh⟩
    · cases hx

theorem hpOf_ok (h : Ok D k0 n F w0 s σ a w) {x : Operand} {i j : Nat} (hx : hpOf (opnd s x) = some (i, j)) {g o m c : Nat} (hh : σ.hld i = some (.slice (some ⟨g, o, none⟩) m c)) : a.eval x = .pointer (some ⟨g, o + j, none⟩) := by
  cases ht : opnd s x with
  | none => rw [ht] at hx; cases hx
  | some t =>
    rw [ht] at hx
    have hi := opnd_ok h ht
    unfold hpOf at hx
    split at hx
    · rename_i i' j' heq
      injection heq with heq; subst heq
      injection hx with hx; injection hx with e1 e2; subst e1 e2
      simp only [T.Is, V.Is, Atom.cells, hh, addr_add] at hi
      injection hi with hi; injection hi with hi; exact hi.symm
    · cases hx

theorem natOpt_ok (h : Ok D k0 n F w0 s σ a w) {x : Option Operand} {m : Option Nat} (hx : natOpt s x = some m) : BoundIs m (x.map a.eval) := by
  cases x with
  | none => injection hx with hx; subst hx; rfl
  | some y =>
    simp only [natOpt] at hx
    split at hx
    · rename_i k i heq
      injection hx with hx; subst hx
      have hi := opnd_ok h heq
      simp only [T.Is, V.Is, Atom.cells] at hi
      injection hi with hi; injection hi with hi
      exact ⟨k, by rw [Option.map_some, ← hi]; rfl⟩
    · cases hx

theorem ptrOf_ok (h : Ok D k0 n F w0 s σ a w) {x : Operand} {b o : Nat} (hx : ptrOf (opnd s x) = some (b, o)) : ∃ g, σ.blk b = some g ∧ a.eval x = .pointer (some ⟨g, o, none⟩) := by
  cases ht : opnd s x with
  | none => rw [ht] at hx; cases hx
  | some t =>
    rw [ht] at hx
    have hi := opnd_ok h ht
    unfold ptrOf at hx
    split at hx
    · rename_i b' o' heq
      injection heq with heq; subst heq
      injection hx with hx; injection hx with e1 e2; subst e1 e2
      simp only [T.Is, V.Is, Atom.cells] at hi
      cases hb : σ.blk b' with
      | none => rw [hb] at hi; cases hi
      | some g => rw [hb] at hi; injection hi with hi; injection hi with hi; exact ⟨g, rfl, hi.symm⟩
    · cases hx

theorem boolOf_ok (h : Ok D k0 n F w0 s σ a w) {x : Operand} {b : Bool} (hx : boolOf (opnd s x) = some b) : a.eval x = .bool b := by
  cases ht : opnd s x with
  | none => rw [ht] at hx; cases hx
  | some t =>
    rw [ht] at hx
    have hi := opnd_ok h ht
    unfold boolOf at hx
    split at hx
    · rename_i b' heq
      injection heq with heq; subst heq
      injection hx with hx; subst hx
      simp only [T.Is, V.Is, Atom.cells] at hi
      injection hi with hi; injection hi with hi; exact hi.symm
    · cases hx

theorem natOf_ok (h : Ok D k0 n F w0 s σ a w) {x : Operand} {i : Nat} (hx : natOf (opnd s x) = some i) : ∃ k, a.eval x = .int k (i : Int) := by
  cases ht : opnd s x with
  | none => rw [ht] at hx; cases hx
  | some t =>
    rw [ht] at hx
    have hi := opnd_ok h ht
    unfold natOf at hx
    split at hx
    · rename_i k b' heq
      injection heq with heq; subst heq
      injection hx with hx; subst hx
      simp only [T.Is, V.Is, Atom.cells] at hi
      injection hi with hi; injection hi with hi; exact ⟨k, hi.symm⟩
    · cases hx

theorem mixArg_ok (h : Ok D k0 n F w0 s σ a w) : ∀ {as : List Atom} {ms : List MA} {l : List Value}, mixArg D.wid s as = some ms → cellsL D σ as = some l → MAsIs D σ w (fun _ => True) ms l
  | [], ms, l, hm, hl => by
    injection hm with hm; subst hm
    injection hl with hl; subst hl
    rfl
  | .held i :: as, ms, l, hm, hl => by
    simp only [mixArg] at hm
    obtain ⟨x, y, h1, h2, rfl⟩ := cellsL_cons hl
    split at hm
    · rename_i e ms' he hms
      injection hm with hm; subst hm
      obtain ⟨v, hv, hh⟩ := h.hs i e he
      simp only [Atom.cells, hv] at h1
      injection h1 with h1; subst h1
      exact ⟨v, y, rfl, hh, trivial, mixArg_ok h hms h2⟩
    · cases hm
  | .bool b :: as, ms, l, hm, hl => mixAt_ok h hm hl (fun hm h2 => mixArg_ok h hm h2)
  | .int k n :: as, ms, l, hm, hl => mixAt_ok h hm hl (fun hm h2 => mixArg_ok h hm h2)
  | .el e :: as, ms, l, hm, hl => mixAt_ok h hm hl (fun hm h2 => mixArg_ok h hm h2)
  | .ptr b o :: as, ms, l, hm, hl => mixAt_ok h hm hl (fun hm h2 => mixArg_ok h hm h2)
  | .slc b o n c :: as, ms, l, hm, hl => by
    simp only [mixArg] at hm
    obtain ⟨x, y, h1, h2, rfl⟩ := cellsL_cons hl
    split at hm
    · rename_i ty bs ms' hf hms
      split at hm
      · rename_i xs hs hnc
        injection hm with hm; subst hm
        obtain ⟨g, l', hb, hl', hg⟩ := h.mem b ty bs hf
        obtain ⟨h3, h4⟩ := subW_ok hl' hs
        simp only [Atom.cells, hb] at h1
        injection h1 with h1; subst h1
        have hlen : ((l'.drop o).take n).length = n := by rw [List.length_take, List.length_drop]; omega
        refine ⟨_, y, rfl, ⟨g, o, c, (l'.drop o).take n, by rw [hlen], by rw [hlen]; exact Nat.le_of_ble_eq_true hnc, h4, (h.base b g hb).2, fun j hj => ?_⟩, mixArg_ok h hms h2⟩
        rw [cell_of_row w g (o + j) l'.toArray ty (0, 0) hg]
        rw [hlen] at hj
        simp [show o + j < l'.length by omega]
      · cases hm
    · cases hm
  | .nils :: as, ms, l, hm, hl => mixAt_ok h hm hl (fun hm h2 => mixArg_ok h hm h2)
  | .gl g :: as, ms, l, hm, hl => mixAt_ok h hm hl (fun hm h2 => mixArg_ok h hm h2)
  | .hp i j :: as, ms, l, hm, hl => mixAt_ok h hm hl (fun hm h2 => mixArg_ok h hm h2)
where
  mixAt_ok (h : Ok D k0 n F w0 s σ a w) {x : Atom} {as : List Atom} {ms : List MA} {l : List Value} (hm : (match mixArg D.wid s as with
    | some ms => some (.at_ x :: ms)
    | none => none) = some ms) (hl : cellsL D σ (x :: as) = some l) (ih : ∀ {ms l}, mixArg D.wid s as = some ms → cellsL D σ as = some l → MAsIs D σ w (fun _ => True) ms l) : MAsIs D σ w (fun _ => True) ms l := by
    obtain ⟨y, z, h1, h2, rfl⟩ := cellsL_cons hl
    split at hm
    · rename_i ms' hms
      injection hm with hm; subst hm
      exact ⟨y, z, rfl, h1, ih hms h2⟩
    · cases hm

theorem argOf_ok (h : Ok D k0 n F w0 s σ a w) {x : Operand} {c : CArg} (hx : argOf D.wid s (opnd s x) = some c) : c.Is D σ w (a.eval x) := by
  cases ht : opnd s x with
  | none => rw [ht] at hx; cases hx
  | some t =>
    rw [ht] at hx
    have hi := opnd_ok h ht
    unfold argOf at hx
    split at hx
    · rename_i i heq
      injection heq with heq; subst heq
      cases hf : find s.hs i with
      | none => rw [hf] at hx; cases hx
      | some e =>
        rw [hf] at hx
        injection hx with hx; subst hx
        obtain ⟨v, hv, hh⟩ := h.hs i e hf
        simp only [T.Is, V.Is, Atom.cells, hv] at hi
        injection hi with hi; injection hi with hi
        rw [← hi]; exact hh
    · rename_i b o m c' heq
      injection heq with heq; subst heq
      cases hf : find s.mem b with
      | none => rw [hf] at hx; cases hx
      | some q =>
        obtain ⟨ty, as⟩ := q
        rw [hf] at hx
        dsimp only at hx
        cases hs : subW D.wid as o m with
        | none => rw [hs] at hx; cases hx
        | some bs =>
          cases hmc : Nat.ble m c' with
          | false => rw [hs, hmc] at hx; cases hx
          | true =>
          rw [hs, hmc] at hx
          injection hx with hx; subst hx
          obtain ⟨g, l, hb, hl, hg⟩ := h.mem b ty as hf
          obtain ⟨h1, h2⟩ := subW_ok hl hs
          simp only [T.Is, V.Is, Atom.cells, hb] at hi
          injection hi with hi; injection hi with hi
          have hlen : ((l.drop o).take m).length = m := by rw [List.length_take, List.length_drop]; omega
          refine ⟨g, o, c', (l.drop o).take m, by rw [hlen, ← hi], by rw [hlen]; exact Nat.le_of_ble_eq_true hmc, h2, (h.base b g hb).2, fun j hj => ?_⟩
          rw [cell_of_row w g (o + j) l.toArray ty (0, 0) hg]
          rw [hlen] at hj
          simp [show o + j < l.length by omega]
    · rename_i as heq
      injection heq with heq; subst heq
      split at hx
      · split at hx
        · rename_i ms hms
          injection hx with hx; subst hx
          obtain ⟨l, h1, h2⟩ := hi
          exact ⟨l, h2, mixArg_ok h hms h1⟩
        · cases hx
      · injection hx with hx; subst hx
        exact hi
    · rename_i y heq1 heq2 heq3 heq
      injection hx with hx; subst hx
      injection heq with heq; subst heq
      exact hi
    · cases hx

theorem argsOf_ok (h : Ok D k0 n F w0 s σ a w) : ∀ {xs : List Operand} {cs : List CArg}, argsOf D.wid s xs = some cs → ArgsIs D σ w cs (xs.map a.eval)
  | [], cs, hx => by injection hx with hx; subst hx; rfl
  | x :: xs, cs, hx => by
    simp only [argsOf] at hx
    cases h1 : argOf D.wid s (opnd s x) with
    | none => rw [h1] at hx; cases hx
    | some c =>
      cases h2 : argsOf D.wid s xs with
      | none => rw [h1, h2] at hx; cases hx
      | some ds =>
        rw [h1, h2] at hx
        injection hx with hx; subst hx
        exact ⟨_, _, rfl, argOf_ok h h1, argsOf_ok h h2⟩

/-- nothing but a value -/
theorem After.pure {u : Nat} {x : T} {v : Value} (hx : x.Is D σ v) (hu : σ.blk u = none) : After D u ⟨some x, none, [], none⟩ σ w σ w v where
  le := σ.le_refl
  onlyB := fun _ _ => rfl
  onlyH := fun _ _ => rfl
  newB := fun g hg => by rw [hu] at hg; cases hg
  newH := fun i v g h1 h2 _ => by rw [h1] at h2; cases h2
  val := fun y hy => by injection hy with hy; subst hy; exact hx
  blk := fun _ _ h => by cases h
  hld := fun _ _ h => by cases h
  world := Below.refl _ _

def Env.setB (σ : Env) (u g : Nat) : Env := ⟨fun k => if k = u then some g else σ.blk k, σ.hld, σ.one⟩

theorem Env.le_setB {σ : Env} {u g : Nat} (hu : σ.blk u = none) : σ.le (σ.setB u g) where
  b := fun k g' h => by
    have : k ≠ u := fun e => by subst e; rw [hu] at h; cases h
    simp [Env.setB, this, h]
  h := fun _ _ h => h

/-- a new block -/
theorem After.new {u : Nat} {ty : TypeId} {as : List Atom} {l : List Value} (hl : cellsL D σ as = some l) (hu : σ.blk u = none) :
    After D u ⟨some (.dt (.one (.ptr u 0))), some (ty, as), [], none⟩ σ w (σ.setB u w.heap.size) (w.alloc (.cells l.toArray ty)) (.pointer (some ⟨w.heap.size, 0, none⟩)) where
  le := Env.le_setB hu
  onlyB := fun k hk => by simp [Env.setB, hk]
  onlyH := fun _ _ => rfl
  newB := fun g hg => by
    simp [Env.setB] at hg; subst hg
    exact ⟨Nat.le_refl _, by simp⟩
  newH := fun i v g h1 h2 _ => by rw [show (σ.setB u w.heap.size).hld i = σ.hld i from rfl, h2] at h1; cases h1
  val := fun y hy => by
    injection hy with hy; subst hy
    simp [T.Is, V.Is, Atom.cells, Env.setB]
  blk := fun ty' as' h => by
    injection h with h; injection h with h1 h2; subst h1 h2
    exact ⟨w.heap.size, l, by simp [Env.setB], cellsL_mono (Env.le_setB hu) hl, heap_alloc_new w _⟩
  hld := fun _ _ h => by cases h
  world := (Below.refl _ _).alloc (Nat.le_refl _) _

theorem partOf_load {wid : E → Nat} (hwid : wid = D.wid) {as : List Atom} {o : Nat} {ty : TypeId} {x : V} (h : partOf P wid as o ty = some x) {l : List Value} (hl : cellsL D σ as = some l) {g : Nat} {t : TypeId} (hg : w.heap[g]? = some (.cells l.toArray t (0, 0))) :
    ∃ v, (loadVar ty ⟨g, o, none⟩).run P w = .ok v w ∧ x.Is D σ v := by
  subst hwid
  unfold partOf at h
  split at h
  · rename_i n hs ha
    cases hb : subW D.wid as o n with
    | none => rw [hb] at h; cases h
    | some bs =>
      rw [hb] at h
      injection h with h; subst h
      obtain ⟨h1, h2⟩ := subW_ok hl hb
      exact ⟨_, run_loadVar_agg hg hs ha h1, _, h2, rfl⟩
  · rename_i n hs ha
    split at h
    · rename_i c hb
      cases hc : Nat.beq (c.wid D.wid) 1 with
      | false => rw [hc] at h; cases h
      | true =>
        rw [hc] at h
        injection h with h; subst h
        obtain ⟨h1, h2⟩ := subW_ok hl hb
        have hv : l[o]? = some l[o] := by simp
        refine ⟨l[o], run_loadVar_one hg ha hv, ?_⟩
        have e1 : (l.drop o).take 1 = [l[o]] := by
          rw [List.drop_eq_getElem_cons (by omega)]
          rfl
        rw [e1] at h2
        obtain ⟨p, q, h3, h4, h5⟩ := cellsL_cons h2
        injection h4 with h4; subst h4
        rw [List.append_nil] at h5
        rw [← h5] at h3
        exact h3
    · cases h
  · cases h

theorem partOf_loadC {wid : E → Nat} (hwid : wid = D.wid) {as : List Atom} {o : Nat} {ty : TypeId} {x : V} (h : partOf P wid as o ty = some x) {l : List Value} (hl : cellsL D σ as = some l) {g : Nat} (hg : ∀ j v, l[j]? = some v → w.cell? ⟨g, j, none⟩ = some v) :
    ∃ v, (loadVar ty ⟨g, o, none⟩).run P w = .ok v w ∧ x.Is D σ v := by
  subst hwid
  unfold partOf at h
  split at h
  · rename_i n hs ha
    cases hb : subW D.wid as o n with
    | none => rw [hb] at h; cases h
    | some bs =>
      rw [hb] at h
      injection h with h; subst h
      obtain ⟨h1, h2⟩ := subW_ok hl hb
      exact ⟨_, run_loadVar_aggC hg hs ha h1, _, h2, rfl⟩
  · rename_i n hs ha
    split at h
    · rename_i c hb
      cases hc : Nat.beq (c.wid D.wid) 1 with
      | false => rw [hc] at h; cases h
      | true =>
        rw [hc] at h
        injection h with h; subst h
        obtain ⟨h1, h2⟩ := subW_ok hl hb
        have hv : l[o]? = some l[o] := by simp
        refine ⟨l[o], run_loadVar_oneC (hg _ _ hv) ha, ?_⟩
        have e1 : (l.drop o).take 1 = [l[o]] := by
          rw [List.drop_eq_getElem_cons (by omega)]
          rfl
        rw [e1] at h2
        obtain ⟨p, q, h3, h4, h5⟩ := cellsL_cons h2
        injection h4 with h4; subst h4
        rw [List.append_nil] at h5
        rw [← h5] at h3
        exact h3
    · cases h
  · cases h

theorem partOf_part {wid : E → Nat} (hwid : wid = D.wid) {as : List Atom} {o : Nat} {ty : TypeId} {x : V} (h : partOf P wid as o ty = some x) {l : List Value} (hl : cellsL D σ as = some l) :
    ∃ v, (part ty l.toArray o).run P w = .ok v w ∧ x.Is D σ v := by
  subst hwid
  unfold partOf at h
  split at h
  · rename_i n hs ha
    cases hb : subW D.wid as o n with
    | none => rw [hb] at h; cases h
    | some bs =>
      rw [hb] at h
      injection h with h; subst h
      obtain ⟨h1, h2⟩ := subW_ok hl hb
      refine ⟨.agg ((l.drop o).take n).toArray, ?_, _, h2, rfl⟩
      simp only [part, Sem.run_bind, run_isAgg ha, Result.andThen_ok, if_true, run_sizeOf hs, Sem.run_pure]
      congr 2
      apply Array.ext'
      simp
  · rename_i n hs ha
    split at h
    · rename_i c hb
      cases hc : Nat.beq (c.wid D.wid) 1 with
      | false => rw [hc] at h; cases h
      | true =>
        rw [hc] at h
        injection h with h; subst h
        obtain ⟨h1, h2⟩ := subW_ok hl hb
        refine ⟨l[o], ?_, ?_⟩
        · simp only [part, Sem.run_bind, run_isAgg ha, Result.andThen_ok, Bool.false_eq_true, if_false]
          simp [show o < l.length by omega]
        · have e1 : (l.drop o).take 1 = [l[o]] := by
            rw [List.drop_eq_getElem_cons (by omega)]
            rfl
          rw [e1] at h2
          obtain ⟨p, q, h3, h4, h5⟩ := cellsL_cons h2
          injection h4 with h4; subst h4
          rw [List.append_nil] at h5
          rw [← h5] at h3
          exact h3
    · cases h
  · cases h

theorem pureV_some {x : Option V} {f : Eff} (h : pureV x = some f) : ∃ v, x = some v ∧ f = ⟨some (.dt v), none, [], none⟩ := by
  cases x with
  | none => cases h
  | some v => injection h with h; exact ⟨v, rfl, h.symm⟩

theorem pureT_some {x : Option T} {f : Eff} (h : pureT x = some f) : ∃ v, x = some v ∧ f = ⟨some v, none, [], none⟩ := by
  cases x with
  | none => cases h
  | some v => injection h with h; exact ⟨v, rfl, h.symm⟩

theorem zeroOf_ok {t : TypeId} {x : V} (h : zeroOf P t = some x) : ∃ v i, P.info? t = some i ∧ i.zero = some v ∧ x.Is D σ v := by
  unfold zeroOf at h
  cases hi : P.info? t with
  | none => rw [hi] at h; cases h
  | some i =>
    rw [hi] at h
    dsimp only at h
    cases hz : i.zero with
    | none => rw [hz] at h; cases h
    | some v => rw [hz] at h; exact ⟨v, i, rfl, hz, vOf_ok h⟩

theorem run_newVar {t : TypeId} {v : Value} : (newVar t v).run P w = .ok ⟨w.heap.size, 0, none⟩ (w.alloc (.cells v.cells t)) := by
  simp [newVar, newRow]

theorem IsL_get : ∀ {xs : List V} {vs : List Value} {i : Nat} {x : V}, IsL D σ xs vs → xs[i]? = some x → ∃ v, vs[i]? = some v ∧ x.Is D σ v
  | [], vs, i, x, h, hx => by simp at hx
  | y :: ys, vs, 0, x, h, hx => by
    obtain ⟨v, ws, rfl, h1, h2⟩ := h
    simp at hx; subst hx
    exact ⟨v, rfl, h1⟩
  | y :: ys, vs, i + 1, x, h, hx => by
    obtain ⟨v, ws, rfl, h1, h2⟩ := h
    simp at hx
    obtain ⟨u, h3, h4⟩ := IsL_get h2 hx
    exact ⟨u, by simpa using h3, h4⟩

end
end Go.Proofs.YtdconlmpjehohaaDoor.Sx
