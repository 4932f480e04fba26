/- A symbolic run of straight code, part 2: one operation. Conditions: those of each theorem. -/
import Derived.Test.YtdconlmpjehohaaDoorSxA
import Derived.Laws.CopyRow
namespace Go.Proofs.YtdconlmpjehohaaDoor.Sx
open Go.RowKit
set_option linter.unusedVariables false

section memory
variable {P : Program}

def szOf (P : Program) (t : TypeId) : Option Nat := match P.info? t with
  | some i => some i.size
  | .none => .none

def aggOf (P : Program) (t : TypeId) : Option Bool := match P.underlying t with
  | some (.struct _) => some true
  | some (.array _ _) => some true
  | some _ => some false
  | .none => .none

theorem run_sizeOf {t : TypeId} {n : Nat} (h : szOf P t = some n) (w : World) : (sizeOf t).run P w = .ok n w := by
  unfold szOf at h
  cases hi : P.info? t with
  | none => rw [hi] at h; cases h
  | some i => rw [hi] at h; injection h with h; subst h; simp [sizeOf, typeInfo, hi]

theorem run_isAgg {t : TypeId} {b : Bool} (h : aggOf P t = some b) (w : World) : (isAgg t).run P w = .ok b w := by
  unfold aggOf at h
  cases hu : P.underlying t with
  | none => rw [hu] at h; cases h
  | some d =>
    rw [hu] at h
    unfold isAgg
    rw [Sem.run_bind, run_underlying hu w]
    cases d <;> (injection h with h; subst h; rfl)

theorem addr_add (g o i : Nat) : (⟨g, o, none⟩ : Addr).add i = ⟨g, o + i, none⟩ := by
  unfold Addr.add
  split
  · rename_i h; subst h; rfl
  · rfl

theorem run_loadCells_part {w : World} {g o n : Nat} {l : List Value} {t : TypeId} (hg : w.heap[g]? = some (.cells l.toArray t (0, 0))) (ho : o + n ≤ l.length) :
    (loadCells ⟨g, o, none⟩ n).run P w = .ok ((l.drop o).take n).toArray w := by
  have hlen : ((l.drop o).take n).length = n := by rw [List.length_take, List.length_drop]; omega
  have := run_loadCells_list (P := P) w ⟨g, o, none⟩ ((l.drop o).take n) (fun j v hv => by
    rw [addr_add, cell_of_row w g (o + j) l.toArray t (0, 0) hg]
    rw [List.getElem?_take, List.getElem?_drop] at hv
    split at hv
    · simpa using hv
    · cases hv)
  rwa [hlen] at this

theorem run_loadVar_aggC {w : World} {g o n : Nat} {l : List Value} {ty : TypeId} (hg : ∀ j v, l[j]? = some v → w.cell? ⟨g, j, none⟩ = some v) (hs : szOf P ty = some n) (ha : aggOf P ty = some true) (ho : o + n ≤ l.length) :
    (loadVar ty ⟨g, o, none⟩).run P w = .ok (.agg ((l.drop o).take n).toArray) w := by
  have hlen : ((l.drop o).take n).length = n := by rw [List.length_take, List.length_drop]; omega
  have := run_loadCells_list (P := P) w ⟨g, o, none⟩ ((l.drop o).take n) (fun j v hv => by
    rw [addr_add]
    rw [List.getElem?_take, List.getElem?_drop] at hv
    split at hv
    · exact hg _ _ hv
    · cases hv)
  rw [hlen] at this
  simp only [loadVar, Sem.run_bind, run_isAgg ha, Result.andThen_ok, if_true, run_sizeOf hs, this, Sem.run_pure]

theorem run_loadVar_oneC {w : World} {g o : Nat} {v : Value} {ty : TypeId} (hg : w.cell? ⟨g, o, none⟩ = some v) (ha : aggOf P ty = some false) :
    (loadVar ty ⟨g, o, none⟩).run P w = .ok v w := by
  simp only [loadVar, Sem.run_bind, run_isAgg ha, Result.andThen_ok, Bool.false_eq_true, if_false, run_load, hg]

theorem run_loadVar_agg {w : World} {g o n : Nat} {l : List Value} {t ty : TypeId} (hg : w.heap[g]? = some (.cells l.toArray t (0, 0))) (hs : szOf P ty = some n) (ha : aggOf P ty = some true) (ho : o + n ≤ l.length) :
    (loadVar ty ⟨g, o, none⟩).run P w = .ok (.agg ((l.drop o).take n).toArray) w := by
  simp only [loadVar, Sem.run_bind, run_isAgg ha, Result.andThen_ok, if_true, run_sizeOf hs, run_loadCells_part hg ho, Sem.run_pure]

theorem run_loadVar_one {w : World} {g o : Nat} {l : List Value} {v : Value} {t ty : TypeId} (hg : w.heap[g]? = some (.cells l.toArray t (0, 0))) (ha : aggOf P ty = some false) (ho : l[o]? = some v) :
    (loadVar ty ⟨g, o, none⟩).run P w = .ok v w := by
  simp only [loadVar, Sem.run_bind, run_isAgg ha, Result.andThen_ok, Bool.false_eq_true, if_false, run_load]
  rw [cell_of_row w g o l.toArray t (0, 0) hg]
  simp [ho]

theorem setRow_self (w : World) (g : Nat) (l : List Value) (t : TypeId) (hg : w.heap[g]? = some (.cells l.toArray t (0, 0))) : w.setRow g l.toArray = w := by
  have hlt : g < w.heap.size := (Array.getElem?_eq_some_iff.1 hg).1
  have hv : w.heap[g] = .cells l.toArray t (0, 0) := (Array.getElem?_eq_some_iff.1 hg).2
  unfold World.setRow
  cases w with
  | mk heap tape drawn os output =>
    congr 1
    apply Array.ext
    · simp
    · intro k h1 h2
      simp only [Array.getElem_modify]
      split
      · rename_i hk; subst hk; simp at hv; simp [hv]
      · rfl

theorem set_row {α : Type} {l rest : List α} {k : Nat} {v : α} (h : k + 1 + rest.length ≤ l.length) :
    (l.set k v).take (k + 1) ++ (rest ++ (l.set k v).drop (k + 1 + rest.length)) = l.take k ++ (v :: rest ++ l.drop (k + (rest.length + 1))) := by
  have h1 : (l.set k v).take (k + 1) = l.take k ++ [v] := by
    rw [List.set_eq_take_append_cons_drop, if_pos (by omega), List.take_append, List.length_take, show min k l.length = k by omega, show k + 1 - k = 1 by omega, List.take_of_length_le (by rw [List.length_take]; omega)]
    rfl
  have h2 : (l.set k v).drop (k + 1 + rest.length) = l.drop (k + (rest.length + 1)) := by
    rw [List.drop_set_of_lt (by omega), show k + 1 + rest.length = k + (rest.length + 1) by omega]
  rw [h1, h2]
  simp

theorem run_storeCells_part (g o : Nat) (t : TypeId) : ∀ (vs : List Value) (i : Nat) (l : List Value) (w : World), w.heap[g]? = some (.cells l.toArray t (0, 0)) → o + i + vs.length ≤ l.length → (∀ v ∈ vs, v.oneCell' = true) →
    (storeCells ⟨g, o, none⟩ vs i).run P w = .ok () (w.setRow g (l.take (o + i) ++ (vs ++ l.drop (o + i + vs.length))).toArray)
  | [], i, l, w, hg, hl, _ => by
    simp only [storeCells, List.nil_append, List.length_nil, Nat.add_zero, List.take_append_drop, setRow_self w g l t hg]
    rfl
  | v :: rest, i, l, w, hg, hl, h1 => by
    simp only [List.length_cons] at hl
    have hlt : o + i < l.length := by omega
    have hcell : w.cell? ⟨g, o + i, none⟩ = some l[o + i] := by rw [cell_of_row w g (o + i) l.toArray t (0, 0) hg]; simp [hlt]
    have hfro : w.frozen? ⟨g, o + i, none⟩ = false := by simp [World.frozen?, hg]
    have hst : (store ((⟨g, o, none⟩ : Addr).add i) v).run P w = .ok () (w.setRow g (l.set (o + i) v).toArray) := by
      rw [addr_add, run_store P w _ v _ (h1 v (by simp)), hcell]
      simp [hfro, setCell_eq_setRow w g (o + i) l.toArray t (0, 0) v hg]
    have ih := run_storeCells_part g o t rest (i + 1) (l.set (o + i) v) (w.setRow g (l.set (o + i) v).toArray) (setRow_heap w g l.toArray _ t _ hg) (by rw [List.length_set]; omega) (fun x hx => h1 x (by simp [hx]))
    simp only [storeCells, Sem.run_bind, hst, Result.andThen_ok, ih, setRow_setRow]
    rw [show o + (i + 1) = o + i + 1 by omega, set_row (by omega), List.length_cons]

theorem run_storeVar_part {w : World} {g o n : Nat} {l : List Value} {t ty : TypeId} {v : Value} (hg : w.heap[g]? = some (.cells l.toArray t (0, 0))) (hs : szOf P ty = some n) (hn : v.cells.size = n) (h1 : ∀ x ∈ v.cells.toList, x.oneCell' = true)
    (ho : o + n ≤ l.length) : (storeVar ty ⟨g, o, none⟩ v).run P w = .ok () (w.setRow g (l.take o ++ (v.cells.toList ++ l.drop (o + n))).toArray) := by
  have hx : v.cells.toList.length = n := by simpa using hn
  have := run_storeCells_part (P := P) g o t v.cells.toList 0 l w hg (by omega) h1
  simp only [storeVar, Sem.run_bind, run_sizeOf hs, Result.andThen_ok, hn, ne_eq, not_true_eq_false, if_false]
  rw [hx, Nat.add_zero] at this
  simpa using this

end memory

/-- what the run knows: slots, blocks, held values -/
structure St where
  env : List (Nat × T)
  mem : List (Nat × TypeId × List Atom)
  hs : List (Nat × E)

structure Eff where
  val : Option T
  blk : Option (TypeId × List Atom)
  hld : List (Nat × E)
  st : Option (Nat × TypeId × List Atom)

/-- a part of a struct: plain cells, or what is held -/
inductive MA where
  | at_ (a : Atom)
  | hd (e : E)
  | vw (xs : List Atom)

inductive CArg where
  | dt (x : V)
  | held (e : E)
  | view (as : List Atom)
  | mix (ms : List MA)

inductive RV where
  | dt (x : V)
  | h (e : E)
  | mix (ms : List MA)

inductive Res where
  | one (r : RV)
  | tup (rs : List RV)

structure Tab where
  wid : E → Nat
  bin : BinOp → TypeId → V → V → Option V
  un : UnOp → V → Option V
  len : CArg → Option V
  ctr : FuncId → List CArg → Option Res
  glob : Nat → Option (List Atom)
  slc : E → Option Nat → Option Nat → Option E
  cnv : TypeId → TypeId → V → Option V
  idx : E → Nat → Option V
  app : TypeId → E → E → Option E

section meaning
variable (D : Den)

/-- a slice of a block of the caller's -/
def ViewIs (σ : Env) (w : World) (as : List Atom) (v : Value) : Prop := ∃ b o c l, v = .slice (some ⟨b, o, none⟩) l.length c ∧ l.length ≤ c ∧ cellsL D σ as = some l ∧ b < w.heap.size ∧ ∀ j (h : j < l.length), w.cell? ⟨b, o + j, none⟩ = some l[j]

def noVw : List MA → Bool
  | [] => true
  | .vw _ :: _ => false
  | _ :: ms => noVw ms

def MAsIs (σ : Env) (w : World) (N : Value → Prop) : List MA → List Value → Prop
  | [], l => l = []
  | .at_ a :: ms, l => ∃ x y, l = x ++ y ∧ a.cells D σ = some x ∧ MAsIs σ w N ms y
  | .hd e :: ms, l => ∃ v y, l = v :: y ∧ D.hold e v w ∧ N v ∧ MAsIs σ w N ms y
  | .vw xs :: ms, l => ∃ v y, l = v :: y ∧ ViewIs D σ w xs v ∧ MAsIs σ w N ms y

def CArg.Is (σ : Env) (w : World) : CArg → Value → Prop
  | .dt x, v => x.Is D σ v
  | .held e, v => D.hold e v w
  | .view as, v => ∃ b o c l, v = .slice (some ⟨b, o, none⟩) l.length c ∧ l.length ≤ c ∧ cellsL D σ as = some l ∧ b < w.heap.size ∧ ∀ j (h : j < l.length), w.cell? ⟨b, o + j, none⟩ = some l[j]
  | .mix ms, v => ∃ l, v = .agg l.toArray ∧ MAsIs D σ w (fun _ => True) ms l

def ArgsIs (σ : Env) (w : World) : List CArg → List Value → Prop
  | [], vs => vs = []
  | c :: cs, vs => ∃ v ws, vs = v :: ws ∧ c.Is D σ w v ∧ ArgsIs σ w cs ws

/-- a held result is new -/
def RV.Is (base : Nat) (w : World) : RV → Value → Prop
  | .dt x, v => x.Is D Env.empty v
  | .h e, v => D.hold e v w ∧ ∀ g, v.ownBlock = some g → base ≤ g
  | .mix ms, v => ∃ l, v = .agg l.toArray ∧ noVw ms = true ∧ MAsIs D Env.empty w (fun v => ∀ g, v.ownBlock = some g → base ≤ g) ms l

def RVsIs (base : Nat) (w : World) : List RV → List Value → Prop
  | [], vs => vs = []
  | r :: rs, vs => ∃ v ws, vs = v :: ws ∧ r.Is D base w v ∧ RVsIs base w rs ws

def Res.Is (base : Nat) (w : World) : Res → Value → Prop
  | .one r, v => r.Is D base w v
  | .tup rs, v => ∃ vs, v = .tuple vs.toArray ∧ RVsIs D base w rs vs
end meaning

def isGo (P : Program) (f : FuncId) : Bool := match P.funcs[f]? with
  | some fn => !(fn.name == "runtime.NumGoroutine") && fn.body.isSome
  | none => false

theorem run_callGo {P : Program} {f : FuncId} (h : isGo P f = true) (args : Array Value) (w : World) : (callFunc f args).run P w = .ok (.enter f args) w := by
  unfold isGo at h
  cases hf : P.funcs[f]? with
  | none => rw [hf] at h; cases h
  | some fn =>
    rw [hf] at h
    simp only [Bool.and_eq_true, Bool.not_eq_true'] at h
    obtain ⟨h1, h2⟩ := h
    have h3 : fn.body ≠ none := by intro e; rw [e] at h2; cases h2
    have h4 : ¬ fn.name = "runtime.NumGoroutine" := by simpa using h1
    simp [callFunc, hf, h4, h3]

/-- a bound that may be left out -/
def BoundIs : Option Nat → Option Value → Prop
  | .none, v => v = .none
  | some n, v => ∃ k, v = some (.int k (n : Int))

/-- a table's answers are right -/
structure Right (P : Program) (D : Den) (I : World → Prop) (tab : Tab) : Prop where
  wid : tab.wid = D.wid
  bin : ∀ op ty x y r, tab.bin op ty x y = some r → ∀ σ vx vy, x.Is D σ vx → y.Is D σ vy → ∀ (X Y : Operand) w, ∃ v, (do eqGuard op ty X Y vx vy; binOp op ty vx vy : Sem Value).run P w = .ok v w ∧ r.Is D σ v
  un : ∀ op x r, tab.un op x = some r → ∀ σ vx, x.Is D σ vx → ∀ w, ∃ v, (Op.unary op vx).run P w = .ok v w ∧ r.Is D σ v
  len : ∀ c r, tab.len c = some r → ∀ σ w v, c.Is D σ w v → ∃ A n cp, v = .slice A n cp ∧ r.Is D σ (.int .i64 (n : Nat))
  glob : ∀ g xs, tab.glob g = some xs → ∃ l, cellsL D Env.empty xs = some l ∧ ∀ w, I w → ∀ j v, l[j]? = some v → w.cell? ⟨g, j, none⟩ = some v
  slc : ∀ e lo hi e', tab.slc e lo hi = some e' → ∀ ty elem, P.underlying ty = some (.slice elem) → szOf P elem = some 1 → ∀ v w lv hv, D.hold e v w → BoundIs lo lv → BoundIs hi hv →
    ∃ v', (Instr.sliceAt ty v lv hv none).run P w = .ok v' w ∧ D.hold e' v' w ∧ ∀ g, v'.ownBlock = some g → v.ownBlock = some g
  cnv : ∀ s d x r, tab.cnv s d x = some r → ∀ σ vx, x.Is D σ vx → ∀ w, ∃ v, (convert s d vx).run P w = .ok v w ∧ r.Is D σ v
  idx : ∀ e j r, tab.idx e j = some r → ∀ σ v w, D.hold e v w → ∃ g o n c u, v = .slice (some ⟨g, o, none⟩) n c ∧ j < n ∧ w.cell? ⟨g, o + j, none⟩ = some u ∧ r.Is D σ u
  app : ∀ el e1 e2 e3, tab.app el e1 e2 = some e3 → ∀ t ty w v1 v2, P.underlying t = some (.slice el) → D.hold e1 v1 w → D.hold e2 v2 w →
    ∃ v w', (Builtin.append_ #[t, t] ty #[v1, v2]).run P w = .ok v w' ∧ Below w.heap.size w w' ∧ D.hold e3 v w' ∧ ∀ g, v.ownBlock = some g → w.heap.size ≤ g
  ctr : ∀ f cs r, tab.ctr f cs = some r → isGo P f = true ∧ ∀ σ w vs, ArgsIs D σ w cs vs → I w → Calls P f vs.toArray w fun e w' => ∃ v, e = .returned v ∧ Below w.heap.size w w' ∧ r.Is D w.heap.size w' v

def opnd (s : St) : Operand → Option T
  | .tmp t => find s.env t
  | .const v => match vOf v with
    | some x => some (.dt x)
    | .none => .none
  | .global g => some (.dt (.one (.gl g)))
  | _ => .none

def glOf : Option T → Option Nat
  | some (.dt (.one (.gl g))) => some g
  | _ => .none

def natOpt (s : St) : Option Operand → Option (Option Nat)
  | .none => some .none
  | some x => match opnd s x with
    | some (.dt (.one (.int _ (.ofNat n)))) => some (some n)
    | _ => .none

def ptrOf : Option T → Option (Nat × Nat)
  | some (.dt (.one (.ptr b o))) => some (b, o)
  | _ => .none

def boolOf : Option T → Option Bool
  | some (.dt (.one (.bool b))) => some b
  | _ => .none

def natOf : Option T → Option Nat
  | some (.dt (.one (.int _ (.ofNat n)))) => some n
  | _ => .none

def heldOf : Option T → Option Nat
  | some (.dt (.one (.held i))) => some i
  | _ => .none

def hpOf : Option T → Option (Nat × Nat)
  | some (.dt (.one (.hp i j))) => some (i, j)
  | _ => .none

def anyHeld : List Atom → Bool
  | [] => false
  | .held _ :: _ => true
  | .slc _ _ _ _ :: _ => true
  | _ :: as => anyHeld as

/-- a struct's parts -/
def mixArg (wid : E → Nat) (s : St) : List Atom → Option (List MA)
  | [] => some []
  | .held i :: as => match find s.hs i, mixArg wid s as with
    | some e, some ms => some (.hd e :: ms)
    | _, _ => .none
  | .slc b o n c :: as => match find s.mem b, mixArg wid s as with
    | some (_, bs), some ms => match subW wid bs o n, Nat.ble n c with
      | some xs, true => some (.vw xs :: ms)
      | _, _ => .none
    | _, _ => .none
  | a :: as => match mixArg wid s as with
    | some ms => some (.at_ a :: ms)
    | .none => .none

def argOf (wid : E → Nat) (s : St) : Option T → Option CArg
  | some (.dt (.one (.held i))) => match find s.hs i with
    | some e => some (.held e)
    | .none => .none
  | some (.dt (.one (.slc b o n c))) => match find s.mem b with
    | some (_, as) => match subW wid as o n, Nat.ble n c with
      | some bs, true => some (.view bs)
      | _, _ => .none
    | .none => .none
  | some (.dt (.agg as)) => match anyHeld as with
    | true => match mixArg wid s as with
      | some ms => some (.mix ms)
      | .none => .none
    | false => some (.dt (.agg as))
  | some (.dt x) => some (.dt x)
  | _ => .none

def argsOf (wid : E → Nat) (s : St) : List Operand → Option (List CArg)
  | [] => some []
  | x :: xs => match argOf wid s (opnd s x), argsOf wid s xs with
    | some c, some cs => some (c :: cs)
    | _, _ => .none

def vsOf (s : St) : List (Nat × Operand) → Option (List (Nat × V))
  | [] => some []
  | (i, x) :: xs => match opnd s x, vsOf s xs with
    | some (.dt v), some vs => some ((i, v) :: vs)
    | _, _ => .none

/-- a call's results: what slots hold, and what is held -/
def mixOf : Nat → List MA → List Atom × List (Nat × E)
  | _, [] => ([], [])
  | k, .at_ a :: ms => (a :: (mixOf k ms).1, (mixOf k ms).2)
  | k, .hd e :: ms => (.held k :: (mixOf (k + 1) ms).1, (k, e) :: (mixOf (k + 1) ms).2)
  | k, .vw _ :: ms => (.nils :: (mixOf k ms).1, (mixOf k ms).2)

def cntM : List MA → Nat
  | [] => 0
  | .at_ _ :: ms => cntM ms
  | .vw _ :: ms => cntM ms
  | .hd _ :: ms => cntM ms + 1

def RV.cnt : RV → Nat
  | .dt _ => 1
  | .h _ => 1
  | .mix ms => cntM ms

def cntR : List RV → Nat
  | [] => 0
  | r :: rs => r.cnt + cntR rs

def rvOf (k : Nat) : RV → V × List (Nat × E)
  | .dt x => (x, [])
  | .h e => (.one (.held k), [(k, e)])
  | .mix ms => (.agg (mixOf k ms).1, (mixOf k ms).2)

def rvsOf (k : Nat) : List RV → List V × List (Nat × E)
  | [] => ([], [])
  | r :: rs => ((rvOf k r).1 :: (rvsOf (k + r.cnt) rs).1, (rvOf k r).2 ++ (rvsOf (k + r.cnt) rs).2)

def effOf (u : Nat) : Res → Option Eff
  | .one r => match Nat.ble r.cnt 16 with
    | true => some ⟨some (.dt (rvOf (32 * u) r).1), .none, (rvOf (32 * u) r).2, .none⟩
    | false => .none
  | .tup rs => match Nat.ble (cntR rs) 16 with
    | true => some ⟨some (.tup (rvsOf (32 * u) rs).1), .none, (rvsOf (32 * u) rs).2, .none⟩
    | false => .none

def zeroOf (P : Program) (t : TypeId) : Option V := match P.info? t with
  | some i => match i.zero with
    | some v => vOf v
    | .none => .none
  | .none => .none

/-- the places of the fields of a struct, of the elements of an array -/
def placesOf (P : Program) (t : TypeId) : Option (Nat → Option (Nat × Nat)) := match P.underlying t with
  | some (.struct fs) => match fs.toList.mapM (fun f => (P.info? f.type).map fun i => (f.offset, i.size)) with
    | some places => some fun i => places.toArray[i]?
    | .none => .none
  | some (.array n e) => match P.info? e with
    | some i => some fun k => some (k * i.size, i.size)
    | .none => .none
  | _ => .none

def partOf (P : Program) (wid : E → Nat) (as : List Atom) (o : Nat) (t : TypeId) : Option V := match szOf P t, aggOf P t with
  | some n, some true => match subW wid as o n with
    | some bs => some (.agg bs)
    | .none => .none
  | some _, some false => match subW wid as o 1 with
    | some [a] => match Nat.beq (a.wid wid) 1 with
      | true => some (.one a)
      | false => .none
    | _ => .none
  | _, _ => .none

def fillW (wid : E → Nat) (place : Nat → Option (Nat × Nat)) : List Atom → List (Nat × V) → Option (List Atom)
  | as, [] => some as
  | as, (i, x) :: r => match place i with
    | some (o, z) => match Nat.beq (widL wid x.atoms) z with
      | true => match putW wid as o x.atoms with
        | some bs => fillW wid place bs r
        | .none => .none
      | false => .none
    | .none => .none

def pureV (x : Option V) : Option Eff := match x with
  | some v => some ⟨some (.dt v), .none, [], .none⟩
  | .none => .none

def pureT (x : Option T) : Option Eff := match x with
  | some v => some ⟨some v, .none, [], .none⟩
  | .none => .none

def step (P : Program) (tab : Tab) (s : St) (u : Nat) (op : Op) : Option Eff := match op with
  | .move x => pureT (opnd s x)
  | .assign x => pureT (opnd s x)
  | .pick c a b => match boolOf (opnd s c) with
    | some true => pureT (opnd s a)
    | some false => pureT (opnd s b)
    | .none => .none
  | .alloc ty => match zeroOf P ty with
    | some x => some ⟨some (.dt (.one (.ptr u 0))), some (ty, x.atoms), [], .none⟩
    | .none => .none
  | .box ty x => match opnd s x with
    | some (.dt y) => some ⟨some (.dt (.one (.ptr u 0))), some (ty, y.atoms), [], .none⟩
    | _ => .none
  | .load ty x => match ptrOf (opnd s x) with
    | some (b, o) => match find s.mem b with
      | some (_, as) => pureV (partOf P tab.wid as o ty)
      | .none => .none
    | .none => match glOf (opnd s x) with
      | some g => match tab.glob g with
        | some as => pureV (partOf P tab.wid as 0 ty)
        | .none => .none
      | .none => match hpOf (opnd s x) with
        | some (i, j) => match find s.hs i, aggOf P ty with
          | some e, some false => pureV (tab.idx e j)
          | _, _ => .none
        | .none => .none
  | .store ty x y => match ptrOf (opnd s x), opnd s y with
    | some (b, o), some (.dt v) => match find s.mem b, szOf P ty with
      | some (mt, as), some n => match Nat.beq (widL tab.wid v.atoms) n, putW tab.wid as o v.atoms with
        | true, some bs => some ⟨.none, .none, [], some (b, mt, bs)⟩
        | _, _ => .none
      | _, _ => .none
    | _, _ => .none
  | .fieldAddr ty x f => match ptrOf (opnd s x), P.underlying ty with
    | some (b, o), some (.struct fs) => match fs[f]? with
      | some fd => match szOf P fd.type with
        | some (_ + 1) => some ⟨some (.dt (.one (.ptr b (o + fd.offset)))), .none, [], .none⟩
        | _ => .none
      | .none => .none
    | _, _ => .none
  | .indexAddr ty x ix => match ptrOf (opnd s x), natOf (opnd s ix), P.underlying ty with
    | some (b, o), some i, some (.array n e) => match Nat.blt i n, szOf P e with
      | true, some z => some ⟨some (.dt (.one (.ptr b (o + i * z)))), .none, [], .none⟩
      | _, _ => .none
    | .none, some j, some (.slice el) => match heldOf (opnd s x) with
      | some i => match find s.hs i, szOf P el with
        | some e, some 1 => match tab.idx e j with
          | some _ => some ⟨some (.dt (.one (.hp i j))), .none, [], .none⟩
          | .none => .none
        | _, _ => .none
      | .none => .none
    | _, _, _ => .none
  | .field ty x f => match opnd s x, P.underlying ty with
    | some (.dt (.agg as)), some (.struct fs) => match fs[f]? with
      | some fd => pureV (partOf P tab.wid as fd.offset fd.type)
      | .none => .none
    | _, _ => .none
  | .index ty x ix => match opnd s x, natOf (opnd s ix), P.underlying ty with
    | some (.dt (.agg as)), some i, some (.array n e) => match Nat.blt i n, szOf P e with
      | true, some z => pureV (partOf P tab.wid as (i * z) e)
      | _, _ => .none
    | _, _, _ => .none
  | .extract x i => match opnd s x with
    | some (.tup xs) => pureV xs[i]?
    | _ => .none
  | .build t ps => match zeroOf P t, vsOf s ps.toList, placesOf P t with
    | some (.agg z), some vs, some pl => match fillW tab.wid pl z vs with
      | some bs => pureV (some (.agg bs))
      | .none => .none
    | _, _, _ => .none
  | .binOp bop ty x y _ => match opnd s x, opnd s y with
    | some (.dt a), some (.dt b) => pureV (tab.bin bop ty a b)
    | _, _ => .none
  | .unOp uop _ x => match opnd s x with
    | some (.dt a) => pureV (tab.un uop a)
    | _ => .none
  | .slice ty x lo hi .none => match natOpt s lo, natOpt s hi with
    | some l, some h => match opnd s x, P.underlying ty with
      | some (.dt (.one (.ptr b o))), some (.array n e) => match szOf P e, Nat.ble (l.getD 0) (h.getD n), Nat.ble (h.getD n) n, Nat.blt (l.getD 0) n with
        | some 1, true, true, true => some ⟨some (.dt (.one (.slc b (o + l.getD 0) (h.getD n - l.getD 0) (n - l.getD 0)))), .none, [], .none⟩
        | _, _, _, _ => .none
      | some (.dt (.one (.slc b o n c))), some (.slice e) => match szOf P e, Nat.ble (l.getD 0) (h.getD n), Nat.ble (h.getD n) c, Nat.blt (l.getD 0) c with
        | some 1, true, true, true => some ⟨some (.dt (.one (.slc b (o + l.getD 0) (h.getD n - l.getD 0) (c - l.getD 0)))), .none, [], .none⟩
        | _, _, _, _ => .none
      | some (.dt (.one (.held i))), some (.slice e) => match szOf P e, find s.hs i with
        | some 1, some c => match tab.slc c l h with
          | some d => some ⟨some (.dt (.one (.held (32 * u + 16)))), .none, [(32 * u + 16, d)], .none⟩
          | .none => .none
        | _, _ => .none
      | _, _ => .none
    | _, _ => .none
  | .convert sT dT x => match opnd s x with
    | some (.dt a) => pureV (tab.cnv sT dT a)
    | _ => .none
  | .buildSlice t len ps => match P.underlying t, vsOf s ps.toList with
    | some (.slice e), some vs => match szOf P e, zeroOf P e, Nat.ble len 1024 with
      | some 1, some (.one z), true => match fillW tab.wid (fun i => some (i * 1, 1)) (List.replicate len z) vs with
        | some bs => some ⟨some (.dt (.one (.slc u 0 len len))), some (e, bs), [], .none⟩
        | .none => .none
      | _, _, _ => .none
    | _, _ => .none
  | .call c => match c.callee with
    | .value (.func f) => match argsOf tab.wid s c.args.toList with
      | some cs => match tab.ctr f cs with
        | some r => effOf u r
        | .none => .none
      | .none => .none
    | .builtin .len => match c.args.toList, c.argTypes[0]? with
      | [x], some t => match P.underlying t with
        | some (.slice _) => match argOf tab.wid s (opnd s x) with
          | some ca => pureV (tab.len ca)
          | .none => .none
        | some (.array n _) => pureV (some (.one (.int .i64 n)))
        | _ => .none
      | _, _ => .none
    | .builtin .copy => match c.args.toList, c.argTypes[0]? with
      | [x, y], some t => match P.underlying t, opnd s x, opnd s y with
        | some (.slice e), some (.dt (.one (.slc b o n _))), some (.dt (.one (.slc b' o' n' _))) => match szOf P e, find s.mem b, find s.mem b' with
          | some 1, some (mt, as), some (_, as') => match subW tab.wid as' o' (Nat.min n' n) with
            | some xs => match putW tab.wid as o xs with
              | some bs => some ⟨some (.dt (.one (.int .i64 (Nat.min n' n)))), .none, [], some (b, mt, bs)⟩
              | .none => .none
            | .none => .none
          | _, _, _ => .none
        | _, _, _ => .none
      | _, _ => .none
    | .builtin .append => match c.args.toList, c.argTypes.toList with
      | [x, y], [t, t'] => match Nat.beq t t', P.underlying t, heldOf (opnd s x), heldOf (opnd s y) with
        | true, some (.slice el), some i, some j => match find s.hs i, find s.hs j with
          | some e1, some e2 => match tab.app el e1 e2 with
            | some e3 => effOf u (.one (.h e3))
            | .none => .none
          | _, _ => .none
        | _, _, _, _ => .none
      | _, _ => .none
    | _ => .none
  | _ => .none

end Go.Proofs.YtdconlmpjehohaaDoor.Sx
