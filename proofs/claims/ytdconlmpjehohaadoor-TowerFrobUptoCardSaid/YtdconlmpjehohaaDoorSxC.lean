/- Texts in one: SxA, SxB, SxC. Conditions: those of each theorem. -/
import Derived.Test.YtdconlmpjehohaaDoorBasf
import Derived.Orders
import Derived.Scope
import Derived.LoopN
import Derived.Laws.CopyRow

/- A symbolic run of straight code, part 1: the data that it runs over, and what they mean. Conditions: none; plain definitions and lemmas. -/
namespace Go.Proofs.YtdconlmpjehohaaDoor.Sx
open Go.RowKit
set_option linter.unusedVariables false

/-- codes of data that the run does not look into -/
inductive E where
  | dt (i : Nat)
  | op (k : Nat) (a b : E)

def E.eqb : E → E → Bool
  | .dt i, .dt j => Nat.beq i j
  | .op k a b, .op l c d => Nat.beq k l && (E.eqb a c && E.eqb b d)
  | _, _ => false

theorem E.eqb_eq : ∀ {a b : E}, E.eqb a b = true → a = b
  | .dt i, .dt j, h => by rw [Nat.eq_of_beq_eq_true h]
  | .op k a b, .op l c d, h => by
    simp only [E.eqb, Bool.and_eq_true] at h
    rw [Nat.eq_of_beq_eq_true h.1, E.eqb_eq h.2.1, E.eqb_eq h.2.2]
  | .dt i, .op k a b, h => by simp [E.eqb] at h
  | .op k a b, .dt i, h => by simp [E.eqb] at h

inductive Atom where
  | bool (b : Bool)
  | int (k : IntKind) (n : Int)
  | el (e : E)
  | ptr (b o : Nat)
  | slc (b o n c : Nat)
  | nils
  | held (i : Nat)
  | gl (g : Nat)
  | hp (i j : Nat)

inductive V where
  | one (a : Atom)
  | agg (as : List Atom)

inductive T where
  | dt (x : V)
  | tup (xs : List V)

/-- what codes mean; how wide they are; what a held value is known to be -/
structure Den where
  den : E → List Value
  wid : E → Nat
  len : ∀ e, (den e).length = wid e
  one : ∀ e, ∀ x ∈ den e, x.oneCell' = true
  hold : E → Value → World → Prop
  hone : ∀ e v w, hold e v w → v.oneCell' = true
  hlt : ∀ e v w g, hold e v w → v.ownBlock = some g → g < w.heap.size
  keep : ∀ e v w w', hold e v w → w.heap.size ≤ w'.heap.size → (∀ g, v.ownBlock = some g → w'.heap[g]? = w.heap[g]?) → hold e v w'

structure Env where
  blk : Nat → Option Nat
  hld : Nat → Option Value
  one : ∀ i v, hld i = some v → v.oneCell' = true

def Env.empty : Env := ⟨fun _ => .none, fun _ => .none, by intro i v h; cases h⟩

structure Env.le (σ τ : Env) : Prop where
  b : ∀ k g, σ.blk k = some g → τ.blk k = some g
  h : ∀ k v, σ.hld k = some v → τ.hld k = some v

theorem Env.le_refl (σ : Env) : σ.le σ := ⟨fun _ _ h => h, fun _ _ h => h⟩
theorem Env.le.trans {a b c : Env} (h : a.le b) (k : b.le c) : a.le c := ⟨fun _ _ x => k.b _ _ (h.b _ _ x), fun _ _ x => k.h _ _ (h.h _ _ x)⟩
theorem Env.empty_le (σ : Env) : Env.empty.le σ := ⟨fun _ _ h => (by cases h), fun _ _ h => (by cases h)⟩

section
variable (D : Den)

def Atom.cells (σ : Env) : Atom → Option (List Value)
  | .bool b => some [.bool b]
  | .int k n => some [.int k n]
  | .el e => some (D.den e)
  | .ptr b o => match σ.blk b with
    | some g => some [.pointer (some ⟨g, o, .none⟩)]
    | .none => .none
  | .slc b o n c => match σ.blk b with
    | some g => some [.slice (some ⟨g, o, .none⟩) n c]
    | .none => .none
  | .nils => some [.slice .none 0 0]
  | .held i => match σ.hld i with
    | some v => some [v]
    | .none => .none
  | .gl g => some [.pointer (some ⟨g, 0, .none⟩)]
  | .hp i j => match σ.hld i with
    | some (.slice (some a) _ _) => some [.pointer (some (a.add j))]
    | _ => .none

def Atom.wid (wid : E → Nat) : Atom → Nat
  | .el e => wid e
  | _ => 1

def cellsL (σ : Env) : List Atom → Option (List Value)
  | [] => some []
  | a :: as => match a.cells D σ, cellsL σ as with
    | some l, some m => some (l ++ m)
    | _, _ => .none

def V.Is (σ : Env) : V → Value → Prop
  | .one a, v => a.cells D σ = some [v]
  | .agg as, v => ∃ l, cellsL D σ as = some l ∧ v = .agg l.toArray

def IsL (σ : Env) : List V → List Value → Prop
  | [], vs => vs = []
  | x :: xs, vs => ∃ v ws, vs = v :: ws ∧ x.Is D σ v ∧ IsL σ xs ws

def T.Is (σ : Env) : T → Value → Prop
  | .dt x, v => x.Is D σ v
  | .tup xs, v => ∃ vs, v = .tuple vs.toArray ∧ IsL D σ xs vs

def V.atoms : V → List Atom
  | .one a => [a]
  | .agg as => as
end

section
variable {D : Den}

theorem Atom.cells_mono {σ τ : Env} (h : σ.le τ) {a : Atom} {l : List Value} (ha : a.cells D σ = some l) : a.cells D τ = some l := by
  cases a with
  | ptr b o =>
    simp only [Atom.cells] at ha ⊢
    cases hb : σ.blk b with
    | none => rw [hb] at ha; cases ha
    | some g => rw [hb] at ha; rw [h.b _ _ hb]; exact ha
  | slc b o n c =>
    simp only [Atom.cells] at ha ⊢
    cases hb : σ.blk b with
    | none => rw [hb] at ha; cases ha
    | some g => rw [hb] at ha; rw [h.b _ _ hb]; exact ha
  | held i =>
    simp only [Atom.cells] at ha ⊢
    cases hb : σ.hld i with
    | none => rw [hb] at ha; cases ha
    | some g => rw [hb] at ha; rw [h.h _ _ hb]; exact ha
  | hp i j =>
    simp only [Atom.cells] at ha ⊢
    cases hb : σ.hld i with
    | none => rw [hb] at ha; cases ha
    | some g => rw [hb] at ha; rw [h.h _ _ hb]; exact ha
  | _ => exact ha

theorem cellsL_cons {σ : Env} {a : Atom} {as : List Atom} {l : List Value} (h : cellsL D σ (a :: as) = some l) : ∃ x y, a.cells D σ = some x ∧ cellsL D σ as = some y ∧ l = x ++ y := by
  simp only [cellsL] at h
  cases ha : a.cells D σ with
  | none => rw [ha] at h; cases h
  | some x =>
    cases hs : cellsL D σ as with
    | none => rw [ha, hs] at h; cases h
    | some y => rw [ha, hs] at h; exact ⟨x, y, rfl, rfl, by injection h with h; exact h.symm⟩

theorem cellsL_mk {σ : Env} {a : Atom} {as : List Atom} {x y : List Value} (ha : a.cells D σ = some x) (hs : cellsL D σ as = some y) : cellsL D σ (a :: as) = some (x ++ y) := by
  simp only [cellsL, ha, hs]

theorem cellsL_mono {σ τ : Env} (h : σ.le τ) : ∀ {as : List Atom} {l : List Value}, cellsL D σ as = some l → cellsL D τ as = some l
  | [], l, ha => ha
  | a :: as, l, ha => by
    obtain ⟨x, y, h1, h2, rfl⟩ := cellsL_cons ha
    exact cellsL_mk (Atom.cells_mono h h1) (cellsL_mono h h2)

theorem V.Is_mono {σ τ : Env} (h : σ.le τ) {x : V} {v : Value} (hx : x.Is D σ v) : x.Is D τ v := by
  cases x with
  | one a => exact Atom.cells_mono h hx
  | agg as => obtain ⟨l, h1, h2⟩ := hx; exact ⟨l, cellsL_mono h h1, h2⟩

theorem IsL_mono {σ τ : Env} (h : σ.le τ) : ∀ {xs : List V} {vs : List Value}, IsL D σ xs vs → IsL D τ xs vs
  | [], vs, hx => hx
  | x :: xs, vs, hx => by
    obtain ⟨v, ws, h1, h2, h3⟩ := hx
    exact ⟨v, ws, h1, V.Is_mono h h2, IsL_mono h h3⟩

theorem T.Is_mono {σ τ : Env} (h : σ.le τ) {x : T} {v : Value} (hx : x.Is D σ v) : x.Is D τ v := by
  cases x with
  | dt y => exact V.Is_mono h hx
  | tup xs => obtain ⟨vs, h1, h2⟩ := hx; exact ⟨vs, h1, IsL_mono h h2⟩

theorem Atom.cells_one {σ : Env} {a : Atom} {l : List Value} (ha : a.cells D σ = some l) : ∀ x ∈ l, x.oneCell' = true := by
  intro x hx
  cases a with
  | el e => injection ha with ha; subst ha; exact D.one e x hx
  | ptr b o =>
    simp only [Atom.cells] at ha
    cases hb : σ.blk b with
    | none => rw [hb] at ha; cases ha
    | some g => rw [hb] at ha; injection ha with ha; subst ha; simp at hx; subst hx; rfl
  | slc b o n c =>
    simp only [Atom.cells] at ha
    cases hb : σ.blk b with
    | none => rw [hb] at ha; cases ha
    | some g => rw [hb] at ha; injection ha with ha; subst ha; simp at hx; subst hx; rfl
  | held i =>
    simp only [Atom.cells] at ha
    cases hb : σ.hld i with
    | none => rw [hb] at ha; cases ha
    | some g => rw [hb] at ha; injection ha with ha; subst ha; simp at hx; subst hx; exact σ.one i _ hb
  | bool b => injection ha with ha; subst ha; simp at hx; subst hx; rfl
  | int k n => injection ha with ha; subst ha; simp at hx; subst hx; rfl
  | nils => injection ha with ha; subst ha; simp at hx; subst hx; rfl
  | gl g => injection ha with ha; subst ha; simp at hx; subst hx; rfl
  | hp i j =>
    simp only [Atom.cells] at ha
    split at ha
    · injection ha with ha; subst ha; simp at hx; subst hx; rfl
    · cases ha

theorem Atom.cells_len {σ : Env} {a : Atom} {l : List Value} (ha : a.cells D σ = some l) : l.length = a.wid D.wid := by
  cases a with
  | el e => injection ha with ha; subst ha; exact D.len e
  | ptr b o =>
    simp only [Atom.cells] at ha
    cases hb : σ.blk b with
    | none => rw [hb] at ha; cases ha
    | some g => rw [hb] at ha; injection ha with ha; subst ha; rfl
  | slc b o n c =>
    simp only [Atom.cells] at ha
    cases hb : σ.blk b with
    | none => rw [hb] at ha; cases ha
    | some g => rw [hb] at ha; injection ha with ha; subst ha; rfl
  | held i =>
    simp only [Atom.cells] at ha
    cases hb : σ.hld i with
    | none => rw [hb] at ha; cases ha
    | some g => rw [hb] at ha; injection ha with ha; subst ha; rfl
  | bool b => injection ha with ha; subst ha; rfl
  | int k n => injection ha with ha; subst ha; rfl
  | nils => injection ha with ha; subst ha; rfl
  | gl g => injection ha with ha; subst ha; rfl
  | hp i j =>
    simp only [Atom.cells] at ha
    split at ha
    · injection ha with ha; subst ha; rfl
    · cases ha

theorem cellsL_one {σ : Env} : ∀ {as : List Atom} {l : List Value}, cellsL D σ as = some l → ∀ x ∈ l, x.oneCell' = true
  | [], l, h, x, hx => by injection h with h; subst h; cases hx
  | a :: as, l, h, x, hx => by
    obtain ⟨y, z, h1, h2, rfl⟩ := cellsL_cons h
    rcases List.mem_append.1 hx with hx | hx
    · exact Atom.cells_one h1 x hx
    · exact cellsL_one h2 x hx

theorem cellsL_append {σ : Env} : ∀ {as bs : List Atom} {l m : List Value}, cellsL D σ as = some l → cellsL D σ bs = some m → cellsL D σ (as ++ bs) = some (l ++ m)
  | [], bs, l, m, h, k => by injection h with h; subst h; exact k
  | a :: as, bs, l, m, h, k => by
    obtain ⟨x, y, h1, h2, rfl⟩ := cellsL_cons h
    rw [List.append_assoc]
    exact cellsL_mk h1 (cellsL_append h2 k)

theorem V.Is_cells {σ : Env} {x : V} {v : Value} (h : x.Is D σ v) : cellsL D σ x.atoms = some v.cells.toList := by
  cases x with
  | one a =>
    have h1 := Atom.cells_one h v (by simp)
    have : v.cells = #[v] := by cases v <;> first | rfl | (simp [Value.oneCell'] at h1)
    rw [this]
    exact cellsL_mk (as := []) h rfl
  | agg as =>
    obtain ⟨l, h1, rfl⟩ := h
    simpa [V.atoms, Value.cells] using h1

def widL (wid : E → Nat) : List Atom → Nat
  | [] => 0
  | a :: as => a.wid wid + widL wid as

theorem cellsL_len {σ : Env} : ∀ {as : List Atom} {l : List Value}, cellsL D σ as = some l → l.length = widL D.wid as
  | [], l, h => by injection h with h; subst h; rfl
  | a :: as, l, h => by
    obtain ⟨x, y, h1, h2, rfl⟩ := cellsL_cons h
    rw [List.length_append, Atom.cells_len h1, cellsL_len h2]; rfl

/-- what lies behind n cells -/
def dropW (wid : E → Nat) : List Atom → Nat → Option (List Atom)
  | [], n => match n with
    | 0 => some []
    | _ + 1 => .none
  | a :: as, n => match n with
    | 0 => some (a :: as)
    | n + 1 => match Nat.ble (a.wid wid) (n + 1) with
      | true => dropW wid as (n + 1 - a.wid wid)
      | false => .none

/-- the first n cells -/
def takeW (wid : E → Nat) : List Atom → Nat → Option (List Atom)
  | [], n => match n with
    | 0 => some []
    | _ + 1 => .none
  | a :: as, n => match n with
    | 0 => some []
    | n + 1 => match Nat.ble (a.wid wid) (n + 1) with
      | true => match takeW wid as (n + 1 - a.wid wid) with
        | some bs => some (a :: bs)
        | .none => .none
      | false => .none

theorem dropW_ok {σ : Env} : ∀ {as bs : List Atom} {l : List Value} {n : Nat}, cellsL D σ as = some l → dropW D.wid as n = some bs → n ≤ l.length ∧ cellsL D σ bs = some (l.drop n)
  | [], bs, l, n, h, k => by
    injection h with h; subst h
    cases n with
    | zero => simp [dropW] at k; subst k; exact ⟨Nat.le_refl _, rfl⟩
    | succ n => simp [dropW] at k
  | a :: as, bs, l, n, h, k => by
    cases n with
    | zero => simp [dropW] at k; subst k; exact ⟨Nat.zero_le _, h⟩
    | succ n =>
      obtain ⟨x, y, h1, h2, rfl⟩ := cellsL_cons h
      have hx := Atom.cells_len h1
      simp only [dropW] at k
      cases hb : Nat.ble (a.wid D.wid) (n + 1) with
      | false => rw [hb] at k; cases k
      | true =>
        rw [hb] at k
        have hle := Nat.le_of_ble_eq_true hb
        obtain ⟨h3, h4⟩ := dropW_ok h2 k
        refine ⟨by rw [List.length_append]; omega, ?_⟩
        rw [h4, List.drop_append, show List.drop (n + 1) x = [] from List.drop_of_length_le (by omega), hx, List.nil_append]

theorem takeW_ok {σ : Env} : ∀ {as bs : List Atom} {l : List Value} {n : Nat}, cellsL D σ as = some l → takeW D.wid as n = some bs → n ≤ l.length ∧ cellsL D σ bs = some (l.take n)
  | [], bs, l, n, h, k => by
    injection h with h; subst h
    cases n with
    | zero => simp [takeW] at k; subst k; exact ⟨Nat.le_refl _, rfl⟩
    | succ n => simp [takeW] at k
  | a :: as, bs, l, n, h, k => by
    cases n with
    | zero => simp [takeW] at k; subst k; exact ⟨Nat.zero_le _, rfl⟩
    | succ n =>
      obtain ⟨x, y, h1, h2, rfl⟩ := cellsL_cons h
      have hx := Atom.cells_len h1
      simp only [takeW] at k
      cases hb : Nat.ble (a.wid D.wid) (n + 1) with
      | false => rw [hb] at k; cases k
      | true =>
        rw [hb] at k
        have hle := Nat.le_of_ble_eq_true hb
        cases ht : takeW D.wid as (n + 1 - a.wid D.wid) with
        | none => rw [ht] at k; cases k
        | some cs =>
          rw [ht] at k
          injection k with k; subst k
          obtain ⟨h3, h4⟩ := takeW_ok h2 ht
          refine ⟨by rw [List.length_append]; omega, ?_⟩
          rw [List.take_append, List.take_of_length_le (by omega), hx]
          exact cellsL_mk h1 h4

/-- n cells from place o on -/
def subW (wid : E → Nat) (as : List Atom) (o n : Nat) : Option (List Atom) :=
  match dropW wid as o with
  | some bs => takeW wid bs n
  | .none => .none

theorem subW_ok {σ : Env} {as bs : List Atom} {l : List Value} {o n : Nat} (h : cellsL D σ as = some l) (k : subW D.wid as o n = some bs) :
    o + n ≤ l.length ∧ cellsL D σ bs = some ((l.drop o).take n) := by
  unfold subW at k
  cases hd : dropW D.wid as o with
  | none => rw [hd] at k; cases k
  | some cs =>
    rw [hd] at k
    obtain ⟨h1, h2⟩ := dropW_ok h hd
    obtain ⟨h3, h4⟩ := takeW_ok h2 k
    rw [List.length_drop] at h3
    exact ⟨by omega, h4⟩

/-- the cells from place o on are others -/
def putW (wid : E → Nat) (as : List Atom) (o : Nat) (xs : List Atom) : Option (List Atom) :=
  match takeW wid as o, dropW wid as (o + widL wid xs) with
  | some bs, some cs => some (bs ++ (xs ++ cs))
  | _, _ => .none

theorem putW_ok {σ : Env} {as xs bs : List Atom} {l m : List Value} {o : Nat} (h : cellsL D σ as = some l) (hx : cellsL D σ xs = some m) (k : putW D.wid as o xs = some bs) :
    o + m.length ≤ l.length ∧ cellsL D σ bs = some (l.take o ++ (m ++ l.drop (o + m.length))) := by
  unfold putW at k
  cases ht : takeW D.wid as o with
  | none => rw [ht] at k; cases k
  | some bs =>
    cases hd : dropW D.wid as (o + widL D.wid xs) with
    | none => rw [ht, hd] at k; cases k
    | some cs =>
      rw [ht, hd] at k
      injection k with k; subst k
      rw [← cellsL_len hx] at hd
      obtain ⟨h1, h2⟩ := takeW_ok h ht
      obtain ⟨h3, h4⟩ := dropW_ok h hd
      exact ⟨h3, cellsL_append h2 (cellsL_append hx h4)⟩

def atomOf : Value → Option Atom
  | .bool b => some (.bool b)
  | .int k n => some (.int k n)
  | .slice .none 0 0 => some .nils
  | _ => .none

def atomsOf : List Value → Option (List Atom)
  | [] => some []
  | v :: vs => match atomOf v, atomsOf vs with
    | some a, some as => some (a :: as)
    | _, _ => .none

def vOf : Value → Option V
  | .agg cs => match atomsOf cs.toList with
    | some as => some (.agg as)
    | .none => .none
  | v => match atomOf v with
    | some a => some (.one a)
    | .none => .none

theorem atomOf_ok {σ : Env} {v : Value} {a : Atom} (h : atomOf v = some a) : a.cells D σ = some [v] := by
  unfold atomOf at h
  split at h <;> first | (injection h with h; subst h; rfl) | cases h

theorem atomsOf_ok {σ : Env} : ∀ {vs : List Value} {as : List Atom}, atomsOf vs = some as → cellsL D σ as = some vs
  | [], as, h => by injection h with h; subst h; rfl
  | v :: vs, as, h => by
    simp only [atomsOf] at h
    cases ha : atomOf v with
    | none => rw [ha] at h; cases h
    | some a =>
      cases hs : atomsOf vs with
      | none => rw [ha, hs] at h; cases h
      | some bs =>
        rw [ha, hs] at h
        injection h with h; subst h
        exact cellsL_mk (atomOf_ok ha) (atomsOf_ok hs)

theorem vOf_ok {σ : Env} {v : Value} {x : V} (h : vOf v = some x) : x.Is D σ v := by
  unfold vOf at h
  split at h
  · rename_i cs
    cases ha : atomsOf cs.toList with
    | none => rw [ha] at h; cases h
    | some as =>
      rw [ha] at h
      injection h with h; subst h
      exact ⟨_, atomsOf_ok ha, by simp⟩
  · split at h
    · rename_i a ha
      injection h with h; subst h
      exact atomOf_ok ha
    · cases h
end

/-- the first of that key -/
def find {α : Type} : List (Nat × α) → Nat → Option α
  | [], _ => .none
  | (k, x) :: r, n => match Nat.beq k n with
    | true => some x
    | false => find r n

theorem find_cons {α : Type} {k n : Nat} {x y : α} {r : List (Nat × α)} (h : find ((k, x) :: r) n = some y) : (k = n ∧ x = y) ∨ (k ≠ n ∧ find r n = some y) := by
  simp only [find] at h
  cases hb : Nat.beq k n with
  | true => rw [hb] at h; injection h with h; exact .inl ⟨Nat.eq_of_beq_eq_true hb, h⟩
  | false => rw [hb] at h; exact .inr ⟨Nat.ne_of_beq_eq_false hb, h⟩

end Go.Proofs.YtdconlmpjehohaaDoor.Sx

/- A symbolic run of straight code, part 2: one operation. Conditions: those of each theorem. -/
namespace Go.Proofs.YtdconlmpjehohaaDoor.Sx
open Go.RowKit
set_option linter.unusedVariables false

section memory
variable {P : Program}

def szOf (P : Program) (t : TypeId) : Option Nat := match P.info? t with
  | some i => some i.size
  | .none => .none

def aggOf (P : Program) (t : TypeId) : Option Bool := match P.underlying t with
  | some (.struct _) => some true
  | some (.array _ _) => some true
  | some _ => some false
  | .none => .none

theorem run_sizeOf {t : TypeId} {n : Nat} (h : szOf P t = some n) (w : World) : (sizeOf t).run P w = .ok n w := by
  unfold szOf at h
  cases hi : P.info? t with
  | none => rw [hi] at h; cases h
  | some i => rw [hi] at h; injection h with h; subst h; simp [sizeOf, typeInfo, hi]

theorem run_isAgg {t : TypeId} {b : Bool} (h : aggOf P t = some b) (w : World) : (isAgg t).run P w = .ok b w := by
  unfold aggOf at h
  cases hu : P.underlying t with
  | none => rw [hu] at h; cases h
  | some d =>
    rw [hu] at h
    unfold isAgg
    rw [Sem.run_bind, run_underlying hu w]
    cases d <;> (injection h with h; subst h; rfl)

theorem addr_add (g o i : Nat) : (⟨g, o, none⟩ : Addr).add i = ⟨g, o + i, none⟩ := by
  unfold Addr.add
  split
  · rename_i h; subst h; rfl
  · rfl

theorem run_loadCells_part {w : World} {g o n : Nat} {l : List Value} {t : TypeId} (hg : w.heap[g]? = some (.cells l.toArray t (0, 0))) (ho : o + n ≤ l.length) :
    (loadCells ⟨g, o, none⟩ n).run P w = .ok ((l.drop o).take n).toArray w := by
  have hlen : ((l.drop o).take n).length = n := by rw [List.length_take, List.length_drop]; omega
  have := run_loadCells_list (P := P) w ⟨g, o, none⟩ ((l.drop o).take n) (fun j v hv => by
    rw [addr_add, cell_of_row w g (o + j) l.toArray t (0, 0) hg]
    rw [List.getElem?_take, List.getElem?_drop] at hv
    split at hv
    · simpa using hv
    · cases hv)
  rwa [hlen] at this

theorem run_loadVar_aggC {w : World} {g o n : Nat} {l : List Value} {ty : TypeId} (hg : ∀ j v, l[j]? = some v → w.cell? ⟨g, j, none⟩ = some v) (hs : szOf P ty = some n) (ha : aggOf P ty = some true) (ho : o + n ≤ l.length) :
    (loadVar ty ⟨g, o, none⟩).run P w = .ok (.agg ((l.drop o).take n).toArray) w := by
  have hlen : ((l.drop o).take n).length = n := by rw [List.length_take, List.length_drop]; omega
  have := run_loadCells_list (P := P) w ⟨g, o, none⟩ ((l.drop o).take n) (fun j v hv => by
    rw [addr_add]
    rw [List.getElem?_take, List.getElem?_drop] at hv
    split at hv
    · exact hg _ _ hv
    · cases hv)
  rw [hlen] at this
  simp only [loadVar, Sem.run_bind, run_isAgg ha, Result.andThen_ok, if_true, run_sizeOf hs, this, Sem.run_pure]

theorem run_loadVar_oneC {w : World} {g o : Nat} {v : Value} {ty : TypeId} (hg : w.cell? ⟨g, o, none⟩ = some v) (ha : aggOf P ty = some false) :
    (loadVar ty ⟨g, o, none⟩).run P w = .ok v w := by
  simp only [loadVar, Sem.run_bind, run_isAgg ha, Result.andThen_ok, Bool.false_eq_true, if_false, run_load, hg]

theorem run_loadVar_agg {w : World} {g o n : Nat} {l : List Value} {t ty : TypeId} (hg : w.heap[g]? = some (.cells l.toArray t (0, 0))) (hs : szOf P ty = some n) (ha : aggOf P ty = some true) (ho : o + n ≤ l.length) :
    (loadVar ty ⟨g, o, none⟩).run P w = .ok (.agg ((l.drop o).take n).toArray) w := by
  simp only [loadVar, Sem.run_bind, run_isAgg ha, Result.andThen_ok, if_true, run_sizeOf hs, run_loadCells_part hg ho, Sem.run_pure]

theorem run_loadVar_one {w : World} {g o : Nat} {l : List Value} {v : Value} {t ty : TypeId} (hg : w.heap[g]? = some (.cells l.toArray t (0, 0))) (ha : aggOf P ty = some false) (ho : l[o]? = some v) :
    (loadVar ty ⟨g, o, none⟩).run P w = .ok v w := by
  simp only [loadVar, Sem.run_bind, run_isAgg ha, Result.andThen_ok, Bool.false_eq_true, if_false, run_load]
  rw [cell_of_row w g o l.toArray t (0, 0) hg]
  simp [ho]

theorem setRow_self (w : World) (g : Nat) (l : List Value) (t : TypeId) (hg : w.heap[g]? = some (.cells l.toArray t (0, 0))) : w.setRow g l.toArray = w := by
  have hlt : g < w.heap.size := (Array.getElem?_eq_some_iff.1 hg).1
  have hv : w.heap[g] = .cells l.toArray t (0, 0) := (Array.getElem?_eq_some_iff.1 hg).2
  unfold World.setRow
  cases w with
  | mk heap tape drawn os output =>
    congr 1
    apply Array.ext
    · simp
    · intro k h1 h2
      simp only [Array.getElem_modify]
      split
      · rename_i hk; subst hk; simp at hv; simp [hv]
      · rfl

theorem set_row {α : Type} {l rest : List α} {k : Nat} {v : α} (h : k + 1 + rest.length ≤ l.length) :
    (l.set k v).take (k + 1) ++ (rest ++ (l.set k v).drop (k + 1 + rest.length)) = l.take k ++ (v :: rest ++ l.drop (k + (rest.length + 1))) := by
  have h1 : (l.set k v).take (k + 1) = l.take k ++ [v] := by
    rw [List.set_eq_take_append_cons_drop, if_pos (by omega), List.take_append, List.length_take, show min k l.length = k by omega, show k + 1 - k = 1 by omega, List.take_of_length_le (by rw [List.length_take]; omega)]
    rfl
  have h2 : (l.set k v).drop (k + 1 + rest.length) = l.drop (k + (rest.length + 1)) := by
    rw [List.drop_set_of_lt (by omega), show k + 1 + rest.length = k + (rest.length + 1) by omega]
  rw [h1, h2]
  simp

theorem run_storeCells_part (g o : Nat) (t : TypeId) : ∀ (vs : List Value) (i : Nat) (l : List Value) (w : World), w.heap[g]? = some (.cells l.toArray t (0, 0)) → o + i + vs.length ≤ l.length → (∀ v ∈ vs, v.oneCell' = true) →
    (storeCells ⟨g, o, none⟩ vs i).run P w = .ok () (w.setRow g (l.take (o + i) ++ (vs ++ l.drop (o + i + vs.length))).toArray)
  | [], i, l, w, hg, hl, _ => by
    simp only [storeCells, List.nil_append, List.length_nil, Nat.add_zero, List.take_append_drop, setRow_self w g l t hg]
    rfl
  | v :: rest, i, l, w, hg, hl, h1 => by
    simp only [List.length_cons] at hl
    have hlt : o + i < l.length := by omega
    have hcell : w.cell? ⟨g, o + i, none⟩ = some l[o + i] := by rw [cell_of_row w g (o + i) l.toArray t (0, 0) hg]; simp [hlt]
    have hfro : w.frozen? ⟨g, o + i, none⟩ = false := by simp [World.frozen?, hg]
    have hst : (store ((⟨g, o, none⟩ : Addr).add i) v).run P w = .ok () (w.setRow g (l.set (o + i) v).toArray) := by
      rw [addr_add, run_store P w _ v _ (h1 v (by simp)), hcell]
      simp [hfro, setCell_eq_setRow w g (o + i) l.toArray t (0, 0) v hg]
    have ih := run_storeCells_part g o t rest (i + 1) (l.set (o + i) v) (w.setRow g (l.set (o + i) v).toArray) (setRow_heap w g l.toArray _ t _ hg) (by rw [List.length_set]; omega) (fun x hx => h1 x (by simp [hx]))
    simp only [storeCells, Sem.run_bind, hst, Result.andThen_ok, ih, setRow_setRow]
    rw [show o + (i + 1) = o + i + 1 by omega, set_row (by omega), List.length_cons]

theorem run_storeVar_part {w : World} {g o n : Nat} {l : List Value} {t ty : TypeId} {v : Value} (hg : w.heap[g]? = some (.cells l.toArray t (0, 0))) (hs : szOf P ty = some n) (hn : v.cells.size = n) (h1 : ∀ x ∈ v.cells.toList, x.oneCell' = true)
    (ho : o + n ≤ l.length) : (storeVar ty ⟨g, o, none⟩ v).run P w = .ok () (w.setRow g (l.take o ++ (v.cells.toList ++ l.drop (o + n))).toArray) := by
  have hx : v.cells.toList.length = n := by simpa using hn
  have := run_storeCells_part (P := P) g o t v.cells.toList 0 l w hg (by omega) h1
  simp only [storeVar, Sem.run_bind, run_sizeOf hs, Result.andThen_ok, hn, ne_eq, not_true_eq_false, if_false]
  rw [hx, Nat.add_zero] at this
  simpa using this

end memory

/-- what the run knows: slots, blocks, held values -/
structure St where
  env : List (Nat × T)
  mem : List (Nat × TypeId × List Atom)
  hs : List (Nat × E)

structure Eff where
  val : Option T
  blk : Option (TypeId × List Atom)
  hld : List (Nat × E)
  st : Option (Nat × TypeId × List Atom)

/-- a part of a struct: plain cells, or what is held -/
inductive MA where
  | at_ (a : Atom)
  | hd (e : E)
  | vw (xs : List Atom)

inductive CArg where
  | dt (x : V)
  | held (e : E)
  | view (as : List Atom)
  | mix (ms : List MA)

inductive RV where
  | dt (x : V)
  | h (e : E)
  | mix (ms : List MA)

inductive Res where
  | one (r : RV)
  | tup (rs : List RV)

structure Tab where
  wid : E → Nat
  bin : BinOp → TypeId → V → V → Option V
  un : UnOp → V → Option V
  len : CArg → Option V
  ctr : FuncId → List CArg → Option Res
  glob : Nat → Option (List Atom)
  slc : E → Option Nat → Option Nat → Option E
  cnv : TypeId → TypeId → V → Option V
  idx : E → Nat → Option V
  app : TypeId → E → E → Option E

section meaning
variable (D : Den)

/-- a slice of a block of the caller's -/
def ViewIs (σ : Env) (w : World) (as : List Atom) (v : Value) : Prop := ∃ b o c l, v = .slice (some ⟨b, o, none⟩) l.length c ∧ l.length ≤ c ∧ cellsL D σ as = some l ∧ b < w.heap.size ∧ ∀ j (h : j < l.length), w.cell? ⟨b, o + j, none⟩ = some l[j]

def noVw : List MA → Bool
  | [] => true
  | .vw _ :: _ => false
  | _ :: ms => noVw ms

def MAsIs (σ : Env) (w : World) (N : Value → Prop) : List MA → List Value → Prop
  | [], l => l = []
  | .at_ a :: ms, l => ∃ x y, l = x ++ y ∧ a.cells D σ = some x ∧ MAsIs σ w N ms y
  | .hd e :: ms, l => ∃ v y, l = v :: y ∧ D.hold e v w ∧ N v ∧ MAsIs σ w N ms y
  | .vw xs :: ms, l => ∃ v y, l = v :: y ∧ ViewIs D σ w xs v ∧ MAsIs σ w N ms y

def CArg.Is (σ : Env) (w : World) : CArg → Value → Prop
  | .dt x, v => x.Is D σ v
  | .held e, v => D.hold e v w
  | .view as, v => ∃ b o c l, v = .slice (some ⟨b, o, none⟩) l.length c ∧ l.length ≤ c ∧ cellsL D σ as = some l ∧ b < w.heap.size ∧ ∀ j (h : j < l.length), w.cell? ⟨b, o + j, none⟩ = some l[j]
  | .mix ms, v => ∃ l, v = .agg l.toArray ∧ MAsIs D σ w (fun _ => True) ms l

def ArgsIs (σ : Env) (w : World) : List CArg → List Value → Prop
  | [], vs => vs = []
  | c :: cs, vs => ∃ v ws, vs = v :: ws ∧ c.Is D σ w v ∧ ArgsIs σ w cs ws

/-- a held result is new -/
def RV.Is (base : Nat) (w : World) : RV → Value → Prop
  | .dt x, v => x.Is D Env.empty v
  | .h e, v => D.hold e v w ∧ ∀ g, v.ownBlock = some g → base ≤ g
  | .mix ms, v => ∃ l, v = .agg l.toArray ∧ noVw ms = true ∧ MAsIs D Env.empty w (fun v => ∀ g, v.ownBlock = some g → base ≤ g) ms l

def RVsIs (base : Nat) (w : World) : List RV → List Value → Prop
  | [], vs => vs = []
  | r :: rs, vs => ∃ v ws, vs = v :: ws ∧ r.Is D base w v ∧ RVsIs base w rs ws

def Res.Is (base : Nat) (w : World) : Res → Value → Prop
  | .one r, v => r.Is D base w v
  | .tup rs, v => ∃ vs, v = .tuple vs.toArray ∧ RVsIs D base w rs vs
end meaning

def isGo (P : Program) (f : FuncId) : Bool := match P.funcs[f]? with
  | some fn => !(fn.name == "runtime.NumGoroutine") && fn.body.isSome
  | none => false

theorem run_callGo {P : Program} {f : FuncId} (h : isGo P f = true) (args : Array Value) (w : World) : (callFunc f args).run P w = .ok (.enter f args) w := by
  unfold isGo at h
  cases hf : P.funcs[f]? with
  | none => rw [hf] at h; cases h
  | some fn =>
    rw [hf] at h
    simp only [Bool.and_eq_true, Bool.not_eq_true'] at h
    obtain ⟨h1, h2⟩ := h
    have h3 : fn.body ≠ none := by intro e; rw [e] at h2; cases h2
    have h4 : ¬ fn.name = "runtime.NumGoroutine" := by simpa using h1
    simp [callFunc, hf, h4, h3]

/-- a bound that may be left out -/
def BoundIs : Option Nat → Option Value → Prop
  | .none, v => v = .none
  | some n, v => ∃ k, v = some (.int k (n : Int))

/-- a table's answers are right -/
structure Right (P : Program) (D : Den) (I : World → Prop) (tab : Tab) : Prop where
  wid : tab.wid = D.wid
  bin : ∀ op ty x y r, tab.bin op ty x y = some r → ∀ σ vx vy, x.Is D σ vx → y.Is D σ vy → ∀ (X Y : Operand) w, ∃ v, (do eqGuard op ty X Y vx vy; binOp op ty vx vy : Sem Value).run P w = .ok v w ∧ r.Is D σ v
  un : ∀ op x r, tab.un op x = some r → ∀ σ vx, x.Is D σ vx → ∀ w, ∃ v, (Op.unary op vx).run P w = .ok v w ∧ r.Is D σ v
  len : ∀ c r, tab.len c = some r → ∀ σ w v, c.Is D σ w v → ∃ A n cp, v = .slice A n cp ∧ r.Is D σ (.int .i64 (n : Nat))
  glob : ∀ g xs, tab.glob g = some xs → ∃ l, cellsL D Env.empty xs = some l ∧ ∀ w, I w → ∀ j v, l[j]? = some v → w.cell? ⟨g, j, none⟩ = some v
  slc : ∀ e lo hi e', tab.slc e lo hi = some e' → ∀ ty elem, P.underlying ty = some (.slice elem) → szOf P elem = some 1 → ∀ v w lv hv, D.hold e v w → BoundIs lo lv → BoundIs hi hv →
    ∃ v', (Instr.sliceAt ty v lv hv none).run P w = .ok v' w ∧ D.hold e' v' w ∧ ∀ g, v'.ownBlock = some g → v.ownBlock = some g
  cnv : ∀ s d x r, tab.cnv s d x = some r → ∀ σ vx, x.Is D σ vx → ∀ w, ∃ v, (convert s d vx).run P w = .ok v w ∧ r.Is D σ v
  idx : ∀ e j r, tab.idx e j = some r → ∀ σ v w, D.hold e v w → ∃ g o n c u, v = .slice (some ⟨g, o, none⟩) n c ∧ j < n ∧ w.cell? ⟨g, o + j, none⟩ = some u ∧ r.Is D σ u
  app : ∀ el e1 e2 e3, tab.app el e1 e2 = some e3 → ∀ t ty w v1 v2, P.underlying t = some (.slice el) → D.hold e1 v1 w → D.hold e2 v2 w →
    ∃ v w', (Builtin.append_ #[t, t] ty #[v1, v2]).run P w = .ok v w' ∧ Below w.heap.size w w' ∧ D.hold e3 v w' ∧ ∀ g, v.ownBlock = some g → w.heap.size ≤ g
  ctr : ∀ f cs r, tab.ctr f cs = some r → isGo P f = true ∧ ∀ σ w vs, ArgsIs D σ w cs vs → I w → Calls P f vs.toArray w fun e w' => ∃ v, e = .returned v ∧ Below w.heap.size w w' ∧ r.Is D w.heap.size w' v

def opnd (s : St) : Operand → Option T
  | .tmp t => find s.env t
  | .const v => match vOf v with
    | some x => some (.dt x)
    | .none => .none
  | .global g => some (.dt (.one (.gl g)))
  | _ => .none

def glOf : Option T → Option Nat
  | some (.dt (.one (.gl g))) => some g
  | _ => .none

def natOpt (s : St) : Option Operand → Option (Option Nat)
  | .none => some .none
  | some x => match opnd s x with
    | some (.dt (.one (.int _ (.ofNat n)))) => some (some n)
    | _ => .none

def ptrOf : Option T → Option (Nat × Nat)
  | some (.dt (.one (.ptr b o))) => some (b, o)
  | _ => .none

def boolOf : Option T → Option Bool
  | some (.dt (.one (.bool b))) => some b
  | _ => .none

def natOf : Option T → Option Nat
  | some (.dt (.one (.int _ (.ofNat n)))) => some n
  | _ => .none

def heldOf : Option T → Option Nat
  | some (.dt (.one (.held i))) => some i
  | _ => .none

def hpOf : Option T → Option (Nat × Nat)
  | some (.dt (.one (.hp i j))) => some (i, j)
  | _ => .none

def anyHeld : List Atom → Bool
  | [] => false
  | .held _ :: _ => true
  | .slc _ _ _ _ :: _ => true
  | _ :: as => anyHeld as

/-- a struct's parts -/
def mixArg (wid : E → Nat) (s : St) : List Atom → Option (List MA)
  | [] => some []
  | .held i :: as => match find s.hs i, mixArg wid s as with
    | some e, some ms => some (.hd e :: ms)
    | _, _ => .none
  | .slc b o n c :: as => match find s.mem b, mixArg wid s as with
    | some (_, bs), some ms => match subW wid bs o n, Nat.ble n c with
      | some xs, true => some (.vw xs :: ms)
      | _, _ => .none
    | _, _ => .none
  | a :: as => match mixArg wid s as with
    | some ms => some (.at_ a :: ms)
    | .none => .none

def argOf (wid : E → Nat) (s : St) : Option T → Option CArg
  | some (.dt (.one (.held i))) => match find s.hs i with
    | some e => some (.held e)
    | .none => .none
  | some (.dt (.one (.slc b o n c))) => match find s.mem b with
    | some (_, as) => match subW wid as o n, Nat.ble n c with
      | some bs, true => some (.view bs)
      | _, _ => .none
    | .none => .none
  | some (.dt (.agg as)) => match anyHeld as with
    | true => match mixArg wid s as with
      | some ms => some (.mix ms)
      | .none => .none
    | false => some (.dt (.agg as))
  | some (.dt x) => some (.dt x)
  | _ => .none

def argsOf (wid : E → Nat) (s : St) : List Operand → Option (List CArg)
  | [] => some []
  | x :: xs => match argOf wid s (opnd s x), argsOf wid s xs with
    | some c, some cs => some (c :: cs)
    | _, _ => .none

def vsOf (s : St) : List (Nat × Operand) → Option (List (Nat × V))
  | [] => some []
  | (i, x) :: xs => match opnd s x, vsOf s xs with
    | some (.dt v), some vs => some ((i, v) :: vs)
    | _, _ => .none

/-- a call's results: what slots hold, and what is held -/
def mixOf : Nat → List MA → List Atom × List (Nat × E)
  | _, [] => ([], [])
  | k, .at_ a :: ms => (a :: (mixOf k ms).1, (mixOf k ms).2)
  | k, .hd e :: ms => (.held k :: (mixOf (k + 1) ms).1, (k, e) :: (mixOf (k + 1) ms).2)
  | k, .vw _ :: ms => (.nils :: (mixOf k ms).1, (mixOf k ms).2)

def cntM : List MA → Nat
  | [] => 0
  | .at_ _ :: ms => cntM ms
  | .vw _ :: ms => cntM ms
  | .hd _ :: ms => cntM ms + 1

def RV.cnt : RV → Nat
  | .dt _ => 1
  | .h _ => 1
  | .mix ms => cntM ms

def cntR : List RV → Nat
  | [] => 0
  | r :: rs => r.cnt + cntR rs

def rvOf (k : Nat) : RV → V × List (Nat × E)
  | .dt x => (x, [])
  | .h e => (.one (.held k), [(k, e)])
  | .mix ms => (.agg (mixOf k ms).1, (mixOf k ms).2)

def rvsOf (k : Nat) : List RV → List V × List (Nat × E)
  | [] => ([], [])
  | r :: rs => ((rvOf k r).1 :: (rvsOf (k + r.cnt) rs).1, (rvOf k r).2 ++ (rvsOf (k + r.cnt) rs).2)

def effOf (u : Nat) : Res → Option Eff
  | .one r => match Nat.ble r.cnt 16 with
    | true => some ⟨some (.dt (rvOf (32 * u) r).1), .none, (rvOf (32 * u) r).2, .none⟩
    | false => .none
  | .tup rs => match Nat.ble (cntR rs) 16 with
    | true => some ⟨some (.tup (rvsOf (32 * u) rs).1), .none, (rvsOf (32 * u) rs).2, .none⟩
    | false => .none

def zeroOf (P : Program) (t : TypeId) : Option V := match P.info? t with
  | some i => match i.zero with
    | some v => vOf v
    | .none => .none
  | .none => .none

/-- the places of the fields of a struct, of the elements of an array -/
def placesOf (P : Program) (t : TypeId) : Option (Nat → Option (Nat × Nat)) := match P.underlying t with
  | some (.struct fs) => match fs.toList.mapM (fun f => (P.info? f.type).map fun i => (f.offset, i.size)) with
    | some places => some fun i => places.toArray[i]?
    | .none => .none
  | some (.array n e) => match P.info? e with
    | some i => some fun k => some (k * i.size, i.size)
    | .none => .none
  | _ => .none

def partOf (P : Program) (wid : E → Nat) (as : List Atom) (o : Nat) (t : TypeId) : Option V := match szOf P t, aggOf P t with
  | some n, some true => match subW wid as o n with
    | some bs => some (.agg bs)
    | .none => .none
  | some _, some false => match subW wid as o 1 with
    | some [a] => match Nat.beq (a.wid wid) 1 with
      | true => some (.one a)
      | false => .none
    | _ => .none
  | _, _ => .none

def fillW (wid : E → Nat) (place : Nat → Option (Nat × Nat)) : List Atom → List (Nat × V) → Option (List Atom)
  | as, [] => some as
  | as, (i, x) :: r => match place i with
    | some (o, z) => match Nat.beq (widL wid x.atoms) z with
      | true => match putW wid as o x.atoms with
        | some bs => fillW wid place bs r
        | .none => .none
      | false => .none
    | .none => .none

def pureV (x : Option V) : Option Eff := match x with
  | some v => some ⟨some (.dt v), .none, [], .none⟩
  | .none => .none

def pureT (x : Option T) : Option Eff := match x with
  | some v => some ⟨some v, .none, [], .none⟩
  | .none => .none

def step (P : Program) (tab : Tab) (s : St) (u : Nat) (op : Op) : Option Eff := match op with
  | .move x => pureT (opnd s x)
  | .assign x => pureT (opnd s x)
  | .pick c a b => match boolOf (opnd s c) with
    | some true => pureT (opnd s a)
    | some false => pureT (opnd s b)
    | .none => .none
  | .alloc ty => match zeroOf P ty with
    | some x => some ⟨some (.dt (.one (.ptr u 0))), some (ty, x.atoms), [], .none⟩
    | .none => .none
  | .box ty x => match opnd s x with
    | some (.dt y) => some ⟨some (.dt (.one (.ptr u 0))), some (ty, y.atoms), [], .none⟩
    | _ => .none
  | .load ty x => match ptrOf (opnd s x) with
    | some (b, o) => match find s.mem b with
      | some (_, as) => pureV (partOf P tab.wid as o ty)
      | .none => .none
    | .none => match glOf (opnd s x) with
      | some g => match tab.glob g with
        | some as => pureV (partOf P tab.wid as 0 ty)
        | .none => .none
      | .none => match hpOf (opnd s x) with
        | some (i, j) => match find s.hs i, aggOf P ty with
          | some e, some false => pureV (tab.idx e j)
          | _, _ => .none
        | .none => .none
  | .store ty x y => match ptrOf (opnd s x), opnd s y with
    | some (b, o), some (.dt v) => match find s.mem b, szOf P ty with
      | some (mt, as), some n => match Nat.beq (widL tab.wid v.atoms) n, putW tab.wid as o v.atoms with
        | true, some bs => some ⟨.none, .none, [], some (b, mt, bs)⟩
        | _, _ => .none
      | _, _ => .none
    | _, _ => .none
  | .fieldAddr ty x f => match ptrOf (opnd s x), P.underlying ty with
    | some (b, o), some (.struct fs) => match fs[f]? with
      | some fd => match szOf P fd.type with
        | some (_ + 1) => some ⟨some (.dt (.one (.ptr b (o + fd.offset)))), .none, [], .none⟩
        | _ => .none
      | .none => .none
    | _, _ => .none
  | .indexAddr ty x ix => match ptrOf (opnd s x), natOf (opnd s ix), P.underlying ty with
    | some (b, o), some i, some (.array n e) => match Nat.blt i n, szOf P e with
      | true, some z => some ⟨some (.dt (.one (.ptr b (o + i * z)))), .none, [], .none⟩
      | _, _ => .none
    | .none, some j, some (.slice el) => match opnd s x with
      | some (.dt (.one (.slc b o m _))) => match Nat.blt j m, szOf P el with
        | true, some 1 => some ⟨some (.dt (.one (.ptr b (o + j)))), .none, [], .none⟩
        | _, _ => .none
      | y => match heldOf y with
        | some i => match find s.hs i, szOf P el with
          | some e, some 1 => match tab.idx e j with
            | some _ => some ⟨some (.dt (.one (.hp i j))), .none, [], .none⟩
            | .none => .none
          | _, _ => .none
        | .none => .none
    | _, _, _ => .none
  | .field ty x f => match opnd s x, P.underlying ty with
    | some (.dt (.agg as)), some (.struct fs) => match fs[f]? with
      | some fd => pureV (partOf P tab.wid as fd.offset fd.type)
      | .none => .none
    | _, _ => .none
  | .index ty x ix => match opnd s x, natOf (opnd s ix), P.underlying ty with
    | some (.dt (.agg as)), some i, some (.array n e) => match Nat.blt i n, szOf P e with
      | true, some z => pureV (partOf P tab.wid as (i * z) e)
      | _, _ => .none
    | _, _, _ => .none
  | .extract x i => match opnd s x with
    | some (.tup xs) => pureV xs[i]?
    | _ => .none
  | .build t ps => match zeroOf P t, vsOf s ps.toList, placesOf P t with
    | some (.agg z), some vs, some pl => match fillW tab.wid pl z vs with
      | some bs => pureV (some (.agg bs))
      | .none => .none
    | _, _, _ => .none
  | .binOp bop ty x y _ => match opnd s x, opnd s y with
    | some (.dt a), some (.dt b) => pureV (tab.bin bop ty a b)
    | _, _ => .none
  | .unOp uop _ x => match opnd s x with
    | some (.dt a) => pureV (tab.un uop a)
    | _ => .none
  | .slice ty x lo hi .none => match natOpt s lo, natOpt s hi with
    | some l, some h => match opnd s x, P.underlying ty with
      | some (.dt (.one (.ptr b o))), some (.array n e) => match szOf P e, Nat.ble (l.getD 0) (h.getD n), Nat.ble (h.getD n) n, Nat.blt (l.getD 0) n with
        | some 1, true, true, true => some ⟨some (.dt (.one (.slc b (o + l.getD 0) (h.getD n - l.getD 0) (n - l.getD 0)))), .none, [], .none⟩
        | _, _, _, _ => .none
      | some (.dt (.one (.slc b o n c))), some (.slice e) => match szOf P e, Nat.ble (l.getD 0) (h.getD n), Nat.ble (h.getD n) c, Nat.blt (l.getD 0) c with
        | some 1, true, true, true => some ⟨some (.dt (.one (.slc b (o + l.getD 0) (h.getD n - l.getD 0) (c - l.getD 0)))), .none, [], .none⟩
        | _, _, _, _ => .none
      | some (.dt (.one (.held i))), some (.slice e) => match szOf P e, find s.hs i with
        | some 1, some c => match tab.slc c l h with
          | some d => some ⟨some (.dt (.one (.held (32 * u + 16)))), .none, [(32 * u + 16, d)], .none⟩
          | .none => .none
        | _, _ => .none
      | _, _ => .none
    | _, _ => .none
  | .convert sT dT x => match opnd s x with
    | some (.dt a) => pureV (tab.cnv sT dT a)
    | _ => .none
  | .buildSlice t len ps => match P.underlying t, vsOf s ps.toList with
    | some (.slice e), some vs => match szOf P e, zeroOf P e, Nat.ble len 1024 with
      | some 1, some (.one z), true => match fillW tab.wid (fun i => some (i * 1, 1)) (List.replicate len z) vs with
        | some bs => some ⟨some (.dt (.one (.slc u 0 len len))), some (e, bs), [], .none⟩
        | .none => .none
      | _, _, _ => .none
    | _, _ => .none
  | .call c => match c.callee with
    | .value (.func f) => match argsOf tab.wid s c.args.toList with
      | some cs => match tab.ctr f cs with
        | some r => effOf u r
        | .none => .none
      | .none => .none
    | .builtin .len => match c.args.toList, c.argTypes[0]? with
      | [x], some t => match P.underlying t with
        | some (.slice _) => match argOf tab.wid s (opnd s x) with
          | some ca => pureV (tab.len ca)
          | .none => .none
        | some (.array n _) => pureV (some (.one (.int .i64 n)))
        | _ => .none
      | _, _ => .none
    | .builtin .copy => match c.args.toList, c.argTypes[0]? with
      | [x, y], some t => match P.underlying t, opnd s x, opnd s y with
        | some (.slice e), some (.dt (.one (.slc b o n _))), some (.dt (.one (.slc b' o' n' _))) => match szOf P e, find s.mem b, find s.mem b' with
          | some 1, some (mt, as), some (_, as') => match subW tab.wid as' o' (Nat.min n' n) with
            | some xs => match putW tab.wid as o xs with
              | some bs => some ⟨some (.dt (.one (.int .i64 (Nat.min n' n)))), .none, [], some (b, mt, bs)⟩
              | .none => .none
            | .none => .none
          | _, _, _ => .none
        | _, _, _ => .none
      | _, _ => .none
    | .builtin .append => match c.args.toList, c.argTypes.toList with
      | [x, y], [t, t'] => match Nat.beq t t', P.underlying t, heldOf (opnd s x), heldOf (opnd s y) with
        | true, some (.slice el), some i, some j => match find s.hs i, find s.hs j with
          | some e1, some e2 => match tab.app el e1 e2 with
            | some e3 => effOf u (.one (.h e3))
            | .none => .none
          | _, _ => .none
        | _, _, _, _ => .none
      | _, _ => .none
    | _ => .none
  | _ => .none

end Go.Proofs.YtdconlmpjehohaaDoor.Sx

/- A symbolic run of straight code, part 3: one operation is run rightly. Conditions: those of each theorem. -/
namespace Go.Proofs.YtdconlmpjehohaaDoor.Sx
open Go.RowKit
set_option linter.unusedVariables false

/-- the run's knowledge is true -/
structure Ok (D : Den) (k0 n : Nat) (F : Nat → Prop) (w0 : World) (s : St) (σ : Env) (a : Act) (w : World) : Prop where
  size : a.tmps.size = n
  defers : a.defers = []
  tmps : ∀ t x, find s.env t = some x → x.Is D σ (a.tmps.getD t undef)
  mem : ∀ k ty as, find s.mem k = some (ty, as) → ∃ g l, σ.blk k = some g ∧ cellsL D σ as = some l ∧ w.heap[g]? = some (.cells l.toArray ty (0, 0))
  hs : ∀ i e, find s.hs i = some e → ∃ v, σ.hld i = some v ∧ D.hold e v w
  base : ∀ k g, σ.blk k = some g → w0.heap.size ≤ g ∧ g < w.heap.size
  inj : ∀ k k' g, σ.blk k = some g → σ.blk k' = some g → k = k'
  apart : ∀ i v g k, σ.hld i = some v → v.ownBlock = some g → σ.blk k ≠ some g
  hlt : ∀ i v g, σ.hld i = some v → v.ownBlock = some g → g < w.heap.size
  new : ∀ i v g, k0 ≤ i → i % 32 < 16 → σ.hld i = some v → v.ownBlock = some g → w0.heap.size ≤ g
  below : Below w0.heap.size w0 w
  fresh : ∀ u, F u → σ.blk u = none ∧ ∀ i, 32 * u ≤ i → i < 32 * u + 32 → σ.hld i = none

/-- what an operation has done -/
structure After (D : Den) (u : Nat) (f : Eff) (σ : Env) (w : World) (σ' : Env) (w' : World) (v : Value) : Prop where
  le : σ.le σ'
  onlyB : ∀ k, k ≠ u → σ'.blk k = σ.blk k
  onlyH : ∀ i, (i < 32 * u ∨ 32 * u + 32 ≤ i) → σ'.hld i = σ.hld i
  newB : ∀ g, σ'.blk u = some g → w.heap.size ≤ g ∧ g < w'.heap.size
  newH : ∀ i v g, σ'.hld i = some v → σ.hld i = none → v.ownBlock = some g → g < w'.heap.size ∧ σ'.blk u ≠ some g ∧ (w.heap.size ≤ g ∨ (16 ≤ i % 32 ∧ ∃ i' v', σ.hld i' = some v' ∧ v'.ownBlock = some g))
  val : ∀ x, f.val = some x → x.Is D σ' v
  blk : ∀ ty as, f.blk = some (ty, as) → ∃ g l, σ'.blk u = some g ∧ cellsL D σ' as = some l ∧ w'.heap[g]? = some (.cells l.toArray ty (0, 0))
  hld : ∀ i e, (i, e) ∈ f.hld → ∃ v, σ'.hld i = some v ∧ D.hold e v w'
  world : match f.st with
    | none => Below w.heap.size w w'
    | some (k, ty, as) => ∃ g l old, σ.blk k = some g ∧ cellsL D σ as = some l ∧ w.heap[g]? = some (.cells old ty (0, 0)) ∧ w' = w.setRow g l.toArray

section
variable {P : Program} {D : Den} {k0 n : Nat} {F : Nat → Prop} {w0 : World} {s : St} {σ : Env} {a : Act} {w : World} {I : World → Prop} {tab : Tab}

theorem opnd_ok (h : Ok D k0 n F w0 s σ a w) {x : Operand} {t : T} (hx : opnd s x = some t) : t.Is D σ (a.eval x) := by
  cases x with
  | tmp i => exact h.tmps i t hx
  | const v =>
    simp only [opnd] at hx
    cases hv : vOf v with
    | none => rw [hv] at hx; cases hx
    | some y => rw [hv] at hx; injection hx with hx; subst hx; exact vOf_ok hv
  | global g => injection hx with hx; subst hx; rfl
  | func f => cases hx

theorem glOf_ok (h : Ok D k0 n F w0 s σ a w) {x : Operand} {g : Nat} (hx : glOf (opnd s x) = some g) : a.eval x = .pointer (some ⟨g, 0, none⟩) := by
  cases ht : opnd s x with
  | none => rw [ht] at hx; cases hx
  | some t =>
    rw [ht] at hx
    have hi := opnd_ok h ht
    unfold glOf at hx
    split at hx
    · rename_i g' heq
      injection heq with heq; subst heq
      injection hx with hx; subst hx
      simp only [T.Is, V.Is, Atom.cells] at hi
      injection hi with hi; injection hi with hi; exact hi.symm
    · cases hx

theorem heldOf_ok (h : Ok D k0 n F w0 s σ a w) {x : Operand} {i : Nat} (hx : heldOf (opnd s x) = some i) {e : E} (he : find s.hs i = some e) : σ.hld i = some (a.eval x) ∧ D.hold e (a.eval x) w := by
  cases ht : opnd s x with
  | none => rw [ht] at hx; cases hx
  | some t =>
    rw [ht] at hx
    have hi := opnd_ok h ht
    unfold heldOf at hx
    split at hx
    · rename_i i' heq
      injection heq with heq; subst heq
      injection hx with hx; subst hx
      obtain ⟨v, hv, hh⟩ := h.hs _ e he
      simp only [T.Is, V.Is, Atom.cells, hv] at hi
      injection hi with hi; injection hi with hi
      rw [← hi]
      exact ⟨hv, hh⟩
    · cases hx

theorem hpOf_ok (h : Ok D k0 n F w0 s σ a w) {x : Operand} {i j : Nat} (hx : hpOf (opnd s x) = some (i, j)) {g o m c : Nat} (hh : σ.hld i = some (.slice (some ⟨g, o, none⟩) m c)) : a.eval x = .pointer (some ⟨g, o + j, none⟩) := by
  cases ht : opnd s x with
  | none => rw [ht] at hx; cases hx
  | some t =>
    rw [ht] at hx
    have hi := opnd_ok h ht
    unfold hpOf at hx
    split at hx
    · rename_i i' j' heq
      injection heq with heq; subst heq
      injection hx with hx; injection hx with e1 e2; subst e1 e2
      simp only [T.Is, V.Is, Atom.cells, hh, addr_add] at hi
      injection hi with hi; injection hi with hi; exact hi.symm
    · cases hx

theorem natOpt_ok (h : Ok D k0 n F w0 s σ a w) {x : Option Operand} {m : Option Nat} (hx : natOpt s x = some m) : BoundIs m (x.map a.eval) := by
  cases x with
  | none => injection hx with hx; subst hx; rfl
  | some y =>
    simp only [natOpt] at hx
    split at hx
    · rename_i k i heq
      injection hx with hx; subst hx
      have hi := opnd_ok h heq
      simp only [T.Is, V.Is, Atom.cells] at hi
      injection hi with hi; injection hi with hi
      exact ⟨k, by rw [Option.map_some, ← hi]; rfl⟩
    · cases hx

theorem ptrOf_ok (h : Ok D k0 n F w0 s σ a w) {x : Operand} {b o : Nat} (hx : ptrOf (opnd s x) = some (b, o)) : ∃ g, σ.blk b = some g ∧ a.eval x = .pointer (some ⟨g, o, none⟩) := by
  cases ht : opnd s x with
  | none => rw [ht] at hx; cases hx
  | some t =>
    rw [ht] at hx
    have hi := opnd_ok h ht
    unfold ptrOf at hx
    split at hx
    · rename_i b' o' heq
      injection heq with heq; subst heq
      injection hx with hx; injection hx with e1 e2; subst e1 e2
      simp only [T.Is, V.Is, Atom.cells] at hi
      cases hb : σ.blk b' with
      | none => rw [hb] at hi; cases hi
      | some g => rw [hb] at hi; injection hi with hi; injection hi with hi; exact ⟨g, rfl, hi.symm⟩
    · cases hx

theorem boolOf_ok (h : Ok D k0 n F w0 s σ a w) {x : Operand} {b : Bool} (hx : boolOf (opnd s x) = some b) : a.eval x = .bool b := by
  cases ht : opnd s x with
  | none => rw [ht] at hx; cases hx
  | some t =>
    rw [ht] at hx
    have hi := opnd_ok h ht
    unfold boolOf at hx
    split at hx
    · rename_i b' heq
      injection heq with heq; subst heq
      injection hx with hx; subst hx
      simp only [T.Is, V.Is, Atom.cells] at hi
      injection hi with hi; injection hi with hi; exact hi.symm
    · cases hx

theorem natOf_ok (h : Ok D k0 n F w0 s σ a w) {x : Operand} {i : Nat} (hx : natOf (opnd s x) = some i) : ∃ k, a.eval x = .int k (i : Int) := by
  cases ht : opnd s x with
  | none => rw [ht] at hx; cases hx
  | some t =>
    rw [ht] at hx
    have hi := opnd_ok h ht
    unfold natOf at hx
    split at hx
    · rename_i k b' heq
      injection heq with heq; subst heq
      injection hx with hx; subst hx
      simp only [T.Is, V.Is, Atom.cells] at hi
      injection hi with hi; injection hi with hi; exact ⟨k, hi.symm⟩
    · cases hx

theorem mixArg_ok (h : Ok D k0 n F w0 s σ a w) : ∀ {as : List Atom} {ms : List MA} {l : List Value}, mixArg D.wid s as = some ms → cellsL D σ as = some l → MAsIs D σ w (fun _ => True) ms l
  | [], ms, l, hm, hl => by
    injection hm with hm; subst hm
    injection hl with hl; subst hl
    rfl
  | .held i :: as, ms, l, hm, hl => by
    simp only [mixArg] at hm
    obtain ⟨x, y, h1, h2, rfl⟩ := cellsL_cons hl
    split at hm
    · rename_i e ms' he hms
      injection hm with hm; subst hm
      obtain ⟨v, hv, hh⟩ := h.hs i e he
      simp only [Atom.cells, hv] at h1
      injection h1 with h1; subst h1
      exact ⟨v, y, rfl, hh, trivial, mixArg_ok h hms h2⟩
    · cases hm
  | .bool b :: as, ms, l, hm, hl => mixAt_ok h hm hl (fun hm h2 => mixArg_ok h hm h2)
  | .int k n :: as, ms, l, hm, hl => mixAt_ok h hm hl (fun hm h2 => mixArg_ok h hm h2)
  | .el e :: as, ms, l, hm, hl => mixAt_ok h hm hl (fun hm h2 => mixArg_ok h hm h2)
  | .ptr b o :: as, ms, l, hm, hl => mixAt_ok h hm hl (fun hm h2 => mixArg_ok h hm h2)
  | .slc b o n c :: as, ms, l, hm, hl => by
    simp only [mixArg] at hm
    obtain ⟨x, y, h1, h2, rfl⟩ := cellsL_cons hl
    split at hm
    · rename_i ty bs ms' hf hms
      split at hm
      · rename_i xs hs hnc
        injection hm with hm; subst hm
        obtain ⟨g, l', hb, hl', hg⟩ := h.mem b ty bs hf
        obtain ⟨h3, h4⟩ := subW_ok hl' hs
        simp only [Atom.cells, hb] at h1
        injection h1 with h1; subst h1
        have hlen : ((l'.drop o).take n).length = n := by rw [List.length_take, List.length_drop]; omega
        refine ⟨_, y, rfl, ⟨g, o, c, (l'.drop o).take n, by rw [hlen], by rw [hlen]; exact Nat.le_of_ble_eq_true hnc, h4, (h.base b g hb).2, fun j hj => ?_⟩, mixArg_ok h hms h2⟩
        rw [cell_of_row w g (o + j) l'.toArray ty (0, 0) hg]
        rw [hlen] at hj
        simp [show o + j < l'.length by omega]
      · cases hm
    · cases hm
  | .nils :: as, ms, l, hm, hl => mixAt_ok h hm hl (fun hm h2 => mixArg_ok h hm h2)
  | .gl g :: as, ms, l, hm, hl => mixAt_ok h hm hl (fun hm h2 => mixArg_ok h hm h2)
  | .hp i j :: as, ms, l, hm, hl => mixAt_ok h hm hl (fun hm h2 => mixArg_ok h hm h2)
where
  mixAt_ok (h : Ok D k0 n F w0 s σ a w) {x : Atom} {as : List Atom} {ms : List MA} {l : List Value} (hm : (match mixArg D.wid s as with
    | some ms => some (.at_ x :: ms)
    | none => none) = some ms) (hl : cellsL D σ (x :: as) = some l) (ih : ∀ {ms l}, mixArg D.wid s as = some ms → cellsL D σ as = some l → MAsIs D σ w (fun _ => True) ms l) : MAsIs D σ w (fun _ => True) ms l := by
    obtain ⟨y, z, h1, h2, rfl⟩ := cellsL_cons hl
    split at hm
    · rename_i ms' hms
      injection hm with hm; subst hm
      exact ⟨y, z, rfl, h1, ih hms h2⟩
    · cases hm

theorem argOf_ok (h : Ok D k0 n F w0 s σ a w) {x : Operand} {c : CArg} (hx : argOf D.wid s (opnd s x) = some c) : c.Is D σ w (a.eval x) := by
  cases ht : opnd s x with
  | none => rw [ht] at hx; cases hx
  | some t =>
    rw [ht] at hx
    have hi := opnd_ok h ht
    unfold argOf at hx
    split at hx
    · rename_i i heq
      injection heq with heq; subst heq
      cases hf : find s.hs i with
      | none => rw [hf] at hx; cases hx
      | some e =>
        rw [hf] at hx
        injection hx with hx; subst hx
        obtain ⟨v, hv, hh⟩ := h.hs i e hf
        simp only [T.Is, V.Is, Atom.cells, hv] at hi
        injection hi with hi; injection hi with hi
        rw [← hi]; exact hh
    · rename_i b o m c' heq
      injection heq with heq; subst heq
      cases hf : find s.mem b with
      | none => rw [hf] at hx; cases hx
      | some q =>
        obtain ⟨ty, as⟩ := q
        rw [hf] at hx
        dsimp only at hx
        cases hs : subW D.wid as o m with
        | none => rw [hs] at hx; cases hx
        | some bs =>
          cases hmc : Nat.ble m c' with
          | false => rw [hs, hmc] at hx; cases hx
          | true =>
          rw [hs, hmc] at hx
          injection hx with hx; subst hx
          obtain ⟨g, l, hb, hl, hg⟩ := h.mem b ty as hf
          obtain ⟨h1, h2⟩ := subW_ok hl hs
          simp only [T.Is, V.Is, Atom.cells, hb] at hi
          injection hi with hi; injection hi with hi
          have hlen : ((l.drop o).take m).length = m := by rw [List.length_take, List.length_drop]; omega
          refine ⟨g, o, c', (l.drop o).take m, by rw [hlen, ← hi], by rw [hlen]; exact Nat.le_of_ble_eq_true hmc, h2, (h.base b g hb).2, fun j hj => ?_⟩
          rw [cell_of_row w g (o + j) l.toArray ty (0, 0) hg]
          rw [hlen] at hj
          simp [show o + j < l.length by omega]
    · rename_i as heq
      injection heq with heq; subst heq
      split at hx
      · split at hx
        · rename_i ms hms
          injection hx with hx; subst hx
          obtain ⟨l, h1, h2⟩ := hi
          exact ⟨l, h2, mixArg_ok h hms h1⟩
        · cases hx
      · injection hx with hx; subst hx
        exact hi
    · rename_i y heq1 heq2 heq3 heq
      injection hx with hx; subst hx
      injection heq with heq; subst heq
      exact hi
    · cases hx

theorem argsOf_ok (h : Ok D k0 n F w0 s σ a w) : ∀ {xs : List Operand} {cs : List CArg}, argsOf D.wid s xs = some cs → ArgsIs D σ w cs (xs.map a.eval)
  | [], cs, hx => by injection hx with hx; subst hx; rfl
  | x :: xs, cs, hx => by
    simp only [argsOf] at hx
    cases h1 : argOf D.wid s (opnd s x) with
    | none => rw [h1] at hx; cases hx
    | some c =>
      cases h2 : argsOf D.wid s xs with
      | none => rw [h1, h2] at hx; cases hx
      | some ds =>
        rw [h1, h2] at hx
        injection hx with hx; subst hx
        exact ⟨_, _, rfl, argOf_ok h h1, argsOf_ok h h2⟩

/-- nothing but a value -/
theorem After.pure {u : Nat} {x : T} {v : Value} (hx : x.Is D σ v) (hu : σ.blk u = none) : After D u ⟨some x, none, [], none⟩ σ w σ w v where
  le := σ.le_refl
  onlyB := fun _ _ => rfl
  onlyH := fun _ _ => rfl
  newB := fun g hg => by rw [hu] at hg; cases hg
  newH := fun i v g h1 h2 _ => by rw [h1] at h2; cases h2
  val := fun y hy => by injection hy with hy; subst hy; exact hx
  blk := fun _ _ h => by cases h
  hld := fun _ _ h => by cases h
  world := Below.refl _ _

def Env.setB (σ : Env) (u g : Nat) : Env := ⟨fun k => if k = u then some g else σ.blk k, σ.hld, σ.one⟩

theorem Env.le_setB {σ : Env} {u g : Nat} (hu : σ.blk u = none) : σ.le (σ.setB u g) where
  b := fun k g' h => by
    have : k ≠ u := fun e => by subst e; rw [hu] at h; cases h
    simp [Env.setB, this, h]
  h := fun _ _ h => h

/-- a new block -/
theorem After.new {u : Nat} {ty : TypeId} {as : List Atom} {l : List Value} (hl : cellsL D σ as = some l) (hu : σ.blk u = none) :
    After D u ⟨some (.dt (.one (.ptr u 0))), some (ty, as), [], none⟩ σ w (σ.setB u w.heap.size) (w.alloc (.cells l.toArray ty)) (.pointer (some ⟨w.heap.size, 0, none⟩)) where
  le := Env.le_setB hu
  onlyB := fun k hk => by simp [Env.setB, hk]
  onlyH := fun _ _ => rfl
  newB := fun g hg => by
    simp [Env.setB] at hg; subst hg
    exact ⟨Nat.le_refl _, by simp⟩
  newH := fun i v g h1 h2 _ => by rw [show (σ.setB u w.heap.size).hld i = σ.hld i from rfl, h2] at h1; cases h1
  val := fun y hy => by
    injection hy with hy; subst hy
    simp [T.Is, V.Is, Atom.cells, Env.setB]
  blk := fun ty' as' h => by
    injection h with h; injection h with h1 h2; subst h1 h2
    exact ⟨w.heap.size, l, by simp [Env.setB], cellsL_mono (Env.le_setB hu) hl, heap_alloc_new w _⟩
  hld := fun _ _ h => by cases h
  world := (Below.refl _ _).alloc (Nat.le_refl _) _

theorem partOf_load {wid : E → Nat} (hwid : wid = D.wid) {as : List Atom} {o : Nat} {ty : TypeId} {x : V} (h : partOf P wid as o ty = some x) {l : List Value} (hl : cellsL D σ as = some l) {g : Nat} {t : TypeId} (hg : w.heap[g]? = some (.cells l.toArray t (0, 0))) :
    ∃ v, (loadVar ty ⟨g, o, none⟩).run P w = .ok v w ∧ x.Is D σ v := by
  subst hwid
  unfold partOf at h
  split at h
  · rename_i n hs ha
    cases hb : subW D.wid as o n with
    | none => rw [hb] at h; cases h
    | some bs =>
      rw [hb] at h
      injection h with h; subst h
      obtain ⟨h1, h2⟩ := subW_ok hl hb
      exact ⟨_, run_loadVar_agg hg hs ha h1, _, h2, rfl⟩
  · rename_i n hs ha
    split at h
    · rename_i c hb
      cases hc : Nat.beq (c.wid D.wid) 1 with
      | false => rw [hc] at h; cases h
      | true =>
        rw [hc] at h
        injection h with h; subst h
        obtain ⟨h1, h2⟩ := subW_ok hl hb
        have hv : l[o]? = some l[o] := by simp
        refine ⟨l[o], run_loadVar_one hg ha hv, ?_⟩
        have e1 : (l.drop o).take 1 = [l[o]] := by
          rw [List.drop_eq_getElem_cons (by omega)]
          rfl
        rw [e1] at h2
        obtain ⟨p, q, h3, h4, h5⟩ := cellsL_cons h2
        injection h4 with h4; subst h4
        rw [List.append_nil] at h5
        rw [← h5] at h3
        exact h3
    · cases h
  · cases h

theorem partOf_loadC {wid : E → Nat} (hwid : wid = D.wid) {as : List Atom} {o : Nat} {ty : TypeId} {x : V} (h : partOf P wid as o ty = some x) {l : List Value} (hl : cellsL D σ as = some l) {g : Nat} (hg : ∀ j v, l[j]? = some v → w.cell? ⟨g, j, none⟩ = some v) :
    ∃ v, (loadVar ty ⟨g, o, none⟩).run P w = .ok v w ∧ x.Is D σ v := by
  subst hwid
  unfold partOf at h
  split at h
  · rename_i n hs ha
    cases hb : subW D.wid as o n with
    | none => rw [hb] at h; cases h
    | some bs =>
      rw [hb] at h
      injection h with h; subst h
      obtain ⟨h1, h2⟩ := subW_ok hl hb
      exact ⟨_, run_loadVar_aggC hg hs ha h1, _, h2, rfl⟩
  · rename_i n hs ha
    split at h
    · rename_i c hb
      cases hc : Nat.beq (c.wid D.wid) 1 with
      | false => rw [hc] at h; cases h
      | true =>
        rw [hc] at h
        injection h with h; subst h
        obtain ⟨h1, h2⟩ := subW_ok hl hb
        have hv : l[o]? = some l[o] := by simp
        refine ⟨l[o], run_loadVar_oneC (hg _ _ hv) ha, ?_⟩
        have e1 : (l.drop o).take 1 = [l[o]] := by
          rw [List.drop_eq_getElem_cons (by omega)]
          rfl
        rw [e1] at h2
        obtain ⟨p, q, h3, h4, h5⟩ := cellsL_cons h2
        injection h4 with h4; subst h4
        rw [List.append_nil] at h5
        rw [← h5] at h3
        exact h3
    · cases h
  · cases h

theorem partOf_part {wid : E → Nat} (hwid : wid = D.wid) {as : List Atom} {o : Nat} {ty : TypeId} {x : V} (h : partOf P wid as o ty = some x) {l : List Value} (hl : cellsL D σ as = some l) :
    ∃ v, (part ty l.toArray o).run P w = .ok v w ∧ x.Is D σ v := by
  subst hwid
  unfold partOf at h
  split at h
  · rename_i n hs ha
    cases hb : subW D.wid as o n with
    | none => rw [hb] at h; cases h
    | some bs =>
      rw [hb] at h
      injection h with h; subst h
      obtain ⟨h1, h2⟩ := subW_ok hl hb
      refine ⟨.agg ((l.drop o).take n).toArray, ?_, _, h2, rfl⟩
      simp only [part, Sem.run_bind, run_isAgg ha, Result.andThen_ok, if_true, run_sizeOf hs, Sem.run_pure]
      congr 2
      apply Array.ext'
      simp
  · rename_i n hs ha
    split at h
    · rename_i c hb
      cases hc : Nat.beq (c.wid D.wid) 1 with
      | false => rw [hc] at h; cases h
      | true =>
        rw [hc] at h
        injection h with h; subst h
        obtain ⟨h1, h2⟩ := subW_ok hl hb
        refine ⟨l[o], ?_, ?_⟩
        · simp only [part, Sem.run_bind, run_isAgg ha, Result.andThen_ok, Bool.false_eq_true, if_false]
          simp [show o < l.length by omega]
        · have e1 : (l.drop o).take 1 = [l[o]] := by
            rw [List.drop_eq_getElem_cons (by omega)]
            rfl
          rw [e1] at h2
          obtain ⟨p, q, h3, h4, h5⟩ := cellsL_cons h2
          injection h4 with h4; subst h4
          rw [List.append_nil] at h5
          rw [← h5] at h3
          exact h3
    · cases h
  · cases h

theorem pureV_some {x : Option V} {f : Eff} (h : pureV x = some f) : ∃ v, x = some v ∧ f = ⟨some (.dt v), none, [], none⟩ := by
  cases x with
  | none => cases h
  | some v => injection h with h; exact ⟨v, rfl, h.symm⟩

theorem pureT_some {x : Option T} {f : Eff} (h : pureT x = some f) : ∃ v, x = some v ∧ f = ⟨some v, none, [], none⟩ := by
  cases x with
  | none => cases h
  | some v => injection h with h; exact ⟨v, rfl, h.symm⟩

theorem zeroOf_ok {t : TypeId} {x : V} (h : zeroOf P t = some x) : ∃ v i, P.info? t = some i ∧ i.zero = some v ∧ x.Is D σ v := by
  unfold zeroOf at h
  cases hi : P.info? t with
  | none => rw [hi] at h; cases h
  | some i =>
    rw [hi] at h
    dsimp only at h
    cases hz : i.zero with
    | none => rw [hz] at h; cases h
    | some v => rw [hz] at h; exact ⟨v, i, rfl, hz, vOf_ok h⟩

theorem run_newVar {t : TypeId} {v : Value} : (newVar t v).run P w = .ok ⟨w.heap.size, 0, none⟩ (w.alloc (.cells v.cells t)) := by
  simp [newVar, newRow]

theorem IsL_get : ∀ {xs : List V} {vs : List Value} {i : Nat} {x : V}, IsL D σ xs vs → xs[i]? = some x → ∃ v, vs[i]? = some v ∧ x.Is D σ v
  | [], vs, i, x, h, hx => by simp at hx
  | y :: ys, vs, 0, x, h, hx => by
    obtain ⟨v, ws, rfl, h1, h2⟩ := h
    simp at hx; subst hx
    exact ⟨v, rfl, h1⟩
  | y :: ys, vs, i + 1, x, h, hx => by
    obtain ⟨v, ws, rfl, h1, h2⟩ := h
    simp at hx
    obtain ⟨u, h3, h4⟩ := IsL_get h2 hx
    exact ⟨u, by simpa using h3, h4⟩

end
end Go.Proofs.YtdconlmpjehohaaDoor.Sx
