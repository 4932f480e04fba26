/- A symbolic run of straight code, part 1: the data that it runs over, and what they mean. Conditions: none; plain definitions and lemmas. -/
import Derived.Test.YtdconlmpjehohaaDoorBasf
import Derived.Orders
import Derived.Scope
import Derived.LoopN
namespace Go.Proofs.YtdconlmpjehohaaDoor.Sx
open Go.RowKit
set_option linter.unusedVariables false

/-- codes of data that the run does not look into -/
inductive E where
  | dt (i : Nat)
  | op (k : Nat) (a b : E)

def E.eqb : E → E → Bool
  | .dt i, .dt j => Nat.beq i j
  | .op k a b, .op l c d => Nat.beq k l && (E.eqb a c && E.eqb b d)
  | _, _ => false

theorem E.eqb_eq : ∀ {a b : E}, E.eqb a b = true → a = b
  | .dt i, .dt j, h => by rw [Nat.eq_of_beq_eq_true h]
  | .op k a b, .op l c d, h => by
    simp only [E.eqb, Bool.and_eq_true] at h
    rw [Nat.eq_of_beq_eq_true h.1, E.eqb_eq h.2.1, E.eqb_eq h.2.2]
  | .dt i, .op k a b, h => by simp [E.eqb] at h
  | .op k a b, .dt i, h => by simp [E.eqb] at h

inductive Atom where
  | bool (b : Bool)
  | int (k : IntKind) (n : Int)
  | el (e : E)
  | ptr (b o : Nat)
  | slc (b o n c : Nat)
  | nils
  | held (i : Nat)
  | gl (g : Nat)
  | hp (i j : Nat)

inductive V where
  | one (a : Atom)
  | agg (as : List Atom)

inductive T where
  | dt (x : V)
  | tup (xs : List V)

/-- what codes mean; how wide they are; what a held value is known to be -/
structure Den where
  den : E → List Value
  wid : E → Nat
  len : ∀ e, (den e).length = wid e
  one : ∀ e, ∀ x ∈ den e, x.oneCell' = true
  hold : E → Value → World → Prop
  hone : ∀ e v w, hold e v w → v.oneCell' = true
  hlt : ∀ e v w g, hold e v w → v.ownBlock = some g → g < w.heap.size
  keep : ∀ e v w w', hold e v w → w.heap.size ≤ w'.heap.size → (∀ g, v.ownBlock = some g → w'.heap[g]? = w.heap[g]?) → hold e v w'

structure Env where
  blk : Nat → Option Nat
  hld : Nat → Option Value
  one : ∀ i v, hld i = some v → v.oneCell' = true

def Env.empty : Env := ⟨fun _ => .none, fun _ => .none, by intro i v h; cases h⟩

structure Env.le (σ τ : Env) : Prop where
  b : ∀ k g, σ.blk k = some g → τ.blk k = some g
  h : ∀ k v, σ.hld k = some v → τ.hld k = some v

theorem Env.le_refl (σ : Env) : σ.le σ := ⟨fun _ _ h => h, fun _ _ h => h⟩
theorem Env.le.trans {a b c : Env} (h : a.le b) (k : b.le c) : a.le c := ⟨fun _ _ x => k.b _ _ (h.b _ _ x), fun _ _ x => k.h _ _ (h.h _ _ x)⟩
theorem Env.empty_le (σ : Env) : Env.empty.le σ := ⟨fun _ _ h => (by cases h), fun _ _ h => (by cases h)⟩

section
variable (D : Den)

def Atom.cells (σ : Env) : Atom → Option (List Value)
  | .bool b => some [.bool b]
  | .int k n => some [.int k n]
  | .el e => some (D.den e)
  | .ptr b o => match σ.blk b with
    | some g => some [.pointer (some ⟨g, o, .none⟩)]
    | .none => .none
  | .slc b o n c => match σ.blk b with
    | some g => some [.slice (some ⟨g, o, .none⟩) n c]
    | .none => .none
  | .nils => some [.slice .none 0 0]
  | .held i => match σ.hld i with
    | some v => some [v]
    | .none => .none
  | .gl g => some [.pointer (some ⟨g, 0, .none⟩)]
  | .hp i j => match σ.hld i with
    | some (.slice (some a) _ _) => some [.pointer (some (a.add j))]
    | _ => .none

def Atom.wid (wid : E → Nat) : Atom → Nat
  | .el e => wid e
  | _ => 1

def cellsL (σ : Env) : List Atom → Option (List Value)
  | [] => some []
  | a :: as => match a.cells D σ, cellsL σ as with
    | some l, some m => some (l ++ m)
    | _, _ => .none

def V.Is (σ : Env) : V → Value → Prop
  | .one a, v => a.cells D σ = some [v]
  | .agg as, v => ∃ l, cellsL D σ as = some l ∧ v = .agg l.toArray

def IsL (σ : Env) : List V → List Value → Prop
  | [], vs => vs = []
  | x :: xs, vs => ∃ v ws, vs = v :: ws ∧ x.Is D σ v ∧ IsL σ xs ws

def T.Is (σ : Env) : T → Value → Prop
  | .dt x, v => x.Is D σ v
  | .tup xs, v => ∃ vs, v = .tuple vs.toArray ∧ IsL D σ xs vs

def V.atoms : V → List Atom
  | .one a => [a]
  | .agg as => as
end

section
variable {D : Den}

theorem Atom.cells_mono {σ τ : Env} (h : σ.le τ) {a : Atom} {l : List Value} (ha : a.cells D σ = some l) : a.cells D τ = some l := by
  cases a with
  | ptr b o =>
    simp only [Atom.cells] at ha ⊢
    cases hb : σ.blk b with
    | none => rw [hb] at ha; cases ha
    | some g => rw [hb] at ha; rw [h.b _ _ hb]; exact ha
  | slc b o n c =>
    simp only [Atom.cells] at ha ⊢
    cases hb : σ.blk b with
    | none => rw [hb] at ha; cases ha
    | some g => rw [hb] at ha; rw [h.b _ _ hb]; exact ha
  | held i =>
    simp only [Atom.cells] at ha ⊢
    cases hb : σ.hld i with
    | none => rw [hb] at ha; cases ha
    | some g => rw [hb] at ha; rw [h.h _ _ hb]; exact ha
  | hp i j =>
    simp only [Atom.cells] at ha ⊢
    cases hb : σ.hld i with
    | none => rw [hb] at ha; cases ha
    | some g => rw [hb] at ha; rw [h.h _ _ hb]; exact ha
  | _ => exact ha

theorem cellsL_cons {σ : Env} {a : Atom} {as : List Atom} {l : List Value} (h : cellsL D σ (a :: as) = some l) : ∃ x y, a.cells D σ = some x ∧ cellsL D σ as = some y ∧ l = x ++ y := by
  simp only [cellsL] at h
  cases ha : a.cells D σ with
  | none => rw [ha] at h; cases h
  | some x =>
    cases hs : cellsL D σ as with
    | none => rw [ha, hs] at h; cases h
    | some y => rw [ha, hs] at h; exact ⟨x, y, rfl, rfl, by injection h with h; exact h.symm⟩

theorem cellsL_mk {σ : Env} {a : Atom} {as : List Atom} {x y : List Value} (ha : a.cells D σ = some x) (hs : cellsL D σ as = some y) : cellsL D σ (a :: as) = some (x ++ y) := by
  simp only [cellsL, ha, hs]

theorem cellsL_mono {σ τ : Env} (h : σ.le τ) : ∀ {as : List Atom} {l : List Value}, cellsL D σ as = some l → cellsL D τ as = some l
  | [], l, ha => ha
  | a :: as, l, ha => by
    obtain ⟨x, y, h1, h2, rfl⟩ := cellsL_cons ha
    exact cellsL_mk (Atom.cells_mono h h1) (cellsL_mono h h2)

theorem V.Is_mono {σ τ : Env} (h : σ.le τ) {x : V} {v : Value} (hx : x.Is D σ v) : x.Is D τ v := by
  cases x with
  | one a => exact Atom.cells_mono h hx
  | agg as => obtain ⟨l, h1, h2⟩ := hx; exact ⟨l, cellsL_mono h h1, h2⟩

theorem IsL_mono {σ τ : Env} (h : σ.le τ) : ∀ {xs : List V} {vs : List Value}, IsL D σ xs vs → IsL D τ xs vs
  | [], vs, hx => hx
  | x :: xs, vs, hx => by
    obtain ⟨v, ws, h1, h2, h3⟩ := hx
    exact ⟨v, ws, h1, V.Is_mono h h2, IsL_mono h h3⟩

theorem T.Is_mono {σ τ : Env} (h : σ.le τ) {x : T} {v : Value} (hx : x.Is D σ v) : x.Is D τ v := by
  cases x with
  | dt y => exact V.Is_mono h hx
  | tup xs => obtain ⟨vs, h1, h2⟩ := hx; exact ⟨vs, h1, IsL_mono h h2⟩

theorem Atom.cells_one {σ : Env} {a : Atom} {l : List Value} (ha : a.cells D σ = some l) : ∀ x ∈ l, x.oneCell' = true := by
  intro x hx
  cases a with
  | el e => injection ha with ha; subst ha; exact D.one e x hx
  | ptr b o =>
    simp only [Atom.cells] at ha
    cases hb : σ.blk b with
    | none => rw [hb] at ha; cases ha
    | some g => rw [hb] at ha; injection ha with ha; subst ha; simp at hx; subst hx; rfl
  | slc b o n c =>
    simp only [Atom.cells] at ha
    cases hb : σ.blk b with
    | none => rw [hb] at ha; cases ha
    | some g => rw [hb] at ha; injection ha with ha; subst ha; simp at hx; subst hx; rfl
  | held i =>
    simp only [Atom.cells] at ha
    cases hb : σ.hld i with
    | none => rw [hb] at ha; cases ha
    | some g => rw [hb] at ha; injection ha with ha; subst ha; simp at hx; subst hx; exact σ.one i _ hb
  | bool b => injection ha with ha; subst ha; simp at hx; subst hx; rfl
  | int k n => injection ha with ha; subst ha; simp at hx; subst hx; rfl
  | nils => injection ha with ha; subst ha; simp at hx; subst hx; rfl
  | gl g => injection ha with ha; subst ha; simp at hx; subst hx; rfl
  | hp i j =>
    simp only [Atom.cells] at ha
    split at ha
    · injection ha with ha; subst ha; simp at hx; subst hx; rfl
    · cases ha

theorem Atom.cells_len {σ : Env} {a : Atom} {l : List Value} (ha : a.cells D σ = some l) : l.length = a.wid D.wid := by
  cases a with
  | el e => injection ha with ha; subst ha; exact D.len e
  | ptr b o =>
    simp only [Atom.cells] at ha
    cases hb : σ.blk b with
    | none => rw [hb] at ha; cases ha
    | some g => rw [hb] at ha; injection ha with ha; subst ha; rfl
  | slc b o n c =>
    simp only [Atom.cells] at ha
    cases hb : σ.blk b with
    | none => rw [hb] at ha; cases ha
    | some g => rw [hb] at ha; injection ha with ha; subst ha; rfl
  | held i =>
    simp only [Atom.cells] at ha
    cases hb : σ.hld i with
    | none => rw [hb] at ha; cases ha
    | some g => rw [hb] at ha; injection ha with ha; subst ha; rfl
  | bool b => injection ha with ha; subst ha; rfl
  | int k n => injection ha with ha; subst ha; rfl
  | nils => injection ha with ha; subst ha; rfl
  | gl g => injection ha with ha; subst ha; rfl
  | hp i j =>
    simp only [Atom.cells] at ha
    split at ha
    · injection ha with ha; subst ha; rfl
    · cases ha

theorem cellsL_one {σ : Env} : ∀ {as : List Atom} {l : List Value}, cellsL D σ as = some l → ∀ x ∈ l, x.oneCell' = true
  | [], l, h, x, hx => by injection h with h; subst h; cases hx
  | a :: as, l, h, x, hx => by
    obtain ⟨y, z, h1, h2, rfl⟩ := cellsL_cons h
    rcases List.mem_append.1 hx with hx | hx
    · exact Atom.cells_one h1 x hx
    · exact cellsL_one h2 x hx

theorem cellsL_append {σ : Env} : ∀ {as bs : List Atom} {l m : List Value}, cellsL D σ as = some l → cellsL D σ bs = some m → cellsL D σ (as ++ bs) = some (l ++ m)
  | [], bs, l, m, h, k => by injection h with h; subst h; exact k
  | a :: as, bs, l, m, h, k => by
    obtain ⟨x, y, h1, h2, rfl⟩ := cellsL_cons h
    rw [List.append_assoc]
    exact cellsL_mk h1 (cellsL_append h2 k)

theorem V.Is_cells {σ : Env} {x : V} {v : Value} (h : x.Is D σ v) : cellsL D σ x.atoms = some v.cells.toList := by
  cases x with
  | one a =>
    have h1 := Atom.cells_one h v (by simp)
    have : v.cells = #[v] := by cases v <;> first | rfl | (simp [Value.oneCell'] at h1)
    rw [this]
    exact cellsL_mk (as := []) h rfl
  | agg as =>
    obtain ⟨l, h1, rfl⟩ := h
    simpa [V.atoms, Value.cells] using h1

def widL (wid : E → Nat) : List Atom → Nat
  | [] => 0
  | a :: as => a.wid wid + widL wid as

theorem cellsL_len {σ : Env} : ∀ {as : List Atom} {l : List Value}, cellsL D σ as = some l → l.length = widL D.wid as
  | [], l, h => by injection h with h; subst h; rfl
  | a :: as, l, h => by
    obtain ⟨x, y, h1, h2, rfl⟩ := cellsL_cons h
    rw [List.length_append, Atom.cells_len h1, cellsL_len h2]; rfl

/-- what lies behind n cells -/
def dropW (wid : E → Nat) : List Atom → Nat → Option (List Atom)
  | [], n => match n with
    | 0 => some []
    | _ + 1 => .none
  | a :: as, n => match n with
    | 0 => some (a :: as)
    | n + 1 => match Nat.ble (a.wid wid) (n + 1) with
      | true => dropW wid as (n + 1 - a.wid wid)
      | false => .none

/-- the first n cells -/
def takeW (wid : E → Nat) : List Atom → Nat → Option (List Atom)
  | [], n => match n with
    | 0 => some []
    | _ + 1 => .none
  | a :: as, n => match n with
    | 0 => some []
    | n + 1 => match Nat.ble (a.wid wid) (n + 1) with
      | true => match takeW wid as (n + 1 - a.wid wid) with
        | some bs => some (a :: bs)
        | .none => .none
      | false => .none

theorem dropW_ok {σ : Env} : ∀ {as bs : List Atom} {l : List Value} {n : Nat}, cellsL D σ as = some l → dropW D.wid as n = some bs → n ≤ l.length ∧ cellsL D σ bs = some (l.drop n)
  | [], bs, l, n, h, k => by
    injection h with h; subst h
    cases n with
    | zero => simp [dropW] at k; subst k; exact ⟨Nat.le_refl _, rfl⟩
    | succ n => simp [dropW] at k
  | a :: as, bs, l, n, h, k => by
    cases n with
    | zero => simp [dropW] at k; subst k; exact ⟨Nat.zero_le _, h⟩
    | succ n =>
      obtain ⟨x, y, h1, h2, rfl⟩ := cellsL_cons h
      have hx := Atom.cells_len h1
      simp only [dropW] at k
      cases hb : Nat.ble (a.wid D.wid) (n + 1) with
      | false => rw [hb] at k; cases k
      | true =>
        rw [hb] at k
        have hle := Nat.le_of_ble_eq_true hb
        obtain ⟨h3, h4⟩ := dropW_ok h2 k
        refine ⟨by rw [List.length_append]; omega, ?_⟩
        rw [h4, List.drop_append, show List.drop (n + 1) x = [] from List.drop_of_length_le (by omega), hx, List.nil_append]

theorem takeW_ok {σ : Env} : ∀ {as bs : List Atom} {l : List Value} {n : Nat}, cellsL D σ as = some l → takeW D.wid as n = some bs → n ≤ l.length ∧ cellsL D σ bs = some (l.take n)
  | [], bs, l, n, h, k => by
    injection h with h; subst h
    cases n with
    | zero => simp [takeW] at k; subst k; exact ⟨Nat.le_refl _, rfl⟩
    | succ n => simp [takeW] at k
  | a :: as, bs, l, n, h, k => by
    cases n with
    | zero => simp [takeW] at k; subst k; exact ⟨Nat.zero_le _, rfl⟩
    | succ n =>
      obtain ⟨x, y, h1, h2, rfl⟩ := cellsL_cons h
      have hx := Atom.cells_len h1
      simp only [takeW] at k
      cases hb : Nat.ble (a.wid D.wid) (n + 1) with
      | false => rw [hb] at k; cases k
      | true =>
        rw [hb] at k
        have hle := Nat.le_of_ble_eq_true hb
        cases ht : takeW D.wid as (n + 1 - a.wid D.wid) with
        | none => rw [ht] at k; cases k
        | some cs =>
          rw [ht] at k
          injection k with k; subst k
          obtain ⟨h3, h4⟩ := takeW_ok h2 ht
          refine ⟨by rw [List.length_append]; omega, ?_⟩
          rw [List.take_append, List.take_of_length_le (by omega), hx]
          exact cellsL_mk h1 h4

/-- n cells from place o on -/
def subW (wid : E → Nat) (as : List Atom) (o n : Nat) : Option (List Atom) :=
  match dropW wid as o with
  | some bs => takeW wid bs n
  | .none => .none

theorem subW_ok {σ : Env} {as bs : List Atom} {l : List Value} {o n : Nat} (h : cellsL D σ as = some l) (k : subW D.wid as o n = some bs) :
    o + n ≤ l.length ∧ cellsL D σ bs = some ((l.drop o).take n) := by
  unfold subW at k
  cases hd : dropW D.wid as o with
  | none => rw [hd] at k; cases k
  | some cs =>
    rw [hd] at k
    obtain ⟨h1, h2⟩ := dropW_ok h hd
    obtain ⟨h3, h4⟩ := takeW_ok h2 k
    rw [List.length_drop] at h3
    exact ⟨by omega, h4⟩

/-- the cells from place o on are others -/
def putW (wid : E → Nat) (as : List Atom) (o : Nat) (xs : List Atom) : Option (List Atom) :=
  match takeW wid as o, dropW wid as (o + widL wid xs) with
  | some bs, some cs => some (bs ++ (xs ++ cs))
  | _, _ => .none

theorem putW_ok {σ : Env} {as xs bs : List Atom} {l m : List Value} {o : Nat} (h : cellsL D σ as = some l) (hx : cellsL D σ xs = some m) (k : putW D.wid as o xs = some bs) :
    o + m.length ≤ l.length ∧ cellsL D σ bs = some (l.take o ++ (m ++ l.drop (o + m.length))) := by
  unfold putW at k
  cases ht : takeW D.wid as o with
  | none => rw [ht] at k; cases k
  | some bs =>
    cases hd : dropW D.wid as (o + widL D.wid xs) with
    | none => rw [ht, hd] at k; cases k
    | some cs =>
      rw [ht, hd] at k
      injection k with k; subst k
      rw [← cellsL_len hx] at hd
      obtain ⟨h1, h2⟩ := takeW_ok h ht
      obtain ⟨h3, h4⟩ := dropW_ok h hd
      exact ⟨h3, cellsL_append h2 (cellsL_append hx h4)⟩

def atomOf : Value → Option Atom
  | .bool b => some (.bool b)
  | .int k n => some (.int k n)
  | .slice .none 0 0 => some .nils
  | _ => .none

def atomsOf : List Value → Option (List Atom)
  | [] => some []
  | v :: vs => match atomOf v, atomsOf vs with
    | some a, some as => some (a :: as)
    | _, _ => .none

def vOf : Value → Option V
  | .agg cs => match atomsOf cs.toList with
    | some as => some (.agg as)
    | .none => .none
  | v => match atomOf v with
    | some a => some (.one a)
    | .none => .none

theorem atomOf_ok {σ : Env} {v : Value} {a : Atom} (h : atomOf v = some a) : a.cells D σ = some [v] := by
  unfold atomOf at h
  split at h <;> first | (injection h with h; subst h; rfl) | cases h

theorem atomsOf_ok {σ : Env} : ∀ {vs : List Value} {as : List Atom}, atomsOf vs = some as → cellsL D σ as = some vs
  | [], as, h => by injection h with h; subst h; rfl
  | v :: vs, as, h => by
    simp only [atomsOf] at h
    cases ha : atomOf v with
    | none => rw [ha] at h; cases h
    | some a =>
      cases hs : atomsOf vs with
      | none => rw [ha, hs] at h; cases h
      | some bs =>
        rw [ha, hs] at h
        injection h with h; subst h
        exact cellsL_mk (atomOf_ok ha) (atomsOf_ok hs)

theorem vOf_ok {σ : Env} {v : Value} {x : V} (h : vOf v = some x) : x.Is D σ v := by
  unfold vOf at h
  split at h
  · rename_i cs
    cases ha : atomsOf cs.toList with
    | none => rw [ha] at h; cases h
    | some as =>
      rw [ha] at h
      injection h with h; subst h
      exact ⟨_, atomsOf_ok ha, by simp⟩
  · split at h
    · rename_i a ha
      injection h with h; subst h
      exact atomOf_ok ha
    · cases h
end

/-- the first of that key -/
def find {α : Type} : List (Nat × α) → Nat → Option α
  | [], _ => .none
  | (k, x) :: r, n => match Nat.beq k n with
    | true => some x
    | false => find r n

theorem find_cons {α : Type} {k n : Nat} {x y : α} {r : List (Nat × α)} (h : find ((k, x) :: r) n = some y) : (k = n ∧ x = y) ∨ (k ≠ n ∧ find r n = some y) := by
  simp only [find] at h
  cases hb : Nat.beq k n with
  | true => rw [hb] at h; injection h with h; exact .inl ⟨Nat.eq_of_beq_eq_true hb, h⟩
  | false => rw [hb] at h; exact .inr ⟨Nat.ne_of_beq_eq_false hb, h⟩

end Go.Proofs.YtdconlmpjehohaaDoor.Sx
