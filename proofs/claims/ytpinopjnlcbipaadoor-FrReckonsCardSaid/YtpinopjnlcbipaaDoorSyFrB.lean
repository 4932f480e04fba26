/- Package fr: what codes mean, the table of its functions. Conditions: those of each theorem. -/
import Derived.Test.YtpinopjnlcbipaaDoorSyFrA
namespace Go.Proofs.YtpinopjnlcbipaaDoor
open Go.RowKit Sx
set_option linter.unusedVariables false

/-- variables: numbers, rows of bytes -/
structure Ev where
  num : Nat → Nat
  bys : Nat → List Nat
  inv : Nat → Nat

structure Ev.Ok (R : Ev) : Prop where
  row : ∀ i, (R.bys i).length ≤ 140737488355328 ∧ ∀ x ∈ R.bys i, x < 256
  inv : ∀ a, R.inv a = a ^ frI

/-- what a run is told -/
structure Fx where
  eqs : List (E × E × Bool) := []
  longs : List (Nat × Bool) := []
  lens : List (Nat × Nat) := []
  nlens : List (Nat × Nat) := []
  lts : List (Nat × Bool) := []
  flags : List (Nat × E × Bool) := []

/-- the rows of bytes: a variable, a row's end -/
def Ev.row (R : Ev) : E → List Nat
  | .dt i => R.bys i
  | .op k a b => match k with
    | 22 => match b with
      | .dt n => (Ev.row R a).drop n
      | _ => []
    | 23 => match b with
      | .dt n => (Ev.row R a).take n
      | _ => []
    | _ => []

def frEv (R : Ev) : E → Nat
  | .dt i => R.num i
  | .op k a b => match k with
    | 0 => match a with
      | .dt n => n
      | _ => 0
    | 1 => frEv R a + frEv R b
    | 2 => frEv R a * frEv R b
    | 3 => frEv R a + (frQ - frEv R b % frQ)
    | 4 => frQ - frEv R a % frQ
    | 5 => R.inv (frEv R a)
    | 7 => be (R.row a)
    | _ => 0

theorem frEv_add (R : Ev) (a b : E) : frEv R (.op 1 a b) = frEv R a + frEv R b := by simp only [frEv]
theorem frEv_mul (R : Ev) (a b : E) : frEv R (.op 2 a b) = frEv R a * frEv R b := by simp only [frEv]
theorem frEv_sub (R : Ev) (a b : E) : frEv R (.op 3 a b) = frEv R a + (frQ - frEv R b % frQ) := by simp only [frEv]
theorem frEv_neg (R : Ev) (a b : E) : frEv R (.op 4 a b) = frQ - frEv R a % frQ := by simp only [frEv]
theorem frEv_inv (R : Ev) (a b : E) : frEv R (.op 5 a b) = R.inv (frEv R a) := by simp only [frEv]
theorem frEv_wide (R : Ev) (a b : E) : frEv R (.op 7 a b) = be (R.row a) := by simp only [frEv]
theorem frEv_lit (R : Ev) (n : Nat) (b : E) : frEv R (.op 0 (.dt n) b) = n := by simp only [frEv]

def frCells (n : Nat) : List Value := match frE n with
  | .agg cs => cs.toList
  | _ => []

theorem frCells_ok (n : Nat) : frE n = .agg (frCells n).toArray := by
  obtain ⟨x0, x1, x2, x3, hx⟩ := frV_agg (n * frR % frQ) (frE_lt _)
  unfold frCells frE
  rw [hx]

theorem frCells_ex (n : Nat) : ∃ a b c d : Nat, frCells n = [.int .u64 a, .int .u64 b, .int .u64 c, .int .u64 d] := by
  obtain ⟨x0, x1, x2, x3, hx⟩ := frV_agg (n * frR % frQ) (frE_lt _)
  unfold frCells frE
  rw [hx]
  exact ⟨_, _, _, _, rfl⟩

def frWid : E → Nat
  | .dt _ => 4
  | .op k _ _ => match k with
    | 10 => 32
    | 12 => 1
    | 13 => 1
    | 20 => 0
    | _ => 4

def frDen (R : Ev) : E → List Value
  | .dt i => frCells (R.num i)
  | .op k a b => match k with
    | 10 => nums .u8 (digs 32 (frEv R a % frQ))
    | 12 => [.int .i64 (R.row a).length]
    | 13 => [.int .u64 (be ((R.row a).take 8))]
    | 20 => []
    | k => frCells (frEv R (.op k a b))

theorem frDen_op (R : Ev) {k : Nat} (a b : E) (h1 : k ≠ 10) (h2 : k ≠ 12) (h4 : k ≠ 13) (h3 : k ≠ 20) : frDen R (.op k a b) = frCells (frEv R (.op k a b)) := by
  simp only [frDen]

theorem frWid_op {k : Nat} (a b : E) (h1 : k ≠ 10) (h2 : k ≠ 12) (h4 : k ≠ 13) (h3 : k ≠ 20) : frWid (.op k a b) = 4 := by
  simp only [frWid]

def frHeld (R : Ev) (a : E) (v : Value) (w : World) : Prop := ∃ A c, v = .slice A (R.row a).length c ∧ Rd w A (nums .u8 (R.row a)) ∧ (R.row a).length ≤ c ∧ ∀ g, blk A = some g → g < w.heap.size

def frHold (R : Ev) (e : E) (v : Value) (w : World) : Prop := ∃ a b, e = .op 20 a b ∧ frHeld R a v w

theorem Ev.Ok.rows {R : Ev} (h : R.Ok) : ∀ e : E, (R.row e).length ≤ 140737488355328 ∧ ∀ x ∈ R.row e, x < 256
  | .dt i => h.row i
  | .op k a b => by
    unfold Ev.row
    split
    · split
      · exact ⟨by rw [List.length_drop]; have := (h.rows a).1; omega, fun x hx => (h.rows a).2 x (List.mem_of_mem_drop hx)⟩
      · exact ⟨Nat.zero_le _, fun x hx => by cases hx⟩
    · split
      · exact ⟨by rw [List.length_take]; have := (h.rows a).1; omega, fun x hx => (h.rows a).2 x (List.mem_of_mem_take hx)⟩
      · exact ⟨Nat.zero_le _, fun x hx => by cases hx⟩
    · exact ⟨Nat.zero_le _, fun x hx => by cases hx⟩

/-- how long a row is, where that is known -/
def lenRow (L : List (Nat × Nat)) : E → Option Nat
  | .dt i => find L i
  | .op k a b => match k with
    | 22 => match b with
      | .dt n => match lenRow L a with
        | some m => some (m - n)
        | none => none
      | _ => none
    | 23 => match b with
      | .dt n => match lenRow L a with
        | some m => some (Nat.min n m)
        | none => none
      | _ => none
    | _ => none

theorem lenRow_ok {R : Ev} {L : List (Nat × Nat)} (hL : ∀ x ∈ L, (R.bys x.1).length = x.2) : ∀ {e : E} {n : Nat}, lenRow L e = some n → (R.row e).length = n
  | .dt i, n, h => hL _ (find_mem h)
  | .op k a b, n, h => by
    unfold lenRow at h
    unfold Ev.row
    split at h
    · split at h
      · split at h
        · rename_i m hm
          injection h with h; subst h
          simp [lenRow_ok hL hm]
        · cases h
      · cases h
    · split at h
      · split at h
        · rename_i m hm
          injection h with h; subst h
          rw [List.length_take, lenRow_ok hL hm]
        · cases h
      · cases h
    · cases h

theorem ownBlock_slice (A : Option Addr) (n c : Nat) : (Value.slice A n c).ownBlock = blk A := by cases A <;> rfl

theorem frCells_len (n : Nat) : (frCells n).length = 4 := by obtain ⟨a, b, c, d, h⟩ := frCells_ex n; rw [h]; rfl
theorem frCells_one (n : Nat) : ∀ x ∈ frCells n, x.oneCell' = true := fun x hx => by
  obtain ⟨a, b, c, d, h⟩ := frCells_ex n
  rw [h] at hx
  simp at hx
  rcases hx with rfl | rfl | rfl | rfl <;> rfl

theorem frDen_len (R : Ev) (e : E) : (frDen R e).length = frWid e := by
  cases e with
  | dt i => exact frCells_len _
  | op k a b =>
    by_cases h1 : k = 10
    · subst h1; show (nums .u8 (digs 32 (frEv R a % frQ))).length = 32; rw [nums_length, digs_length]
    by_cases h2 : k = 12
    · subst h2; rfl
    by_cases h4 : k = 13
    · subst h4; rfl
    by_cases h3 : k = 20
    · subst h3; rfl
    rw [frDen_op R a b h1 h2 h4 h3, frWid_op a b h1 h2 h4 h3, frCells_len]

theorem frDen_one (R : Ev) (e : E) : ∀ x ∈ frDen R e, x.oneCell' = true := by
  cases e with
  | dt i => exact frCells_one _
  | op k a b =>
    by_cases h1 : k = 10
    · subst h1; exact nums_one _ (digs 32 (frEv R a % frQ))
    by_cases h2 : k = 12
    · subst h2; intro x hx; cases hx with
      | head => rfl
      | tail _ h => cases h
    by_cases h4 : k = 13
    · subst h4; intro x hx; cases hx with
      | head => rfl
      | tail _ h => cases h
    by_cases h3 : k = 20
    · subst h3; intro x hx; cases hx
    rw [frDen_op R a b h1 h2 h4 h3]
    exact frCells_one _

def frDenS (R : Ev) : Den where
  den := frDen R
  wid := frWid
  len := frDen_len R
  one := frDen_one R
  hold := frHold R
  hone := fun e v w h => by
    obtain ⟨a, b, rfl, A, c, rfl, _⟩ := h
    rfl
  hlt := fun e v w g h hg => by
    obtain ⟨a, b, rfl, A, c, rfl, _, _, h4⟩ := h
    rw [ownBlock_slice] at hg
    exact h4 g hg
  keep := fun e v w w' h hs hk => by
    obtain ⟨a, b, rfl, A, c, rfl, h2, h3, h4⟩ := h
    refine ⟨a, b, rfl, A, c, rfl, h2.keep hs fun b o hb hlt => ?_, h3, fun g hg => Nat.lt_of_lt_of_le (h4 g hg) hs⟩
    have := hk b (by rw [ownBlock_slice]; exact hb)
    exact World.cell?_of_block (a := ⟨b, o, none⟩) this

def frFld (R : Ev) : Fld where
  q := frQ
  pos := by decide
  ev := frEv R
  lit := frEv_lit R
  add := frEv_add R
  mul := frEv_mul R
  sub := frEv_sub R
  neg := fun a b => frEv_neg R a b

/-- what the sums of products are made of -/
def frAtom : E → Option Nat
  | .dt i => some (2 * i)
  | .op k a _ => match k with
    | 7 => match a with
      | .dt i => some (2 * i + 1)
      | _ => none
    | _ => none

def frRho (R : Ev) (j : Nat) : Int := if j % 2 = 0 then (R.num (j / 2) : Int) else (be (R.bys (j / 2)) : Int)

theorem frAtom_ok (R : Ev) (e : E) (j : Nat) (h : frAtom e = some j) : ((frFld R).ev e : Int) % ((frFld R).q : Int) = frRho R j % ((frFld R).q : Int) := by
  unfold frAtom at h
  split at h
  · rename_i i
    injection h with h; subst h
    have : frRho R (2 * i) = (R.num i : Int) := by unfold frRho; rw [if_pos (by omega), show 2 * i / 2 = i by omega]
    rw [this]; rfl
  · split at h
    · split at h
      · rename_i i
        injection h with h; subst h
        have : frRho R (2 * i + 1) = (be (R.bys i) : Int) := by unfold frRho; rw [if_neg (by omega), show (2 * i + 1) / 2 = i by omega]
        rw [this]; rfl
      · cases h
    · cases h

def findF : List (E × E × Bool) → E → E → Option Bool
  | [], _, _ => none
  | (x, y, r) :: l, a, b => match E.eqb x a, E.eqb y b with
    | true, true => some r
    | _, _ => findF l a b

theorem findF_mem : ∀ {l : List (E × E × Bool)} {a b : E} {r : Bool}, findF l a b = some r → (a, b, r) ∈ l
  | [], a, b, r, h => by cases h
  | (x, y, s) :: l, a, b, r, h => by
    simp only [findF] at h
    split at h
    · rename_i h1 h2
      injection h with h; subst h
      rw [E.eqb_eq h1, E.eqb_eq h2]; simp
    · exact List.mem_cons_of_mem _ (findF_mem h)

/-- are two numbers alike? -/
def frSameE (F : List (E × E × Bool)) (a b : E) : Option Bool := match E.eqb a b with
  | true => some true
  | false => match findF F a b with
    | some r => some r
    | none => match sameP frQ frAtom a b with
      | true => some true
      | false => none

/-- the facts that a run is given -/
def FrFacts (R : Ev) (F : List (E × E × Bool)) : Prop := ∀ x ∈ F, decide (frEv R x.1 % frQ = frEv R x.2.1 % frQ) = x.2.2

theorem frSameE_ok {R : Ev} {F : List (E × E × Bool)} (hF : FrFacts R F) {a b : E} {r : Bool} (h : frSameE F a b = some r) : decide (frEv R a % frQ = frEv R b % frQ) = r := by
  unfold frSameE at h
  split at h
  · rename_i he
    injection h with h; subst h
    rw [E.eqb_eq he]; simp
  · split at h
    · rename_i s hs
      injection h with h; subst h
      exact hF _ (findF_mem hs)
    · split at h
      · rename_i hs
        injection h with h; subst h
        have := sameP_ok (frFld R) (frAtom_ok R) hs
        exact decide_eq_true this
      · cases h

def isFr : E → Bool
  | .dt _ => true
  | .op k _ _ => Nat.blt k 10

theorem isFr_den {R : Ev} {e : E} (h : isFr e = true) : frDen R e = frCells (frEv R e) := by
  cases e with
  | dt i => rfl
  | op k a b =>
    have hk : k < 10 := Nat.le_of_ble_eq_true h
    exact frDen_op R a b (by omega) (by omega) (by omega) (by omega)

def frEl : List Atom → Option E
  | [.el e] => match isFr e with
    | true => some e
    | false => none
  | [.int .u64 (.ofNat 0), .int .u64 (.ofNat 0), .int .u64 (.ofNat 0), .int .u64 (.ofNat 0)] => some (.op 0 (.dt 0) (.dt 0))
  | _ => none

theorem frEl_ok {R : Ev} {σ : Env} {xs : List Atom} {e : E} {v : Value} (h : frEl xs = some e) (hv : (V.agg xs).Is (frDenS R) σ v) : v = frE (frEv R e) := by
  obtain ⟨l, h1, rfl⟩ := hv
  unfold frEl at h
  split at h
  · rename_i x
    cases hx : isFr x with
    | false => rw [hx] at h; cases h
    | true =>
      rw [hx] at h
      injection h with h; subst h
      have : cellsL (frDenS R) σ [.el x] = some (frDen R x ++ []) := rfl
      rw [this] at h1
      injection h1 with h1; subst h1
      rw [List.append_nil, isFr_den hx, ← frCells_ok]
  · injection h with h; subst h
    injection h1 with h1; subst h1
    exact (frE_zero).symm
  · cases h

theorem elR_ok {R : Ev} {e : E} (he : isFr e = true) (b : Nat) (w : World) : (Res.one (.dt (.agg [.el e]))).Is (frDenS R) b w (frE (frEv R e)) := by
  refine ⟨frDen R e ++ [], rfl, ?_⟩
  rw [List.append_nil, isFr_den he, ← frCells_ok]

def boolR (b : Bool) : Res := .one (.dt (.one (.bool b)))

/-- the elements that a call is handed -/
def fr1 : List CArg → Option E
  | [.dt (.agg xs)] => frEl xs
  | _ => none

def fr2 : List CArg → Option (E × E)
  | [.dt (.agg xs), .dt (.agg bs)] => match frEl xs, frEl bs with
    | some a, some b => some (a, b)
    | _, _ => none
  | _ => none

theorem fr1_ok {R : Ev} {σ : Env} {w : World} {cs : List CArg} {vs : List Value} {e : E} (h : fr1 cs = some e) (hv : ArgsIs (frDenS R) σ w cs vs) : vs = [frE (frEv R e)] := by
  unfold fr1 at h
  split at h
  · rename_i xs
    obtain ⟨v, ws, rfl, h1, h2⟩ := hv
    have h2 : ws = [] := h2
    subst h2
    rw [frEl_ok h h1]
  · cases h

theorem fr2_ok {R : Ev} {σ : Env} {w : World} {cs : List CArg} {vs : List Value} {a b : E} (h : fr2 cs = some (a, b)) (hv : ArgsIs (frDenS R) σ w cs vs) : vs = [frE (frEv R a), frE (frEv R b)] := by
  unfold fr2 at h
  split at h
  · rename_i xs bs
    split at h
    · rename_i x y h3 h4
      injection h with h; injection h with e1 e2; subst e1 e2
      obtain ⟨v, ws, rfl, h1, u, us, rfl, h2, h5⟩ := hv
      have h5 : us = [] := h5
      subst h5
      rw [frEl_ok h3 h1, frEl_ok h4 h2]
    · cases h
  · cases h

abbrev Entry := List CArg → Option Res

/-- an entry of the table is right -/
def EntryOk (D : Den) (I : World → Prop) (f : FuncId) (g : Entry) : Prop :=
  isGo Tryd.prog f = true ∧ ∀ cs r, g cs = some r → ∀ σ w vs, ArgsIs D σ w cs vs → I w → Calls Tryd.prog f vs.toArray w fun e w' => ∃ v, e = .returned v ∧ Below w.heap.size w w' ∧ r.Is D w.heap.size w' v

def ofEntries (l : List (Nat × Entry)) (f : FuncId) (cs : List CArg) : Option Res := match find l f with
  | some g => g cs
  | none => none

theorem ofEntries_ok {D : Den} {I : World → Prop} {l : List (Nat × Entry)} (h : ∀ x ∈ l, EntryOk D I x.1 x.2) {f : FuncId} {cs : List CArg} {r : Res} (hr : ofEntries l f cs = some r) :
    isGo Tryd.prog f = true ∧ ∀ σ w vs, ArgsIs D σ w cs vs → I w → Calls Tryd.prog f vs.toArray w fun e w' => ∃ v, e = .returned v ∧ Below w.heap.size w w' ∧ r.Is D w.heap.size w' v := by
  unfold ofEntries at hr
  cases hf : find l f with
  | none => rw [hf] at hr; cases hr
  | some g =>
    rw [hf] at hr
    obtain ⟨h1, h2⟩ := h _ (find_mem hf)
    exact ⟨h1, h2 cs r hr⟩

theorem calls_el {R : Ev} {f : FuncId} {vs : Array Value} {w : World} {e : E} (he : isFr e = true) (h : Calls Tryd.prog f vs w fun x w' => x = .returned (frE (frEv R e)) ∧ Below w.heap.size w w') :
    Calls Tryd.prog f vs w fun x w' => ∃ v, x = .returned v ∧ Below w.heap.size w w' ∧ (Res.one (.dt (.agg [.el e]))).Is (frDenS R) w.heap.size w' v :=
  h.mono fun x w' ⟨h1, h2⟩ => ⟨_, h1, h2, elR_ok he _ _⟩

theorem calls_bool {D : Den} {f : FuncId} {vs : Array Value} {w : World} {b : Bool} (h : Calls Tryd.prog f vs w fun x w' => x = .returned (.bool b) ∧ Below w.heap.size w w') :
    Calls Tryd.prog f vs w fun x w' => ∃ v, x = .returned v ∧ Below w.heap.size w w' ∧ (boolR b).Is D w.heap.size w' v :=
  h.mono fun x w' ⟨h1, h2⟩ => ⟨_, h1, h2, rfl⟩

def frOfE : Entry
  | [.dt (.one (.int .u64 (.ofNat n)))] => match Nat.blt n 18446744073709551616 with
    | true => some (.one (.dt (.agg [.el (.op 0 (.dt n) (.dt 0))])))
    | false => none
  | _ => none

theorem frOfE_ok (R : Ev) : EntryOk (frDenS R) FrTab 11 frOfE := by
  refine ⟨by kernel_rfl, fun cs r h σ w vs hv hI => ?_⟩
  unfold frOfE at h
  split at h
  · rename_i n
    cases hn : Nat.blt n 18446744073709551616 with
    | false => rw [hn] at h; cases h
    | true =>
      rw [hn] at h
      injection h with h; subst h
      obtain ⟨v, ws, rfl, h1, h2⟩ := hv
      have h2 : ws = [] := h2
      subst h2
      injection h1 with h1; injection h1 with h1; subst h1
      refine calls_el (e := .op 0 (.dt n) (.dt 0)) rfl ?_
      rw [frEv_lit]
      exact fr_of_calls n w hI (Nat.le_of_ble_eq_true hn)
  · cases h

def frBin (k : Nat) : Entry := fun cs => match fr2 cs with
  | some (a, b) => some (.one (.dt (.agg [.el (.op k a b)])))
  | none => none

def frUn (k : Nat) : Entry := fun cs => match fr1 cs with
  | some a => some (.one (.dt (.agg [.el (.op k a (.dt 0))])))
  | none => none

theorem frBin_ok {R : Ev} {k : Nat} (hk : Nat.blt k 10 = true) {f : FuncId} (hf : isGo Tryd.prog f = true) (c : Nat → Nat → Nat) (hc : ∀ a b, frEv R (.op k a b) = c (frEv R a) (frEv R b))
    (h : ∀ a b w, FrTab w → Calls Tryd.prog f #[frE a, frE b] w fun x w' => x = .returned (frE (c a b)) ∧ Below w.heap.size w w') :
    EntryOk (frDenS R) FrTab f (frBin k) := by
  refine ⟨hf, fun cs r hr σ w vs hv hI => ?_⟩
  unfold frBin at hr
  split at hr
  · rename_i a b hc'
    injection hr with hr; subst hr
    rw [fr2_ok hc' hv]
    refine calls_el (e := .op k a b) hk ?_
    rw [hc]
    exact h _ _ w hI
  · cases hr

theorem frUn_ok {R : Ev} {k : Nat} (hk : Nat.blt k 10 = true) {f : FuncId} (hf : isGo Tryd.prog f = true) (c : Nat → Nat) (hc : ∀ a b, frEv R (.op k a b) = c (frEv R a))
    (h : ∀ a w, FrTab w → Calls Tryd.prog f #[frE a] w fun x w' => x = .returned (frE (c a)) ∧ Below w.heap.size w w') :
    EntryOk (frDenS R) FrTab f (frUn k) := by
  refine ⟨hf, fun cs r hr σ w vs hv hI => ?_⟩
  unfold frUn at hr
  split at hr
  · rename_i a hc'
    injection hr with hr; subst hr
    rw [fr1_ok hc' hv]
    refine calls_el (e := .op k a (.dt 0)) hk ?_
    rw [hc]
    exact h _ w hI
  · cases hr

def frSquareE : Entry := fun cs => match fr1 cs with
  | some a => some (.one (.dt (.agg [.el (.op 2 a a)])))
  | none => none

theorem frSquareE_ok (R : Ev) : EntryOk (frDenS R) FrTab 25 frSquareE := by
  refine ⟨by kernel_rfl, fun cs r hr σ w vs hv hI => ?_⟩
  unfold frSquareE at hr
  split at hr
  · rename_i a hc
    injection hr with hr; subst hr
    rw [fr1_ok hc hv]
    refine calls_el (e := .op 2 a a) rfl ?_
    rw [frEv_mul]
    exact fr_square_calls _ w hI
  · cases hr

def frZeroE (F : List (E × E × Bool)) : Entry := fun cs => match fr1 cs with
  | some a => match frSameE F a (.op 0 (.dt 0) (.dt 0)) with
    | some b => some (boolR b)
    | none => none
  | none => none

theorem frZeroE_ok {R : Ev} {F : List (E × E × Bool)} (hF : FrFacts R F) : EntryOk (frDenS R) FrTab 23 (frZeroE F) := by
  refine ⟨by kernel_rfl, fun cs r hr σ w vs hv hI => ?_⟩
  unfold frZeroE at hr
  split at hr
  · rename_i a hc
    split at hr
    · rename_i b hs
      injection hr with hr; subst hr
      rw [fr1_ok hc hv]
      have := frSameE_ok hF hs
      rw [frEv_lit, Nat.zero_mod] at this
      have hz := fr_zero_calls (frEv R a) w
      rw [this] at hz
      exact calls_bool hz
    · cases hr
  · cases hr

def frBytesE : Entry := fun cs => match fr1 cs with
  | some a => some (.one (.dt (.agg [.el (.op 10 a (.dt 0))])))
  | none => none

theorem frBytesE_ok (R : Ev) : EntryOk (frDenS R) FrTab 33 frBytesE := by
  refine ⟨by kernel_rfl, fun cs r hr σ w vs hv hI => ?_⟩
  unfold frBytesE at hr
  split at hr
  · rename_i a hc
    injection hr with hr; subst hr
    rw [fr1_ok hc hv]
    exact (fr_bytes_calls (frEv R a) w hI).mono fun x w' ⟨h1, h2⟩ => ⟨_, h1, h2, nums .u8 (digs 32 (frEv R a % frQ)) ++ [], rfl, by rw [List.append_nil]⟩
  · cases hr

def copyE : Entry
  | [.held (.op 20 a b)] => some (.one (.h (.op 20 a b)))
  | _ => none

theorem copyE_ok {R : Ev} (hR : R.Ok) : EntryOk (frDenS R) FrTab 16 copyE := by
  refine ⟨by kernel_rfl, fun cs r hr σ w vs hv hI => ?_⟩
  unfold copyE at hr
  split at hr
  · rename_i a b
    injection hr with hr; subst hr
    obtain ⟨v, ws, rfl, ⟨a', b', he, A, c, rfl, h1, h2, h3⟩, h4⟩ := hv
    injection he with _ e1 e2; subst e1 e2
    have h4 : ws = [] := h4
    subst h4
    have hl := (hR.rows a).1
    refine (copy_calls A (R.row a) c w h1 hl).mono fun x w' ⟨A', c', h5, h6, h7⟩ => ⟨_, h5, h7, ⟨a, b, rfl, A', c', rfl, h6.rd, h6.cap.1, fun g hg => (h6.lt g hg).2⟩, fun g hg => ?_⟩
    rw [ownBlock_slice] at hg
    exact (h6.lt g hg).1
  · cases hr

def frWideE : Entry
  | [.held (.op 20 a _)] => some (.one (.dt (.agg [.el (.op 7 a (.dt 0))])))
  | _ => none

theorem frWideE_ok {R : Ev} (hR : R.Ok) : EntryOk (frDenS R) FrTab 17 frWideE := by
  refine ⟨by kernel_rfl, fun cs r hr σ w vs hv hI => ?_⟩
  unfold frWideE at hr
  split at hr
  · rename_i a b
    injection hr with hr; subst hr
    obtain ⟨v, ws, rfl, ⟨a', b', he, A, c, rfl, h1, h2, h3⟩, h4⟩ := hv
    injection he with _ e1 e2; subst e1 e2
    have h4 : ws = [] := h4
    subst h4
    have hl := hR.rows a
    refine calls_el (e := .op 7 a (.dt 0)) rfl ?_
    rw [frEv_wide]
    exact fr_wide_calls A (R.row a) _ c w hI h1 rfl h2 hl.1 hl.2
  · cases hr

def headE : Entry
  | [] => some (boolR true)
  | _ => none

theorem frHeadE_ok (R : Ev) : EntryOk (frDenS R) FrTab 10 headE := by
  refine ⟨by kernel_rfl, fun cs r hr σ w vs hv hI => ?_⟩
  unfold headE at hr
  split at hr
  · injection hr with hr; subst hr
    have hv : vs = [] := hv
    subst hv
    exact calls_bool (fr_head_calls w hI)
  · cases hr

theorem fr_invR {R : Ev} (hR : R.Ok) (a : Nat) (w : World) (ht : FrTab w) :
    Calls Tryd.prog 24 #[frE a] w fun e w' => e = .returned (frE (R.inv a)) ∧ Below w.heap.size w w' := by
  rw [hR.inv]
  exact fr_inv_calls a w ht

/-- the functions of the package -/
def frEntries (F : List (E × E × Bool)) : List (Nat × Entry) :=
  [(12, frBin 1), (13, frBin 2), (14, frBin 3), (15, frUn 4),
   (24, frUn 5), (25, frSquareE), (23, frZeroE F), (33, frBytesE),
   (11, frOfE), (17, frWideE), (16, copyE), (10, headE)]

theorem frEntries_ok {R : Ev} {F : List (E × E × Bool)} (hR : R.Ok) (hF : FrFacts R F) : ∀ x ∈ frEntries F, EntryOk (frDenS R) FrTab x.1 x.2 := by
  unfold frEntries
  simp only [List.forall_mem_cons]
  exact ⟨frBin_ok rfl (by kernel_rfl) (fun a b => a + b) (frEv_add R) fr_addE, frBin_ok rfl (by kernel_rfl) (fun a b => a * b) (frEv_mul R) fr_mulE, frBin_ok rfl (by kernel_rfl) (fun a b => a + (frQ - b % frQ)) (frEv_sub R) fr_subE,
    frUn_ok rfl (by kernel_rfl) (fun a => frQ - a % frQ) (frEv_neg R) fr_neg_calls, frUn_ok rfl (by kernel_rfl) R.inv (frEv_inv R) (fr_invR hR), frSquareE_ok R, frZeroE_ok hF, frBytesE_ok R, frOfE_ok R, frWideE_ok hR, copyE_ok hR, frHeadE_ok R, fun x hx => by cases hx⟩

/-- == -/
def frEqV (F : List (E × E × Bool)) (ty : TypeId) : V → V → Option Bool
  | .agg xs, .agg bs => match Nat.beq ty 27 with
    | true => match frEl xs, frEl bs with
      | some a, some b => frSameE F a b
      | _, _ => none
    | false => match Nat.beq ty 52 with
      | true => match xs, bs with
        | [.el (.op 10 a _)], [.el (.op 10 b _)] => frSameE F a b
        | _, _ => none
      | false => none
  | .one (.bool a), .one (.bool b) => match Nat.beq ty 4 with
    | true => some (match a, b with
      | true, true => true
      | false, false => true
      | _, _ => false)
    | false => none
  | .one (.int .i64 a), .one (.int .i64 b) => some (eqbI a b)
  | _, _ => none

def intO (op : BinOp) (a b : Int) : Option V := match op with
  | .add => some (.one (.int .i64 (IntKind.i64.wrap (a + b))))
  | .sub => some (.one (.int .i64 (IntKind.i64.wrap (a - b))))
  | .mul => some (.one (.int .i64 (IntKind.i64.wrap (a * b))))
  | .lss => some (.one (.bool (decide (a < b))))
  | .leq => some (.one (.bool (decide (a ≤ b))))
  | .gtr => some (.one (.bool (decide (a > b))))
  | .geq => some (.one (.bool (decide (a ≥ b))))
  | _ => none

/-- the length of a row against a number -/
def lenEq (L N : List (Nat × Nat)) : V → V → Option Bool
  | .one (.el (.op 12 a _)), .one (.int .i64 (.ofNat m)) => match lenRow L a with
    | some n => some (Nat.beq n m)
    | none => match a with
      | .dt i => match find N i with
        | some n => match Nat.beq n m with
          | true => some false
          | false => none
        | none => none
      | _ => none
  | _, _ => none

def frBinO (X : Fx) (op : BinOp) (ty : TypeId) (x y : V) : Option V := match op with
  | .eql => match frEqV X.eqs ty x y with
    | some b => some (.one (.bool b))
    | none => match lenEq X.lens X.nlens x y with
      | some b => some (.one (.bool b))
      | none => none
  | .neq => match frEqV X.eqs ty x y with
    | some b => some (.one (.bool (!b)))
    | none => match lenEq X.lens X.nlens x y with
      | some b => some (.one (.bool (!b)))
      | none => none
  | op => match x, y with
    | .one (.int .i64 a), .one (.int .i64 b) => intO op a b
    | .one (.el (.op 12 (.dt i) _)), .one (.int .i64 (.ofNat 400)) => match op with
      | .gtr => match find X.longs i with
        | some b => some (.one (.bool b))
        | none => none
      | _ => none
    | _, _ => none

def notO : UnOp → V → Option V
  | .not, .one (.bool b) => some (.one (.bool (!b)))
  | _, _ => none

def lenO : CArg → Option V
  | .held (.op 20 a _) => some (.one (.el (.op 12 a (.dt 0))))
  | _ => none

def u64s : List Nat → List Atom
  | [] => []
  | n :: l => .int .u64 (.ofNat n) :: u64s l

def frGlob (g : Nat) : Option (List Atom) := match Nat.beq g 1 with
  | true => some (u64s [18446744069414584321, 6034159408538082302, 3691218898639771653, 8353516859464449352])
  | false => match Nat.beq g 0 with
    | true => some (u64s [14526898881837571181, 3129137299524312099, 419701826671360399, 524908885293268753])
    | false => none

/-- a part of a row -/
def rowSlc (L : List (Nat × Nat)) (e : E) (lo hi : Option Nat) : Option E := match e with
  | .op 20 a b => match lenRow L a with
    | some n => match Nat.ble (lo.getD 0) (hi.getD n), Nat.ble (hi.getD n) n with
      | true, true => match hi with
        | some h => some (.op 20 (.op 22 (.op 23 a (.dt h)) (.dt (lo.getD 0))) b)
        | none => some (.op 20 (.op 22 a (.dt (lo.getD 0))) b)
      | _, _ => none
    | none => none
  | _ => none

def noCnv (s d : TypeId) (x : V) : Option V := none

def frTable (X : Fx) (l : List (Nat × Entry)) : Tab := ⟨frWid, frBinO X, notO, lenO, ofEntries l, frGlob, rowSlc X.lens, noCnv⟩

/-- what a run is told is so -/
structure FrTold (R : Ev) (X : Fx) : Prop where
  eqs : FrFacts R X.eqs
  longs : ∀ x ∈ X.longs, decide (400 < (R.bys x.1).length) = x.2
  lens : ∀ x ∈ X.lens, (R.bys x.1).length = x.2
  nlens : ∀ x ∈ X.nlens, (R.bys x.1).length ≠ x.2
  lts : ∀ x ∈ X.lts, decide (be (R.bys x.1) < frQ) = x.2

theorem eqbI_iff (a b : Int) : eqbI a b = (a == b) := by
  cases h : eqbI a b with
  | true => rw [eqbI_eq h]; simp
  | false =>
    have : a ≠ b := by
      intro e
      subst e
      cases a <;> simp [eqbI] at h
    simp [this]

theorem eq_agg {P : Program} {ty : TypeId} {xs ys : Array Value} {b : Bool} {w : World} (hg : P.eqGuardType P.depth ty = false) (he : (Op.equal ty (.agg xs) (.agg ys)).run P w = .ok b w) (X Y : Operand) :
    (do eqGuard .eql ty X Y (.agg xs) (.agg ys); binOp .eql ty (.agg xs) (.agg ys) : Sem Value).run P w = .ok (.bool b) w ∧ (do eqGuard .neq ty X Y (.agg xs) (.agg ys); binOp .neq ty (.agg xs) (.agg ys) : Sem Value).run P w = .ok (.bool (!b)) w := by
  have g : ∀ op, (eqGuard op ty X Y (.agg xs) (.agg ys)).run P w = .ok () w := fun op => by
    cases op <;> simp [eqGuard, hg]
  have e1 : binOp .eql ty (.agg xs) (.agg ys) = (do pure (.bool (← Op.equal ty (.agg xs) (.agg ys)))) := rfl
  have e2 : binOp .neq ty (.agg xs) (.agg ys) = (do pure (.bool (!(← Op.equal ty (.agg xs) (.agg ys))))) := rfl
  rw [e1, e2]
  constructor <;> simp only [Sem.run_bind, g, Result.andThen_ok, he, Sem.run_pure]

theorem eq_bool {P : Program} {ty : TypeId} (hu : P.underlying ty = some .bool) (a c : Bool) (X Y : Operand) (w : World) :
    (do eqGuard .eql ty X Y (.bool a) (.bool c); binOp .eql ty (.bool a) (.bool c) : Sem Value).run P w = .ok (.bool (match a, c with
      | true, true => true
      | false, false => true
      | _, _ => false)) w ∧ (do eqGuard .neq ty X Y (.bool a) (.bool c); binOp .neq ty (.bool a) (.bool c) : Sem Value).run P w = .ok (.bool (!(match a, c with
      | true, true => true
      | false, false => true
      | _, _ => false))) w := by
  have hq : (Op.equal ty (.bool a) (.bool c)).run P w = .ok (a == c) w := by
    unfold Op.equal Op.maxDepth
    rw [show (10000 : Nat) = 9999 + 1 from rfl, Op.equalIn]
    simp only [Sem.run_bind, run_underlying hu, Result.andThen_ok, Sem.run_pure]
  have e1 : (do eqGuard .eql ty X Y (.bool a) (.bool c); binOp .eql ty (.bool a) (.bool c) : Sem Value) = (do pure (.bool (← Op.equal ty (.bool a) (.bool c)))) := rfl
  have e2 : (do eqGuard .neq ty X Y (.bool a) (.bool c); binOp .neq ty (.bool a) (.bool c) : Sem Value) = (do pure (.bool (!(← Op.equal ty (.bool a) (.bool c))))) := rfl
  rw [e1, e2]
  simp only [Sem.run_bind, hq, Result.andThen_ok, Sem.run_pure]
  cases a <;> cases c <;> exact ⟨rfl, rfl⟩

theorem frEqV_ok {R : Ev} {F : List (E × E × Bool)} (hF : FrFacts R F) {ty : TypeId} {x y : V} {b : Bool} (h : frEqV F ty x y = some b) {σ : Env} {vx vy : Value} (hx : x.Is (frDenS R) σ vx) (hy : y.Is (frDenS R) σ vy) (X Y : Operand) (w : World) :
    (do eqGuard .eql ty X Y vx vy; binOp .eql ty vx vy : Sem Value).run Tryd.prog w = .ok (.bool b) w ∧ (do eqGuard .neq ty X Y vx vy; binOp .neq ty vx vy : Sem Value).run Tryd.prog w = .ok (.bool (!b)) w := by
  unfold frEqV at h
  split at h
  · rename_i xs bs
    cases ht : Nat.beq ty 27 with
    | false =>
      rw [ht] at h
      dsimp only at h
      cases ht2 : Nat.beq ty 52 with
      | false => rw [ht2] at h; cases h
      | true =>
        rw [ht2] at h
        have e := Nat.eq_of_beq_eq_true ht2
        subst e
        dsimp only at h
        split at h
        · rename_i a _ c _
          obtain ⟨l, h1, rfl⟩ := hx
          obtain ⟨m, h2, rfl⟩ := hy
          have h1 : some (nums .u8 (digs 32 (frEv R a % frQ)) ++ []) = some l := h1
          have h2 : some (nums .u8 (digs 32 (frEv R c % frQ)) ++ []) = some m := h2
          injection h1 with h1; subst h1
          injection h2 with h2; subst h2
          rw [List.append_nil, List.append_nil]
          have he := run_equalNums (P := Tryd.prog) (t := 52) (e := 5) (n := 32) (k := .u8) Tryd.underlying52 Tryd.underlying5 (by kernel_rfl) (by kernel_rfl) (digs_length 32 (frEv R a % frQ)) (digs_length 32 (frEv R c % frQ)) w
          have hs := frSameE_ok hF h
          have hq : frQ < 256 ^ 32 := by decide
          have hiff : decide (digs 32 (frEv R a % frQ) = digs 32 (frEv R c % frQ)) = b := by
            rw [← hs, decide_eq_decide]
            exact ⟨fun h => digs_inj (Nat.lt_trans (Nat.mod_lt _ (by decide)) hq) (Nat.lt_trans (Nat.mod_lt _ (by decide)) hq) h, fun h => by rw [h]⟩
          rw [hiff] at he
          exact eq_agg (by kernel_rfl) he X Y
        · cases h
    | true =>
      rw [ht] at h
      have e := Nat.eq_of_beq_eq_true ht
      subst e
      dsimp only at h
      cases h1 : frEl xs with
      | none => rw [h1] at h; cases h
      | some a =>
        cases h2 : frEl bs with
        | none => rw [h1, h2] at h; cases h
        | some c =>
          rw [h1, h2] at h
          rw [frEl_ok h1 hx, frEl_ok h2 hy]
          have hs := frSameE_ok hF h
          have he := fr_equal (frEv R a) (frEv R c) w
          rw [hs] at he
          rw [frCells_ok (frEv R a), frCells_ok (frEv R c)] at he ⊢
          exact eq_agg fr_guardT he X Y
  · rename_i a c
    cases ht : Nat.beq ty 4 with
    | false => rw [ht] at h; cases h
    | true =>
      rw [ht] at h
      have e := Nat.eq_of_beq_eq_true ht
      subst e
      injection h with h; subst h
      injection hx with hx; injection hx with hx; subst hx
      injection hy with hy; injection hy with hy; subst hy
      exact eq_bool Tryd.underlying4 a c X Y w
  · rename_i a c
    injection h with h; subst h
    injection hx with hx; injection hx with hx; subst hx
    injection hy with hy; injection hy with hy; subst hy
    rw [eqbI_iff]
    exact ⟨rfl, rfl⟩
  · cases h

theorem intO_ok {P : Program} {op : BinOp} {a b : Int} {r : V} (h : intO op a b = some r) (ty : TypeId) (X Y : Operand) (D : Den) (σ : Env) (w : World) :
    ∃ v, (do eqGuard op ty X Y (.int .i64 a) (.int .i64 b); binOp op ty (.int .i64 a) (.int .i64 b) : Sem Value).run P w = .ok v w ∧ r.Is D σ v := by
  cases op <;> first | (injection h with h; subst h; exact ⟨_, rfl, rfl⟩) | cases h

theorem lenEq_ok {R : Ev} {L N : List (Nat × Nat)} (hL : ∀ x ∈ L, (R.bys x.1).length = x.2) (hN : ∀ x ∈ N, (R.bys x.1).length ≠ x.2) {x y : V} {b : Bool} (h : lenEq L N x y = some b) {σ : Env} {vx vy : Value} (hx : x.Is (frDenS R) σ vx) (hy : y.Is (frDenS R) σ vy) (ty : TypeId) (X Y : Operand) (w : World) :
    (do eqGuard .eql ty X Y vx vy; binOp .eql ty vx vy : Sem Value).run Tryd.prog w = .ok (.bool b) w ∧ (do eqGuard .neq ty X Y vx vy; binOp .neq ty vx vy : Sem Value).run Tryd.prog w = .ok (.bool (!b)) w := by
  unfold lenEq at h
  split at h
  · rename_i a c m
    split at h
    · rename_i n hn
      injection h with h; subst h
      injection hx with hx; injection hx with hx; subst hx
      injection hy with hy; injection hy with hy; subst hy
      have hlen := lenRow_ok hL hn
      have e : Nat.beq n m = (((R.row a).length : Int) == Int.ofNat m) := by
        rw [hlen]
        cases hb : Nat.beq n m with
        | true => have := Nat.eq_of_beq_eq_true hb; subst this; simp
        | false =>
          have := Nat.ne_of_beq_eq_false hb
          simp
          omega
      rw [e]
      exact ⟨rfl, rfl⟩
    · split at h
      · split at h
        · rename_i n hn
          split at h
          · rename_i hb
            injection h with h; subst h
            have e := Nat.eq_of_beq_eq_true hb
            subst e
            have hne := hN _ (find_mem hn)
            injection hx with hx; injection hx with hx; subst hx
            injection hy with hy; injection hy with hy; subst hy
            have key : ∀ k : Nat, (R.bys k).length ≠ n → (((R.row (.dt k)).length : Int) == Int.ofNat n) = false := fun k hk => by
              simp [Ev.row]
              omega
            have e2 := key _ hne
            exact ⟨by rw [← e2]; rfl, by rw [← e2]; rfl⟩
          · cases h
        · cases h
      · cases h
  · cases h

theorem u64s_cells (D : Den) (σ : Env) : ∀ l : List Nat, cellsL D σ (u64s l) = some (l.map fun n => Value.int .u64 (Int.ofNat n))
  | [] => rfl
  | n :: l => by
    have := u64s_cells D σ l
    simp only [u64s, cellsL, Atom.cells, this, List.map_cons]
    rfl

theorem rowSlc_ok {P : Program} {R : Ev} {L : List (Nat × Nat)} (hL : ∀ x ∈ L, (R.bys x.1).length = x.2) {e : E} {lo hi : Option Nat} {e' : E} (h : rowSlc L e lo hi = some e') {ty elem : TypeId} (hu : P.underlying ty = some (.slice elem)) (hz : szOf P elem = some 1)
    {v : Value} {w : World} {lv hv : Option Value} (hh : frHold R e v w) (bl : BoundIs lo lv) (bh : BoundIs hi hv) :
    ∃ v', (Instr.sliceAt ty v lv hv none).run P w = .ok v' w ∧ frHold R e' v' w ∧ ∀ g, v'.ownBlock = some g → v.ownBlock = some g := by
  unfold rowSlc at h
  split at h
  · rename_i a b
    split at h
    · rename_i n hn
      split at h
      · rename_i h1 h2
        have h1 := Nat.le_of_ble_eq_true h1
        have h2 := Nat.le_of_ble_eq_true h2
        obtain ⟨a', b', he, A, c, rfl, hr, hc, hlt⟩ := hh
        injection he with _ e1 e2; subst e1 e2
        have hlen := lenRow_ok hL hn
        have hb := sliceB_ok (P := P) (isSlice := true) (len := n) (cap := c) bl bh h1 (by omega) w
        have key : ∀ row : E, (R.row row).length = hi.getD n - lo.getD 0 → (∀ (j : Nat) (hj : j < (R.row row).length), ∃ hj' : lo.getD 0 + j < (R.row a).length, (R.row row)[j] = (R.row a)[lo.getD 0 + j]) →
            ∃ v', (Instr.sliceAt ty (.slice A (R.row a).length c) lv hv none).run P w = .ok v' w ∧ frHold R (.op 20 row b) v' w ∧ ∀ g, v'.ownBlock = some g → (Value.slice A (R.row a).length c).ownBlock = some g := by
          intro row hrl hrg
          refine ⟨.slice (if c = lo.getD 0 then A else A.map (·.add (lo.getD 0 * 1))) (hi.getD n - lo.getD 0) (c - lo.getD 0), ?_, ⟨row, b, rfl, _, c - lo.getD 0, by rw [hrl], ?_, by omega, ?_⟩, ?_⟩
          · simp only [Instr.sliceAt, Instr.slice, Sem.run_bind, run_underlying hu, Result.andThen_ok, hlen, hb, Sx.run_sizeOf hz, Sem.run_pure]
          · by_cases h0 : (R.row row).length = 0
            · left; rw [List.eq_nil_of_length_eq_zero h0]; rfl
            · obtain ⟨b0, o0, hA, hb0, hcell⟩ := hr.at_ (k := 0) (by rw [nums_length]; omega)
              subst hA
              right
              have hne : ¬ c = lo.getD 0 := by omega
              refine ⟨b0, o0 + lo.getD 0 * 1, by rw [if_neg hne]; simp [addr_add], hb0, fun j hj => ?_⟩
              rw [nums_length] at hj
              obtain ⟨hj', hg⟩ := hrg j hj
              have := hcell (lo.getD 0 + j) (by rw [nums_length]; omega)
              rw [nums_get] at this
              rw [nums_get, hg, ← this]
              congr 2
              omega
          · intro g hg
            split at hg
            · exact hlt g hg
            · cases A with
              | none => cases hg
              | some x =>
                refine hlt g ?_
                rw [← hg]
                simp only [Option.map_some, blk, Addr.add]
                split <;> rfl
          · intro g hg
            rw [ownBlock_slice] at hg ⊢
            split at hg
            · exact hg
            · cases A with
              | none => cases hg
              | some x =>
                rw [← hg]
                simp only [Option.map_some, blk, Addr.add]
                split <;> rfl
        split at h
        · rename_i hb'
          injection h with h; subst h
          refine key _ ?_ ?_
          · simp [Ev.row]; simp at h2; omega
          · intro j hj
            simp [Ev.row] at hj
            refine ⟨by omega, ?_⟩
            simp [Ev.row]
        · injection h with h; subst h
          refine key _ ?_ ?_
          · simp [Ev.row, hlen]
          · intro j hj
            simp [Ev.row] at hj
            refine ⟨by omega, ?_⟩
            simp [Ev.row]
      · cases h
    · cases h
  · cases h

theorem frRight {R : Ev} {X : Fx} {l : List (Nat × Entry)} (hX : FrTold R X) (hl : ∀ x ∈ l, EntryOk (frDenS R) FrTab x.1 x.2) : Right Tryd.prog (frDenS R) FrTab (frTable X l) where
  wid := rfl
  bin := fun op ty x y r h σ vx vy hx hy O Y w => by
    have h : frBinO X op ty x y = some r := h
    unfold frBinO at h
    split at h
    · split at h
      · rename_i b hb
        injection h with h; subst h
        exact ⟨_, (frEqV_ok hX.eqs hb hx hy O Y w).1, rfl⟩
      · split at h
        · rename_i b hb
          injection h with h; subst h
          exact ⟨_, (lenEq_ok hX.lens hX.nlens hb hx hy ty O Y w).1, rfl⟩
        · cases h
    · split at h
      · rename_i b hb
        injection h with h; subst h
        exact ⟨_, (frEqV_ok hX.eqs hb hx hy O Y w).2, rfl⟩
      · split at h
        · rename_i b hb
          injection h with h; subst h
          exact ⟨_, (lenEq_ok hX.lens hX.nlens hb hx hy ty O Y w).2, rfl⟩
        · cases h
    · split at h
      · injection hx with hx; injection hx with hx; subst hx
        injection hy with hy; injection hy with hy; subst hy
        exact intO_ok h ty O Y _ σ w
      · rename_i i e hold
        split at h
        · split at h
          · rename_i b hb
            injection h with h; subst h
            have := hX.longs _ (find_mem hb)
            injection hx with hx; injection hx with hx; subst hx
            injection hy with hy; injection hy with hy; subst hy
            refine ⟨.bool b, ?_, rfl⟩
            dsimp only at this
            have e2 : (decide (((R.row (.dt i)).length : Int) > Int.ofNat 400)) = b := by
              rw [← this]
              simp [Ev.row]
              omega
            rw [← e2]
            rfl
          · cases h
        · cases h
      · cases h
  un := fun op x r h σ vx hx w => by
    have h : notO op x = some r := h
    unfold notO at h
    split at h
    · injection h with h; subst h
      injection hx with hx; injection hx with hx; subst hx
      exact ⟨_, rfl, rfl⟩
    · cases h
  len := fun c r h σ w v hv => by
    have h : lenO c = some r := h
    unfold lenO at h
    split at h
    · injection h with h; subst h
      obtain ⟨a', b', he, A, cp, rfl, _⟩ := hv
      injection he with _ e1 e2; subst e1 e2
      exact ⟨A, _, cp, rfl, rfl⟩
    · cases h
  ctr := fun f cs r h => ofEntries_ok hl h
  glob := fun g xs h => by
    have h : frGlob g = some xs := h
    unfold frGlob at h
    split at h
    · rename_i hg
      have e := Nat.eq_of_beq_eq_true hg
      subst e
      injection h with h; subst h
      refine ⟨_, u64s_cells _ _ _, fun w hI j v hv => ?_⟩
      obtain ⟨_, _, m0, m1, m2, m3, _⟩ := hI
      match j, hv with
      | 0, hv => injection hv with hv; subst hv; exact m0
      | 1, hv => injection hv with hv; subst hv; exact m1
      | 2, hv => injection hv with hv; subst hv; exact m2
      | 3, hv => injection hv with hv; subst hv; exact m3
      | j + 4, hv => simp at hv
    · split at h
      · rename_i hg
        have e := Nat.eq_of_beq_eq_true hg
        subst e
        injection h with h; subst h
        refine ⟨_, u64s_cells _ _ _, fun w hI j v hv => ?_⟩
        obtain ⟨_, _, _, _, _, _, m0, m1, m2, m3⟩ := hI
        match j, hv with
        | 0, hv => injection hv with hv; subst hv; exact m0
        | 1, hv => injection hv with hv; subst hv; exact m1
        | 2, hv => injection hv with hv; subst hv; exact m2
        | 3, hv => injection hv with hv; subst hv; exact m3
        | j + 4, hv => simp at hv
      · cases h
  slc := fun e lo hi e' h ty elem hu hz v w lv hv hh bl bh => rowSlc_ok hX.lens h hu hz hh bl bh
  cnv := fun s d x r h => by cases h

theorem frTab_keep {w w' : World} (h : FrTab w) (hb : Below w.heap.size w w') : FrTab w' := h.below hb

end Go.Proofs.YtpinopjnlcbipaaDoor
