/- Texts in one: SxD, SxE. Conditions: those of each theorem. -/
import Derived.Test.YtdconlmpjehohaaDoorSxC

/- A symbolic run of straight code, part 4: one operation is run rightly (the theorem). Conditions: those of each theorem. -/
namespace Go.Proofs.YtdconlmpjehohaaDoor.Sx
open Go.RowKit
set_option linter.unusedVariables false

def Env.setH (σ : Env) (i : Nat) (v : Value) (hv : v.oneCell' = true) : Env := ⟨σ.blk, fun k => if k = i then some v else σ.hld k, fun k x h => by
  by_cases e : k = i
  · subst e; simp at h; subst h; exact hv
  · simp [e] at h; exact σ.one k x h⟩

section
variable {P : Program} {D : Den} {k0 n : Nat} {F : Nat → Prop} {w0 : World} {s : St} {σ : Env} {a : Act} {w w' : World} {I : World → Prop} {tab : Tab} {base : Nat}

theorem mixOf_ok : ∀ {ms : List MA} {l : List Value} {k : Nat} {σ : Env}, noVw ms = true → MAsIs D Env.empty w' (fun v => ∀ g, v.ownBlock = some g → base ≤ g) ms l → (∀ i, k ≤ i → i < k + cntM ms → σ.hld i = none) →
    ∃ σ', σ.le σ' ∧ σ'.blk = σ.blk ∧ (∀ i, (i < k ∨ k + cntM ms ≤ i) → σ'.hld i = σ.hld i) ∧ cellsL D σ' (mixOf k ms).1 = some l ∧ (∀ i e, (i, e) ∈ (mixOf k ms).2 → ∃ u, σ'.hld i = some u ∧ D.hold e u w')
      ∧ ∀ i u g, σ'.hld i = some u → σ.hld i = none → u.ownBlock = some g → base ≤ g ∧ g < w'.heap.size
  | [], l, k, σ, hno, h, hk => by
    have h : l = [] := h
    subst h
    exact ⟨σ, σ.le_refl, rfl, fun _ _ => rfl, rfl, fun i e hm => (by cases hm), fun i u g h1 h2 => (by rw [h1] at h2; cases h2)⟩
  | .vw xs :: ms, l, k, σ, hno, h, hk => by cases hno
  | .at_ x :: ms, l, k, σ, hno, h, hk => by
    have hno : noVw ms = true := hno
    obtain ⟨y, z, rfl, h1, h2⟩ := h
    obtain ⟨σ', a1, a2, a3, a4, a5, a6⟩ := mixOf_ok (k := k) (σ := σ) hno h2 hk
    exact ⟨σ', a1, a2, a3, cellsL_mk (Atom.cells_mono (σ'.empty_le) h1) a4, a5, a6⟩
  | .hd e :: ms, l, k, σ, hno, h, hk => by
    have hno : noVw ms = true := hno
    obtain ⟨v, y, rfl, h1, h2, h3⟩ := h
    simp only [cntM] at hk
    have hk0 := hk k (Nat.le_refl _) (by omega)
    let σ1 := σ.setH k v (D.hone e v w' h1)
    have le1 : σ.le σ1 := ⟨fun _ _ x => x, fun i u hi => by
      have : i ≠ k := fun e => by subst e; rw [hk0] at hi; cases hi
      simp [σ1, Env.setH, this, hi]⟩
    have s1 : ∀ i, i ≠ k → σ1.hld i = σ.hld i := fun i hi => by simp [σ1, Env.setH, hi]
    have sk : σ1.hld k = some v := by simp [σ1, Env.setH]
    obtain ⟨σ2, b1, b2, b3, b4, b5, b6⟩ := mixOf_ok (k := k + 1) (σ := σ1) hno h3 (fun i hi hj => by rw [s1 i (by omega)]; exact hk i (by omega) (by omega))
    have s2 : σ2.hld k = some v := b1.h _ _ sk
    refine ⟨σ2, le1.trans b1, b2, fun i hi => ?_, cellsL_mk (x := [v]) (by simp only [Atom.cells, s2]) b4, fun i e' hm => ?_, fun i u g h4 h5 h6 => ?_⟩
    · simp only [cntM] at hi
      rw [b3 i (by omega), s1 i (by omega)]
    · simp only [mixOf, List.mem_cons] at hm
      rcases hm with hm | hm
      · injection hm with e1 e2; subst e1 e2
        exact ⟨v, s2, h1⟩
      · exact b5 i e' hm
    · by_cases e' : i = k
      · subst e'
        rw [s2] at h4; injection h4 with h4; subst h4
        exact ⟨h2 g h6, D.hlt _ _ _ _ h1 h6⟩
      · exact b6 i u g h4 (by rw [s1 i e']; exact h5) h6

theorem rvOf_ok {r : RV} {v : Value} {k : Nat} (h : r.Is D base w' v) (hk : ∀ i, k ≤ i → i < k + r.cnt → σ.hld i = none) :
    ∃ σ', σ.le σ' ∧ σ'.blk = σ.blk ∧ (∀ i, (i < k ∨ k + r.cnt ≤ i) → σ'.hld i = σ.hld i) ∧ (rvOf k r).1.Is D σ' v ∧ (∀ i e, (i, e) ∈ (rvOf k r).2 → ∃ u, σ'.hld i = some u ∧ D.hold e u w')
      ∧ ∀ i u g, σ'.hld i = some u → σ.hld i = none → u.ownBlock = some g → base ≤ g ∧ g < w'.heap.size := by
  cases r with
  | dt x =>
    refine ⟨σ, σ.le_refl, rfl, fun _ _ => rfl, V.Is_mono σ.empty_le h, fun i e hm => (by cases hm), fun i u g h1 h2 => (by rw [h1] at h2; cases h2)⟩
  | mix ms =>
    obtain ⟨l, rfl, hno, h1⟩ := h
    obtain ⟨σ', a1, a2, a3, a4, a5, a6⟩ := mixOf_ok (σ := σ) (k := k) hno h1 hk
    exact ⟨σ', a1, a2, a3, ⟨l, a4, rfl⟩, a5, a6⟩
  | h e =>
    obtain ⟨h1, h2⟩ := h
    have hk := hk k (Nat.le_refl _) (by simp [RV.cnt])
    refine ⟨σ.setH k v (D.hone e v w' h1), ⟨fun _ _ x => x, fun i u hi => ?_⟩, rfl, fun i hi => (by simp only [RV.cnt] at hi; have : i ≠ k := (by omega); simp [Env.setH, this]), (by simp [rvOf, V.Is, Atom.cells, Env.setH]), fun i e' hm => ?_, fun i u g h3 h4 h5 => ?_⟩
    · have : i ≠ k := fun e => by subst e; rw [hk] at hi; cases hi
      simp [Env.setH, this, hi]
    · simp [rvOf] at hm
      obtain ⟨rfl, rfl⟩ := hm
      exact ⟨v, by simp [Env.setH], h1⟩
    · by_cases e : i = k
      · subst e
        simp [Env.setH] at h3; subst h3
        exact ⟨h2 g h5, D.hlt _ _ _ _ h1 h5⟩
      · simp [Env.setH, e] at h3
        rw [h3] at h4; cases h4

theorem rvsOf_ok : ∀ {rs : List RV} {vs : List Value} {k : Nat} {σ : Env}, RVsIs D base w' rs vs → (∀ i, k ≤ i → i < k + cntR rs → σ.hld i = none) →
    ∃ σ', σ.le σ' ∧ σ'.blk = σ.blk ∧ (∀ i, (i < k ∨ k + cntR rs ≤ i) → σ'.hld i = σ.hld i) ∧ IsL D σ' (rvsOf k rs).1 vs ∧ (∀ i e, (i, e) ∈ (rvsOf k rs).2 → ∃ u, σ'.hld i = some u ∧ D.hold e u w')
      ∧ ∀ i u g, σ'.hld i = some u → σ.hld i = none → u.ownBlock = some g → base ≤ g ∧ g < w'.heap.size
  | [], vs, k, σ, h, hk => ⟨σ, σ.le_refl, rfl, fun _ _ => rfl, h, fun i e hm => (by cases hm), fun i u g h1 h2 => (by rw [h1] at h2; cases h2)⟩
  | r :: rs, vs, k, σ, h, hk => by
    obtain ⟨v, ws, rfl, h1, h2⟩ := h
    simp only [cntR] at hk
    obtain ⟨σ1, a1, a2, a3, a4, a5, a6⟩ := rvOf_ok (σ := σ) (k := k) h1 (fun i hi hj => hk i hi (by omega))
    obtain ⟨σ2, b1, b2, b3, b4, b5, b6⟩ := rvsOf_ok (k := k + r.cnt) (σ := σ1) h2 (fun i hi hj => by rw [a3 i (by omega)]; exact hk i (by omega) (by omega))
    refine ⟨σ2, a1.trans b1, by rw [b2, a2], fun i hi => ?_, ⟨v, ws, rfl, V.Is_mono b1 a4, b4⟩, fun i e hm => ?_, fun i u g h3 h4 h5 => ?_⟩
    · simp only [cntR] at hi
      rw [b3 i (by omega), a3 i (by omega)]
    · simp only [rvsOf, List.mem_append] at hm
      rcases hm with hm | hm
      · obtain ⟨u, hu, hh⟩ := a5 i e hm
        exact ⟨u, b1.h _ _ hu, hh⟩
      · exact b5 i e hm
    · by_cases e : σ1.hld i = none
      · exact b6 i u g h3 e h5
      · obtain ⟨u', hu'⟩ := Option.ne_none_iff_exists'.1 e
        have := b1.h _ _ hu'
        rw [this] at h3; injection h3 with h3; subst h3
        exact a6 i u' g hu' h4 h5

theorem effOf_ok {u : Nat} {r : Res} {f : Eff} {v : Value} (hf : effOf u r = some f) (h : r.Is D w.heap.size w' v) (hb : Below w.heap.size w w') (hu : σ.blk u = none) (hh : ∀ i, 32 * u ≤ i → i < 32 * u + 32 → σ.hld i = none) :
    ∃ σ', After D u f σ w σ' w' v := by
  cases r with
  | one r =>
    simp only [effOf] at hf
    cases hl : Nat.ble r.cnt 16 with
    | false => rw [hl] at hf; cases hf
    | true =>
    rw [hl] at hf
    injection hf with hf; subst hf
    have hl' := Nat.le_of_ble_eq_true hl
    obtain ⟨σ', a1, a2, a3, a4, a5, a6⟩ := rvOf_ok (σ := σ) (k := 32 * u) h (fun i h1 h2 => hh i h1 (by omega))
    exact ⟨σ', { le := a1, onlyB := fun k _ => (by rw [a2]), onlyH := fun i hi => a3 i (by omega), newB := fun g hg => (by rw [a2, hu] at hg; cases hg), newH := fun i v g h1 h2 h3 => ⟨(a6 i v g h1 h2 h3).2, (by rw [a2, hu]; intro h; cases h), .inl (a6 i v g h1 h2 h3).1⟩, val := fun x hx => (by injection hx with hx; subst hx; exact a4), blk := fun _ _ h => (by cases h), hld := a5, world := hb }⟩
  | tup rs =>
    simp only [effOf] at hf
    cases hl : Nat.ble (cntR rs) 16 with
    | false => rw [hl] at hf; cases hf
    | true =>
      rw [hl] at hf
      injection hf with hf; subst hf
      have hl' := Nat.le_of_ble_eq_true hl
      obtain ⟨vs, rfl, h⟩ := h
      obtain ⟨σ', a1, a2, a3, a4, a5, a6⟩ := rvsOf_ok (σ := σ) (k := 32 * u) h (fun i h1 h2 => hh i h1 (by omega))
      exact ⟨σ', { le := a1, onlyB := fun k _ => (by rw [a2]), onlyH := fun i hi => a3 i (by omega), newB := fun g hg => (by rw [a2, hu] at hg; cases hg), newH := fun i v g h1 h2 h3 => ⟨(a6 i v g h1 h2 h3).2, (by rw [a2, hu]; intro h; cases h), .inl (a6 i v g h1 h2 h3).1⟩, val := fun x hx => (by injection hx with hx; subst hx; exact ⟨vs, rfl, a4⟩), blk := fun _ _ h => (by cases h), hld := a5, world := hb }⟩

theorem wp_val {o : Oper} {K : Act → World → Prop} {Q : Exit → Act → World → Prop} {v : Value} (hrun : (execOp a.eval o).run P w = .ok (.value v) w') (hk : K (a.put o.dst v) w') : o.wp P a w K Q := by
  unfold Oper.wp
  rw [hrun]
  exact hk

theorem wp_unit {o : Oper} {K : Act → World → Prop} {Q : Exit → Act → World → Prop} (hrun : (execOp a.eval o).run P w = .ok .skip w') (hk : K (a.put o.dst undef) w') : o.wp P a w K Q := by
  unfold Oper.wp
  rw [hrun]
  exact hk

theorem vsOf_ok (h : Ok D k0 n F w0 s σ a w) : ∀ {ps : List (Nat × Operand)} {vs : List (Nat × V)}, vsOf s ps = some vs →
    vs.length = ps.length ∧ ∀ (j i : Nat) (x : V), vs[j]? = some (i, x) → ∃ y, ps[j]? = some (i, y) ∧ x.Is D σ (a.eval y)
  | [], vs, hx => by injection hx with hx; subst hx; exact ⟨rfl, fun j i x h => by simp at h⟩
  | (i, y) :: ps, vs, hx => by
    simp only [vsOf] at hx
    cases ho : opnd s y with
    | none => rw [ho] at hx; cases hx
    | some t =>
      cases ht : vsOf s ps with
      | none => rw [ho, ht] at hx; cases t <;> cases hx
      | some ws =>
        cases t with
        | tup xs => rw [ho, ht] at hx; cases hx
        | dt x =>
          rw [ho, ht] at hx
          injection hx with hx; subst hx
          obtain ⟨h1, h2⟩ := vsOf_ok h ht
          refine ⟨by simp [h1], fun j i' x' hj => ?_⟩
          cases j with
          | zero => simp at hj; obtain ⟨rfl, rfl⟩ := hj; exact ⟨y, rfl, opnd_ok h ho⟩
          | succ j => simp at hj; obtain ⟨z, h3, h4⟩ := h2 j i' x' hj; exact ⟨z, by simpa using h3, h4⟩

theorem foldl_put (m : List Value) : ∀ (k o : Nat) (l : List Value), o + k + m.length ≤ l.length →
    (m.zipIdx k).foldl (fun cs (c, j) => cs.setIfInBounds (o + j) c) l.toArray = (l.take (o + k) ++ (m ++ l.drop (o + k + m.length))).toArray := by
  induction m with
  | nil => intro k o l hl; simp
  | cons c m ih =>
    intro k o l hl
    simp only [List.length_cons] at hl
    simp only [List.zipIdx_cons, List.foldl_cons, List.setIfInBounds_toArray]
    rw [ih (k + 1) o (l.set (o + k) c) (by rw [List.length_set]; omega)]
    rw [show o + (k + 1) = o + k + 1 by omega, set_row (by omega), List.length_cons]

theorem fillW_ok {place : Nat → Option (Nat × Nat)} : ∀ {vs : List (Nat × V)} {ps : List (Nat × Value)} {as bs : List Atom} {l : List Value}, cellsL D σ as = some l → fillW D.wid place as vs = some bs →
    vs.length = ps.length → (∀ (j i : Nat) (x : V), vs[j]? = some (i, x) → ∃ v, ps[j]? = some (i, v) ∧ x.Is D σ v) → ∃ m, cellsL D σ bs = some m ∧ Instr.fill place l.toArray ps = some m.toArray
  | [], ps, as, bs, l, hl, hf, hlen, hv => by
    injection hf with hf; subst hf
    have : ps = [] := List.eq_nil_of_length_eq_zero hlen.symm
    subst this
    exact ⟨l, hl, rfl⟩
  | (i, x) :: vs, ps, as, bs, l, hl, hf, hlen, hv => by
    obtain ⟨v, hp, hx⟩ := hv 0 i x rfl
    cases ps with
    | nil => simp at hp
    | cons p ps =>
      simp at hp; subst hp
      simp only [fillW] at hf
      cases hpl : place i with
      | none => rw [hpl] at hf; cases hf
      | some oz =>
        obtain ⟨o, z⟩ := oz
        rw [hpl] at hf
        dsimp only at hf
        cases hb : Nat.beq (widL D.wid x.atoms) z with
        | false => rw [hb] at hf; cases hf
        | true =>
          rw [hb] at hf
          dsimp only at hf
          cases hput : putW D.wid as o x.atoms with
          | none => rw [hput] at hf; cases hf
          | some cs =>
            rw [hput] at hf
            have hc := V.Is_cells hx
            obtain ⟨h1, h2⟩ := putW_ok hl hc hput
            have hz := Nat.eq_of_beq_eq_true hb
            rw [← cellsL_len hc] at hz
            have hz' : v.cells.size = z := by simpa using hz
            obtain ⟨m, h3, h4⟩ := fillW_ok (ps := ps) h2 hf (by simpa using hlen) (fun j i' x' hj => by
              obtain ⟨u, h5, h6⟩ := hv (j + 1) i' x' (by simpa using hj)
              exact ⟨u, by simpa using h5, h6⟩)
            refine ⟨m, h3, ?_⟩
            simp only [Instr.fill, hpl]
            rw [if_neg (by simp [hz']; simp at h1; omega)]
            rw [← h4]
            congr 1
            rw [← Array.foldl_toList]
            have := foldl_put v.cells.toList 0 o l (by simpa using h1)
            simpa using this

theorem sliceB_ok {isSlice : Bool} {len cap : Nat} {lo hi : Option Nat} {lv hv : Option Value} (hl : BoundIs lo lv) (hh : BoundIs hi hv) (h1 : lo.getD 0 ≤ hi.getD len) (h2 : hi.getD len ≤ cap) (w : World) :
    (Instr.sliceBounds isSlice len cap lv hv none).run P w = .ok (lo.getD 0, hi.getD len, cap) w := by
  have hb : ∀ (k : IntKind) (i y : Nat) (c : BoundsCode), i ≤ y → (Instr.sliceBound (.int k (i : Int)) y c).run P w = .ok i w := fun k i y c h => by
    simp [Instr.sliceBound, asIntOf, h]
  cases lo with
  | none =>
    have hl : lv = none := hl
    subst hl
    cases hi with
    | none =>
      have hh : hv = none := hh
      subst hh
      simp [Instr.sliceBounds]
    | some i =>
      obtain ⟨k, rfl⟩ := hh
      have h2 : i ≤ cap := h2
      simp [Instr.sliceBounds, hb _ _ _ _ h2]
  | some j =>
    obtain ⟨k', rfl⟩ := hl
    cases hi with
    | none =>
      have hh : hv = none := hh
      subst hh
      have h1 : j ≤ len := h1
      simp [Instr.sliceBounds, hb _ _ _ _ h1]
    | some i =>
      obtain ⟨k, rfl⟩ := hh
      have h2 : i ≤ cap := h2
      have h1 : j ≤ i := h1
      simp [Instr.sliceBounds, hb _ _ _ _ h2, hb _ _ _ _ h1]

/-- a part of what is held -/
theorem After.alias {u i : Nat} {v v' : Value} {e' : E} (hk : σ.hld (32 * u + 16) = none) (hu : σ.blk u = none) (hv : σ.hld i = some v) (hh : D.hold e' v' w) (hown : ∀ g, v'.ownBlock = some g → v.ownBlock = some g) :
    After D u ⟨some (.dt (.one (.held (32 * u + 16)))), none, [(32 * u + 16, e')], none⟩ σ w (σ.setH (32 * u + 16) v' (D.hone _ _ _ hh)) w v' where
  le := ⟨fun _ _ x => x, fun k x hx => by
    have : k ≠ 32 * u + 16 := fun e => by subst e; rw [hk] at hx; cases hx
    simp [Env.setH, this, hx]⟩
  onlyB := fun _ _ => rfl
  onlyH := fun k hk' => by
    have : k ≠ 32 * u + 16 := by omega
    simp [Env.setH, this]
  newB := fun g hg => by rw [show (σ.setH (32 * u + 16) v' (D.hone _ _ _ hh)).blk u = σ.blk u from rfl, hu] at hg; cases hg
  newH := fun k x g h1 h2 h3 => by
    by_cases e : k = 32 * u + 16
    · subst e
      simp [Env.setH] at h1; subst h1
      exact ⟨D.hlt _ _ _ _ hh h3, (by rw [show (σ.setH (32 * u + 16) v' (D.hone _ _ _ hh)).blk u = σ.blk u from rfl, hu]; intro h; cases h), .inr ⟨by omega, i, v, hv, hown g h3⟩⟩
    · simp [Env.setH, e] at h1
      rw [h1] at h2; cases h2
  val := fun y hy => by injection hy with hy; subst hy; simp [T.Is, V.Is, Atom.cells, Env.setH]
  blk := fun _ _ h => by cases h
  hld := fun k x h => by
    simp at h
    obtain ⟨rfl, rfl⟩ := h
    exact ⟨v', by simp [Env.setH], hh⟩
  world := Below.refl _ _

/-- a new row -/
theorem After.newS {u : Nat} {ty : TypeId} {as : List Atom} {l : List Value} {len : Nat} (hl : cellsL D σ as = some l) (hu : σ.blk u = none) :
    After D u ⟨some (.dt (.one (.slc u 0 len len))), some (ty, as), [], none⟩ σ w (σ.setB u w.heap.size) (w.alloc (.cells l.toArray ty)) (.slice (some ⟨w.heap.size, 0, none⟩) len len) :=
  have h := After.new (D := D) (w := w) (ty := ty) hl hu
  { le := h.le, onlyB := h.onlyB, onlyH := h.onlyH, newB := h.newB, newH := h.newH, val := fun y hy => (by injection hy with hy; subst hy; simp [T.Is, V.Is, Atom.cells, Env.setB]), blk := h.blk, hld := h.hld, world := h.world }

theorem run_buildSlice {t e : TypeId} {len : Nat} {ps : Array (Nat × Value)} {zv : Value} {i : TypeInfo} {m : List Value} (hun : P.underlying t = some (.slice e)) (hz : szOf P e = some 1) (h2 : P.info? e = some i) (h3 : i.zero = some zv) (hzv : zv.cells = #[zv])
    (hle : len ≤ 1024) (hf : Instr.fill (fun i => some (i * 1, 1)) (List.replicate len zv).toArray ps.toList = some m.toArray) :
    (Instr.buildSlice t len ps).run P w = .ok (.slice (some ⟨w.heap.size, 0, none⟩) len len) (w.alloc (.cells m.toArray e)) := by
  have hlim : ¬ len * 1 > 2 ^ 24 := by omega
  have hzr : (zeroValue e).run P w = .ok zv w := by simp [zeroValue, typeInfo, h2, h3]
  have hnr : (newRow e m.toArray).run P w = .ok ⟨w.heap.size, 0, none⟩ (w.alloc (.cells m.toArray e)) := by simp [newRow]
  by_cases h0 : len = 0
  · subst h0
    have hrow : (Array.range (0 * 1)).map (fun k => (#[] : Array Value)[k % (#[] : Array Value).size]!) = (List.replicate 0 zv).toArray := by simp
    simp only [Instr.buildSlice, Sem.run_bind, run_underlying hun, Result.andThen_ok, run_sizeOf hz, if_neg hlim, Sem.run_pure, Nat.zero_mul, if_true]
    simp only [Nat.zero_mul] at hrow
    rw [hrow, hf]
    simp only [Sem.run_bind, hnr, Result.andThen_ok, Sem.run_pure]
  · have h0' : ¬ len * 1 = 0 := by omega
    have hrow : (Array.range (len * 1)).map (fun k => (#[zv] : Array Value)[k % (#[zv] : Array Value).size]!) = (List.replicate len zv).toArray := by
      apply Array.ext
      · simp
      · intro k hk1 hk2
        simp [Nat.mod_one]
    simp only [Instr.buildSlice, Sem.run_bind, run_underlying hun, Result.andThen_ok, run_sizeOf hz, if_neg hlim, Sem.run_pure, if_neg h0', hzr, hzv]
    rw [hrow, hf]
    simp only [Sem.run_bind, hnr, Result.andThen_ok, Sem.run_pure]

theorem step_ok (R : Right P D I tab) (hI : I w) (h : Ok D k0 n F w0 s σ a w) {u : Nat} (hu : σ.blk u = none) (hh : ∀ i, 32 * u ≤ i → i < 32 * u + 32 → σ.hld i = none)
    {o : Oper} {f : Eff} (hs : step P tab s u o.op = some f) {K : Act → World → Prop} {Q : Exit → Act → World → Prop}
    (hK : ∀ σ' w' v, After D u f σ w σ' w' v → K (a.put o.dst v) w') : o.wp P a w K Q := by
  obtain ⟨dst, op, type, pos, after, guard⟩ := o
  dsimp only at hs hK
  have hw := R.wid
  cases op with
  | move x =>
    obtain ⟨t, h1, rfl⟩ := pureT_some hs
    exact wp_val (v := a.eval x) rfl (hK _ _ _ (After.pure (opnd_ok h h1) hu))
  | assign x =>
    obtain ⟨t, h1, rfl⟩ := pureT_some hs
    exact wp_val (v := a.eval x) rfl (hK _ _ _ (After.pure (opnd_ok h h1) hu))
  | pick c x y =>
    simp only [step] at hs
    cases hb : boolOf (opnd s c) with
    | none => rw [hb] at hs; cases hs
    | some b =>
      rw [hb] at hs
      have he := boolOf_ok h hb
      cases b with
      | true =>
        obtain ⟨t, h1, rfl⟩ := pureT_some hs
        exact wp_val (v := a.eval x) (by simp [execOp, he, asBool]) (hK _ _ _ (After.pure (opnd_ok h h1) hu))
      | false =>
        obtain ⟨t, h1, rfl⟩ := pureT_some hs
        exact wp_val (v := a.eval y) (by simp [execOp, he, asBool]) (hK _ _ _ (After.pure (opnd_ok h h1) hu))
  | alloc ty =>
    simp only [step] at hs
    cases hz : zeroOf P ty with
    | none => rw [hz] at hs; cases hs
    | some x =>
      rw [hz] at hs
      injection hs with hs; subst hs
      obtain ⟨v, i, h1, h2, h3⟩ := zeroOf_ok (D := D) (σ := σ) hz
      have := After.new (D := D) (w := w) (ty := ty) (V.Is_cells h3) hu
      refine wp_val ?_ (hK _ _ _ this)
      simp [execOp, Instr.alloc, zeroValue, typeInfo, h1, h2, run_newVar]
  | box ty x =>
    simp only [step] at hs
    split at hs
    · rename_i y hy
      injection hs with hs; subst hs
      have := After.new (D := D) (w := w) (ty := ty) (V.Is_cells (opnd_ok h hy)) hu
      refine wp_val ?_ (hK _ _ _ this)
      simp [execOp, Instr.box, run_newVar]
    · cases hs
  | load ty x =>
    simp only [step] at hs
    cases hp : ptrOf (opnd s x) with
    | none =>
      rw [hp] at hs
      dsimp only at hs
      cases hgl : glOf (opnd s x) with
      | none =>
        rw [hgl] at hs
        dsimp only at hs
        split at hs
        · rename_i i j hhp
          split at hs
          · rename_i e he ha
            obtain ⟨y, h1, rfl⟩ := pureV_some hs
            obtain ⟨v, hv, hh⟩ := h.hs i e he
            obtain ⟨g, o, m, c, z, rfl, hjm, hcell, hi⟩ := R.idx e j y h1 σ v w hh
            have hp2 := hpOf_ok h hhp hv
            refine wp_val ?_ (hK _ _ _ (After.pure (x := .dt y) hi hu))
            simp [execOp, Instr.loadAt, Instr.sureAddr, hp2, run_loadVar_oneC hcell ha]
          · cases hs
        · cases hs
      | some g =>
        rw [hgl] at hs
        dsimp only at hs
        cases hta : tab.glob g with
        | none => rw [hta] at hs; cases hs
        | some as =>
          rw [hta] at hs
          obtain ⟨y, h1, rfl⟩ := pureV_some hs
          obtain ⟨l, hl, hc⟩ := R.glob g as hta
          have he := glOf_ok h hgl
          obtain ⟨v, hv, hi⟩ := partOf_loadC (P := P) hw h1 (cellsL_mono σ.empty_le hl) (hc w hI)
          refine wp_val ?_ (hK _ _ _ (After.pure (x := .dt y) hi hu))
          simp [execOp, Instr.loadAt, Instr.sureAddr, he, hv]
    | some bo =>
      obtain ⟨b, o⟩ := bo
      rw [hp] at hs
      dsimp only at hs
      cases hm : find s.mem b with
      | none => rw [hm] at hs; cases hs
      | some q =>
        obtain ⟨mt, as⟩ := q
        rw [hm] at hs
        obtain ⟨y, h1, rfl⟩ := pureV_some hs
        obtain ⟨g, hg, he⟩ := ptrOf_ok h hp
        obtain ⟨g', l, hg', hl, hr⟩ := h.mem b mt as hm
        rw [hg] at hg'; injection hg' with hg'; subst hg'
        obtain ⟨v, hv, hi⟩ := partOf_load hw h1 hl hr
        refine wp_val ?_ (hK _ _ _ (After.pure (x := .dt y) hi hu))
        simp [execOp, Instr.loadAt, Instr.sureAddr, he, hv]
  | store ty x y =>
    simp only [step] at hs
    split at hs
    · rename_i b o v hp hv
      split at hs
      · rename_i mt as m hm hn
        split at hs
        · rename_i bs hb hput
          injection hs with hs; subst hs
          obtain ⟨g, hg, he⟩ := ptrOf_ok h hp
          obtain ⟨g', l, hg', hl, hr⟩ := h.mem b mt as hm
          rw [hg] at hg'; injection hg' with hg'; subst hg'
          have hi := opnd_ok h hv
          have hc := V.Is_cells hi
          rw [hw] at hb hput
          obtain ⟨h1, h2⟩ := putW_ok hl hc hput
          have hz := Nat.eq_of_beq_eq_true hb
          rw [← cellsL_len hc] at hz
          have hz' : (a.eval y).cells.size = m := by simpa using hz
          have hrun := run_storeVar_part (P := P) (o := o) hr hn hz' (cellsL_one hc) (by simp at h1; omega)
          rw [hz] at h2
          refine wp_unit (w' := w.setRow g (l.take o ++ ((a.eval y).cells.toList ++ l.drop (o + m))).toArray) ?_ (hK σ _ _ ?_)
          · simp [execOp, Instr.storeAt, Instr.sureAddr, he]
            rw [hrun]
            rfl
          · exact { le := σ.le_refl, onlyB := fun _ _ => rfl, onlyH := fun _ _ => rfl, newB := fun g hg => (by rw [hu] at hg; cases hg), newH := fun i v g h1 h2 _ => (by rw [h1] at h2; cases h2), val := fun _ h => (by cases h), blk := fun _ _ h => (by cases h), hld := fun _ _ h => (by cases h), world := ⟨g, _, l.toArray, hg, h2, hr, rfl⟩ }
        · cases hs
      · cases hs
    · cases hs
  | fieldAddr ty x fi =>
    simp only [step] at hs
    split at hs
    · rename_i b o fs hp hun
      split at hs
      · rename_i fd hfd
        split at hs
        · rename_i z hz
          injection hs with hs; subst hs
          obtain ⟨g, hg, he⟩ := ptrOf_ok h hp
          refine wp_val (v := .pointer (some ⟨g, o + fd.offset, none⟩)) ?_ (hK _ _ _ (After.pure ?_ hu))
          · simp [execOp, Instr.fieldAt, run_underlying hun, hfd, Instr.sureAddr, he, fieldPlace, run_sizeOf hz, addr_add]
          · simp [T.Is, V.Is, Atom.cells, hg]
        · cases hs
      · cases hs
    · cases hs
  | indexAddr ty x ix =>
    simp only [step] at hs
    split at hs
    · rename_i b o i m e hp hn hun
      split at hs
      · rename_i z hlt hz
        injection hs with hs; subst hs
        obtain ⟨g, hg, he⟩ := ptrOf_ok h hp
        obtain ⟨k, hk⟩ := natOf_ok h hn
        have hlt' : i < m := by have := Nat.le_of_ble_eq_true hlt; omega
        refine wp_val (v := .pointer (some ⟨g, o + i * z, none⟩)) ?_ (hK _ _ _ (After.pure ?_ hu))
        · simp [execOp, Instr.indexAt, run_underlying hun, hk, asIntOf, Instr.sureAddr, he, run_sizeOf hz, addr_add, hlt']
        · simp [T.Is, V.Is, Atom.cells, hg]
      · cases hs
    · rename_i j el hp hn hun
      split at hs
      · rename_i b o m c hx
        split at hs
        · rename_i hlt hz
          injection hs with hs; subst hs
          obtain ⟨k, hk⟩ := natOf_ok h hn
          have hlt' : j < m := Nat.le_of_ble_eq_true hlt
          have hi := opnd_ok h hx
          simp only [T.Is, V.Is, Atom.cells] at hi
          cases hbk : σ.blk b with
          | none => rw [hbk] at hi; cases hi
          | some g =>
            rw [hbk] at hi
            injection hi with hi; injection hi with hi
            refine wp_val (v := .pointer (some ⟨g, o + j, none⟩)) ?_ (hK _ _ _ (After.pure ?_ hu))
            · simp [execOp, Instr.indexAt, run_underlying hun, hk, asIntOf, ← hi, run_sizeOf hz, addr_add, hlt']
            · simp [T.Is, V.Is, Atom.cells, hbk]
        · cases hs
      · split at hs
        · rename_i i hhi
          split at hs
          · rename_i e he hz
            split at hs
            · rename_i y hy
              injection hs with hs; subst hs
              obtain ⟨hv, hh⟩ := heldOf_ok h hhi he
              obtain ⟨g, o, m, c, z, hsl, hjm, hcell, hi⟩ := R.idx e j y hy σ _ w hh
              obtain ⟨k, hk⟩ := natOf_ok h hn
              have hjI : (j : Int) < m := by omega
              refine wp_val (v := .pointer (some ⟨g, o + j, none⟩)) ?_ (hK _ _ _ (After.pure ?_ hu))
              · simp [execOp, Instr.indexAt, run_underlying hun, hk, asIntOf, hsl, run_sizeOf hz, addr_add, hjm]
              · rw [hsl] at hv
                simp [T.Is, V.Is, Atom.cells, hv, addr_add]
            · cases hs
          · cases hs
        · cases hs
    · cases hs
  | field ty x fi =>
    simp only [step] at hs
    split at hs
    · rename_i as fs ho hun
      split at hs
      · rename_i fd hfd
        obtain ⟨y, h1, rfl⟩ := pureV_some hs
        obtain ⟨l, hl, he⟩ := opnd_ok h ho
        obtain ⟨v, hv, hi⟩ := partOf_part (P := P) (w := w) hw h1 hl
        refine wp_val ?_ (hK _ _ _ (After.pure (x := .dt y) hi hu))
        simp [execOp, Instr.field, run_underlying hun, hfd, he, asAgg, hv]
      · cases hs
    · cases hs
  | index ty x ix =>
    simp only [step] at hs
    split at hs
    · rename_i as i m e ho hn hun
      split at hs
      · rename_i z hlt hz
        obtain ⟨y, h1, rfl⟩ := pureV_some hs
        obtain ⟨l, hl, he⟩ := opnd_ok h ho
        obtain ⟨k, hk⟩ := natOf_ok h hn
        have hlt' : i < m := by have := Nat.le_of_ble_eq_true hlt; omega
        obtain ⟨v, hv, hi⟩ := partOf_part (P := P) (w := w) hw h1 hl
        refine wp_val ?_ (hK _ _ _ (After.pure (x := .dt y) hi hu))
        simp [execOp, Instr.index, run_underlying hun, he, hk, asIntOf, run_sizeOf hz, hlt', hv]
      · cases hs
    · cases hs
  | extract x i =>
    simp only [step] at hs
    split at hs
    · rename_i xs ho
      obtain ⟨y, h1, rfl⟩ := pureV_some hs
      obtain ⟨vs, he, hl⟩ := opnd_ok h ho
      obtain ⟨v, hv, hi⟩ := IsL_get hl h1
      refine wp_val ?_ (hK _ _ _ (After.pure (x := .dt y) hi hu))
      simp [execOp, Instr.extract, he, hv]
    · cases hs
  | build t ps =>
    simp only [step] at hs
    split at hs
    · rename_i z vs pl hz hv hpl
      split at hs
      · rename_i bs hf
        obtain ⟨y, h1, rfl⟩ := pureV_some hs
        injection h1 with h1; subst h1
        obtain ⟨zv, i, h2, h3, h4⟩ := zeroOf_ok (D := D) (σ := σ) hz
        obtain ⟨l, hl, rfl⟩ := h4
        obtain ⟨h5, h6⟩ := vsOf_ok h hv
        rw [hw] at hf
        obtain ⟨m, h7, h8⟩ := fillW_ok (place := pl) (ps := ps.toList.map fun (i, x) => (i, a.eval x)) hl hf (by simpa using h5) (fun j i x hj => by
          obtain ⟨y, h9, h10⟩ := h6 j i x hj
          exact ⟨a.eval y, by simp [h9], h10⟩)
        refine wp_val (v := .agg m.toArray) ?_ (hK _ _ _ (After.pure ⟨m, h7, rfl⟩ hu))
        have hb : P.built t (ps.map fun (i, x) => (i, a.eval x)).toList = some m.toArray := by
          unfold Program.built placesOf at *
          rw [h2]
          cases hun : P.underlying t with
          | none => rw [hun] at hpl; cases hpl
          | some d =>
            rw [hun] at hpl
            cases d <;> try (cases hpl; done)
            · dsimp only at hpl ⊢
              rename_i len e
              cases hie : P.info? e with
              | none => rw [hie] at hpl; cases hpl
              | some ie =>
                rw [hie] at hpl
                injection hpl with hpl; subst hpl
                simp only [h3, Value.cells]
                simpa using h8
            · dsimp only at hpl ⊢
              rename_i fs
              split at hpl
              · rename_i places hpp
                injection hpl with hpl; subst hpl
                simp only [h3, hpp, Value.cells]
                simpa using h8
              · cases hpl
        simp only [execOp, Sem.run_bind, run_build w t _ _ hb, Result.andThen_ok, Sem.run_pure]
      · cases hs
    · cases hs
  | binOp bop ty x y yt =>
    simp only [step] at hs
    split at hs
    · rename_i p q h1 h2
      obtain ⟨z, h3, rfl⟩ := pureV_some hs
      obtain ⟨v, hv, hi⟩ := R.bin _ _ _ _ _ h3 σ _ _ (opnd_ok h h1) (opnd_ok h h2) x y w
      refine wp_val ?_ (hK _ _ _ (After.pure (x := .dt z) hi hu))
      simp only [execOp, Sem.run_bind] at hv ⊢
      rw [hv]
      rfl
    · cases hs
  | unOp uop ty x =>
    simp only [step] at hs
    split at hs
    · rename_i p h1
      obtain ⟨z, h3, rfl⟩ := pureV_some hs
      obtain ⟨v, hv, hi⟩ := R.un _ _ _ h3 σ _ (opnd_ok h h1) w
      refine wp_val ?_ (hK _ _ _ (After.pure (x := .dt z) hi hu))
      simp only [execOp, Sem.run_bind]
      rw [hv]
      rfl
    · cases hs
  | slice ty x lo hi mx =>
    cases mx with
    | some _ => simp only [step] at hs; cases hs
    | none =>
      simp only [step] at hs
      split at hs
      · rename_i l hh' hlo hhi
        have blo := natOpt_ok h hlo
        have bhi := natOpt_ok h hhi
        split at hs
        · rename_i b o m e hx hun
          split at hs
          · rename_i hz hle1 hle2 hlt
            injection hs with hs; subst hs
            obtain ⟨g, hg, he⟩ := ptrOf_ok (b := b) (o := o) h (by rw [hx]; rfl)
            have hb := sliceB_ok (P := P) (isSlice := false) (len := m) (cap := m) blo bhi (Nat.le_of_ble_eq_true hle1) (Nat.le_of_ble_eq_true hle2) w
            have hne : ¬ m = l.getD 0 := by have := Nat.le_of_ble_eq_true hlt; omega
            refine wp_val (v := .slice (some ⟨g, o + l.getD 0, none⟩) (hh'.getD m - l.getD 0) (m - l.getD 0)) ?_ (hK _ _ _ (After.pure ?_ hu))
            · simp only [execOp, Instr.sliceAt, Sem.run_bind, run_underlying hun, Result.andThen_ok, Instr.sureAddr, he, Sem.run_pure, Option.map_none, hb, run_sizeOf hz, addr_add, Nat.mul_one, if_neg hne]
            · simp [T.Is, V.Is, Atom.cells, hg]
          · cases hs
        · rename_i b o m c e hx hun
          split at hs
          · rename_i hz hle1 hle2 hlt
            injection hs with hs; subst hs
            have hi := opnd_ok h hx
            simp only [T.Is, V.Is, Atom.cells] at hi
            cases hbk : σ.blk b with
            | none => rw [hbk] at hi; cases hi
            | some g =>
              rw [hbk] at hi
              injection hi with hi; injection hi with hi
              have hb := sliceB_ok (P := P) (isSlice := true) (len := m) (cap := c) blo bhi (Nat.le_of_ble_eq_true hle1) (Nat.le_of_ble_eq_true hle2) w
              have hne : ¬ c = l.getD 0 := by have := Nat.le_of_ble_eq_true hlt; omega
              refine wp_val (v := .slice (some ⟨g, o + l.getD 0, none⟩) (hh'.getD m - l.getD 0) (c - l.getD 0)) ?_ (hK _ _ _ (After.pure ?_ hu))
              · simp only [execOp, Instr.sliceAt, Instr.slice, Sem.run_bind, run_underlying hun, Result.andThen_ok, ← hi, Sem.run_pure, Option.map_none, hb, run_sizeOf hz, addr_add, Nat.mul_one, if_neg hne, Option.map_some]
              · simp [T.Is, V.Is, Atom.cells, hbk]
          · cases hs
        · rename_i i e hx hun
          split at hs
          · rename_i c hz hf
            split at hs
            · rename_i d hd
              injection hs with hs; subst hs
              obtain ⟨v, hv, hho⟩ := h.hs i c hf
              have hi := opnd_ok h hx
              simp only [T.Is, V.Is, Atom.cells, hv] at hi
              injection hi with hi; injection hi with hi
              obtain ⟨v', hrun, hh2, hown⟩ := R.slc _ _ _ _ hd ty e hun hz v w _ _ hho blo bhi
              refine wp_val (v := v') (w' := w) ?_ (hK (σ.setH (32 * u + 16) v' (D.hone _ _ _ hh2)) _ _ ?_)
              · simp only [execOp, ← hi, Sem.run_bind, Option.map_none, hrun, Result.andThen_ok, Sem.run_pure]
              · exact After.alias (hh _ (by omega) (by omega)) hu hv hh2 hown
            · cases hs
          · cases hs
        · cases hs
      · cases hs
  | convert sT dT x =>
    simp only [step] at hs
    split at hs
    · rename_i p h1
      obtain ⟨z, h3, rfl⟩ := pureV_some hs
      obtain ⟨v, hv, hi⟩ := R.cnv _ _ _ _ h3 σ _ (opnd_ok h h1) w
      refine wp_val ?_ (hK _ _ _ (After.pure (x := .dt z) hi hu))
      simp only [execOp, Sem.run_bind]
      rw [hv]
      rfl
    · cases hs
  | buildSlice t len ps =>
    simp only [step] at hs
    split at hs
    · rename_i e vs hun hv
      split at hs
      · rename_i z hz hzero hlen
        split at hs
        · rename_i bs hf
          injection hs with hs; subst hs
          obtain ⟨zv, i, h2, h3, h4⟩ := zeroOf_ok (D := D) (σ := σ) hzero
          obtain ⟨h5, h6⟩ := vsOf_ok h hv
          rw [hw] at hf
          have hzc : ∀ k, cellsL D σ (List.replicate k z) = some (List.replicate k zv) := fun k => by
            induction k with
            | zero => rfl
            | succ k ih => exact cellsL_mk (x := [zv]) h4 ih
          obtain ⟨m, h7, h8⟩ := fillW_ok (place := fun i => some (i * 1, 1)) (ps := ps.toList.map fun (i, x) => (i, a.eval x)) (hzc len) hf (by simpa using h5) (fun j i x hj => by
            obtain ⟨y, h9, h10⟩ := h6 j i x hj
            exact ⟨a.eval y, by simp [h9], h10⟩)
          have hle := Nat.le_of_ble_eq_true hlen
          have hzv : zv.cells = #[zv] := by
            have h1 := Atom.cells_one h4 zv (by simp)
            cases zv <;> first | rfl | (simp [Value.oneCell'] at h1)
          have := After.newS (D := D) (w := w) (ty := e) (len := len) h7 hu
          refine wp_val ?_ (hK _ _ _ this)
          have e1 : (List.map (fun x : Nat × Operand => match x with | (i, x) => (i, a.eval x)) ps.toList) = (ps.map fun x : Nat × Operand => match x with | (i, x) => (i, a.eval x)).toList := by simp
          rw [e1] at h8
          simp only [execOp, Sem.run_bind, run_buildSlice hun hz h2 h3 hzv hle h8, Result.andThen_ok, Sem.run_pure]
        · cases hs
      · cases hs
    · cases hs
  | call c =>
    obtain ⟨callee, args, ats⟩ := c
    simp only [step] at hs
    split at hs
    · rename_i cx fid
      split at hs
      · rename_i cs hcs
        split at hs
        · rename_i r hr
          obtain ⟨hg, hcalls⟩ := R.ctr _ _ _ hr
          rw [hw] at hcs
          have hargs := argsOf_ok h hcs
          have := hcalls σ w _ hargs hI
          unfold Oper.wp
          have he : execOp a.eval { dst, op := .call { callee := .value (.func fid), args, argTypes := ats }, type, pos, after, guard } = callFunc fid (#[] ++ args.map a.eval ++ #[]) := rfl
          rw [he, run_callGo hg]
          show Calls P fid _ w _
          have e2 : (#[] ++ args.map a.eval ++ #[] : Array Value) = (args.toList.map a.eval).toArray := by cases args; simp
          rw [e2]
          refine this.mono fun e w' he => ?_
          obtain ⟨v, rfl, hb, hi⟩ := he
          obtain ⟨σ', hA⟩ := effOf_ok hs hi hb hu hh
          exact hK σ' w' v hA
        · cases hs
      · cases hs
    · rename_i cx
      split at hs
      · rename_i x t hx ht
        have hargs : args = #[x] := by cases args; simp_all
        subst hargs
        split at hs
        · rename_i e hun
          split at hs
          · rename_i ca hca
            obtain ⟨z, h3, rfl⟩ := pureV_some hs
            rw [hw] at hca
            obtain ⟨A, m, cp, hv, hi⟩ := R.len _ _ h3 σ w _ (argOf_ok h hca)
            refine wp_val ?_ (hK _ _ _ (After.pure (x := .dt z) hi hu))
            have : ats[0]? = some t := by simpa using ht
            simp [execOp, resolve, invoke, builtin, Builtin.len_, this, run_underlying hun, hv, goInt]
          · cases hs
        · rename_i m e hun
          obtain ⟨z, h3, rfl⟩ := pureV_some hs
          injection h3 with h3; subst h3
          refine wp_val (v := .int .i64 m) ?_ (hK _ _ _ (After.pure ?_ hu))
          · have : ats[0]? = some t := by simpa using ht
            simp [execOp, resolve, invoke, builtin, Builtin.len_, this, run_underlying hun, goInt]
          · rfl
        · cases hs
      · cases hs
    · rename_i cx
      split at hs
      · rename_i x y t hx ht
        have hargs : args = #[x, y] := by cases args; simp_all
        subst hargs
        split at hs
        · rename_i e b o m c b' o' m' c' hun hox hoy
          split at hs
          · rename_i mt as mt' as' hz hm hm'
            split at hs
            · rename_i xs hsub
              split at hs
              · rename_i bs hput
                injection hs with hs; subst hs
                rw [hw] at hsub hput
                obtain ⟨g, l, hg, hl, hrow⟩ := h.mem b mt as hm
                obtain ⟨g', l', hg', hl', hrow'⟩ := h.mem b' mt' as' hm'
                obtain ⟨h1, h2⟩ := subW_ok hl' hsub
                obtain ⟨h3, h4⟩ := putW_ok hl h2 hput
                have hx2 := opnd_ok h hox
                have hy2 := opnd_ok h hoy
                simp only [T.Is, V.Is, Atom.cells, hg] at hx2
                simp only [T.Is, V.Is, Atom.cells, hg'] at hy2
                injection hx2 with hx2; injection hx2 with hx2
                injection hy2 with hy2; injection hy2 with hy2
                have hlen : ((l'.drop o').take (Nat.min m' m)).length = Nat.min m' m := by rw [List.length_take, List.length_drop]; omega
                have hz' : (P.info? e).map (·.size) = some 1 := by
                  unfold szOf at hz
                  cases hq : P.info? e with
                  | none => rw [hq] at hz; cases hz
                  | some i => rw [hq] at hz; injection hz with hz; simp [hz]
                have hsrc : ∀ j v, ((l'.drop o').take (Nat.min m' m))[j]? = some v → w.cell? ((⟨g', o', none⟩ : Addr).add j) = some v := fun j v hv => by
                  rw [addr_add, cell_of_row w g' (o' + j) l'.toArray mt' (0, 0) hrow']
                  rw [List.getElem?_take, List.getElem?_drop] at hv
                  split at hv
                  · simpa using hv
                  · cases hv
                have hrun := run_copy_row (P := P) w t (ats.getD 1 0) type e g o m c ⟨g', o', none⟩ m' c' l.toArray mt ((l'.drop o').take (Nat.min m' m)) hun hz' hrow hlen hsrc (by simpa using h3) (cellsL_one h2)
                rw [hlen] at hrun
                rw [hlen] at h4
                have hcopy : ∀ at1 at2 : Array TypeId, at1[0]? = at2[0]? → Builtin.copy_ at1 type = Builtin.copy_ at2 type := fun at1 at2 he => by
                  funext args
                  simp only [Builtin.copy_, he]
                rw [hcopy #[t, ats.getD 1 0] ats (by simpa using ht.symm)] at hrun
                refine wp_val (v := goInt (Nat.min m' m : Nat)) (w' := w.setRow g (l.take o ++ ((l'.drop o').take (Nat.min m' m) ++ l.drop (o + Nat.min m' m))).toArray) ?_ (hK σ _ _ ?_)
                · simp only [execOp, resolve, invoke, builtin, Sem.run_bind, Sem.run_pure, Result.andThen_ok, List.map_toArray, List.map_cons, List.map_nil, ← hx2, ← hy2]
                  simp only [List.append_assoc] at hrun
                  rw [hrun]
                  rfl
                · exact { le := σ.le_refl, onlyB := fun _ _ => rfl, onlyH := fun _ _ => rfl, newB := fun g hg => (by rw [hu] at hg; cases hg), newH := fun i v g h1 h2 _ => (by rw [h1] at h2; cases h2), val := fun q hq => (by injection hq with hq; subst hq; rfl), blk := fun _ _ h => (by cases h), hld := fun _ _ h => (by cases h), world := ⟨g, _, l.toArray, hg, h4, hrow, rfl⟩ }
              · cases hs
            · cases hs
          · cases hs
        · cases hs
      · cases hs
    · rename_i cx
      split at hs
      · rename_i x y t t' hx ht
        have hargs : args = #[x, y] := by cases args; simp_all
        have hats : ats = #[t, t'] := by cases ats; simp_all
        subst hargs hats
        split at hs
        · rename_i el i j htt hun hi hj
          have e := Nat.eq_of_beq_eq_true htt
          subst e
          split at hs
          · rename_i e1 e2 h1 h2
            split at hs
            · rename_i e3 h3
              obtain ⟨_, hh1⟩ := heldOf_ok h hi h1
              obtain ⟨_, hh2⟩ := heldOf_ok h hj h2
              obtain ⟨v, w', hrun, hb, hh3, hnew⟩ := R.app el e1 e2 e3 h3 t type w _ _ hun hh1 hh2
              obtain ⟨σ', hA⟩ := effOf_ok hs (show (Res.one (.h e3)).Is D w.heap.size w' v from ⟨hh3, hnew⟩) hb hu hh
              refine wp_val (v := v) (w' := w') ?_ (hK σ' w' v hA)
              simp only [execOp, resolve, invoke, builtin, Sem.run_bind, Sem.run_pure, Result.andThen_ok, List.map_toArray, List.map_cons, List.map_nil, hrun]
            · cases hs
          · cases hs
        · cases hs
      · cases hs
    · cases hs
  | _ => simp [step] at hs
end
end Go.Proofs.YtdconlmpjehohaaDoor.Sx

/- A symbolic run of straight code, part 5: regions. Conditions: those of each theorem. -/
namespace Go.Proofs.YtdconlmpjehohaaDoor.Sx
open Go.RowKit
set_option linter.unusedVariables false

def rem {α : Type} (n : Nat) : List (Nat × α) → List (Nat × α)
  | [] => []
  | (k, x) :: r => match Nat.beq k n with
    | true => rem n r
    | false => (k, x) :: rem n r

theorem find_rem {α : Type} {n t : Nat} {y : α} : ∀ {l : List (Nat × α)}, find (rem n l) t = some y → t ≠ n ∧ find l t = some y
  | [], h => by cases h
  | (k, x) :: r, h => by
    simp only [rem] at h
    cases hb : Nat.beq k n with
    | true =>
      rw [hb] at h
      obtain ⟨h1, h2⟩ := find_rem h
      refine ⟨h1, ?_⟩
      have e := Nat.eq_of_beq_eq_true hb
      subst e
      simp only [find]
      cases hc : Nat.beq k t with
      | true => exact absurd (Nat.eq_of_beq_eq_true hc).symm h1
      | false => exact h2
    | false =>
      rw [hb] at h
      rcases find_cons h with ⟨h1, h2⟩ | ⟨h1, h2⟩
      · subst h1 h2
        exact ⟨Nat.ne_of_beq_eq_false hb, by simp [find]⟩
      · obtain ⟨h3, h4⟩ := find_rem h2
        refine ⟨h3, ?_⟩
        simp only [find]
        cases hc : Nat.beq k t with
        | true => exact absurd (Nat.eq_of_beq_eq_true hc) h1
        | false => exact h4

theorem find_rem_of {α : Type} {n t : Nat} {y : α} : ∀ {l : List (Nat × α)}, find l t = some y → t ≠ n → find (rem n l) t = some y
  | [], h, _ => by cases h
  | (k, x) :: r, h, hn => by
    simp only [rem]
    cases hb : Nat.beq k n with
    | true =>
      have e := Nat.eq_of_beq_eq_true hb
      rcases find_cons h with ⟨h1, h2⟩ | ⟨h1, h2⟩
      · exact absurd (h1.symm.trans e) hn
      · exact find_rem_of h2 hn
    | false =>
      rcases find_cons h with ⟨h1, h2⟩ | ⟨h1, h2⟩
      · subst h1 h2; simp [find]
      · have := find_rem_of h2 hn
        simp only [find]
        cases hc : Nat.beq k t with
        | true => exact absurd (Nat.eq_of_beq_eq_true hc) h1
        | false => exact this

theorem find_append {α : Type} {t : Nat} {y : α} : ∀ {l m : List (Nat × α)}, find (l ++ m) t = some y → (t, y) ∈ l ∨ find m t = some y
  | [], m, h => .inr h
  | (k, x) :: r, m, h => by
    rcases find_cons h with ⟨h1, h2⟩ | ⟨h1, h2⟩
    · subst h1 h2; exact .inl (by simp)
    · rcases find_append h2 with h3 | h3
      · exact .inl (List.mem_cons_of_mem _ h3)
      · exact .inr h3

def Eff.nil : Eff := ⟨none, none, [], none⟩

def St.put (s : St) (u : Nat) (dst : Option Tmp) (f : Eff) : St where
  env := match dst with
    | some d => match f.val with
      | some x => (d, x) :: s.env
      | none => rem d s.env
    | none => s.env
  mem := match f.st with
    | some e => e :: s.mem
    | none => match f.blk with
      | some (ty, as) => (u, ty, as) :: s.mem
      | none => s.mem
  hs := match f.st with
    | some _ => s.hs
    | none => f.hld ++ s.hs

def dstOk (n : Nat) : Option Tmp → Bool
  | some d => Nat.blt d n
  | none => true

section
variable {P : Program} {D : Den} {k0 n : Nat} {F F' : Nat → Prop} {w0 : World} {s : St} {σ σ' : Env} {a : Act} {w w' : World} {I : World → Prop} {tab : Tab} {base : Nat}

theorem put_size (a : Act) (dst : Option Tmp) (v : Value) : (a.put dst v).tmps.size = a.tmps.size := by cases dst <;> simp [Act.put]
theorem put_defers (a : Act) (dst : Option Tmp) (v : Value) : (a.put dst v).defers = a.defers := by cases dst <;> rfl
theorem put_same (a : Act) (d : Tmp) (v : Value) (h : d < a.tmps.size) : (a.put (some d) v).tmps.getD d undef = v := by simp [Act.put, h]
theorem put_other (a : Act) (d t : Tmp) (v : Value) (h : t ≠ d) : (a.put (some d) v).tmps.getD t undef = a.tmps.getD t undef := by
  simp [Act.put, Array.getElem?_setIfInBounds_ne (Ne.symm h)]

theorem Ok.weaken (h : Ok D k0 n F w0 s σ a w) {s1 : St} (h1 : ∀ t x, find s1.env t = some x → find s.env t = some x) (h2 : ∀ t x, find s1.mem t = some x → find s.mem t = some x) (h3 : ∀ t x, find s1.hs t = some x → find s.hs t = some x) : Ok D k0 n F w0 s1 σ a w :=
  { h with tmps := fun t x hx => h.tmps t x (h1 t x hx), mem := fun k ty as hx => h.mem k ty as (h2 k _ hx), hs := fun i e hx => h.hs i e (h3 i e hx) }

theorem Ok.fewer (h : Ok D k0 n F w0 s σ a w) (hF : ∀ u, F' u → F u) : Ok D k0 n F' w0 s σ a w := { h with fresh := fun u hu => h.fresh u (hF u hu) }

theorem setRow_keep {e : E} {v : Value} (h : D.hold e v w) {g : Nat} (hg : ∀ k, v.ownBlock = some k → k ≠ g) (cs : Array Value) : D.hold e v (w.setRow g cs) :=
  D.keep e v w _ h (by simp) fun k hk => setRow_other w g k cs (hg k hk)

theorem Ok.step {u : Nat} {f : Eff} {v : Value} {dst : Option Tmp} (h : Ok D k0 n F w0 s σ a w) (hA : After D u f σ w σ' w' v) (hF : ∀ x, F' x → F x ∧ x ≠ u) (hd : dstOk n dst = true) : Ok D k0 n F' w0 (s.put u dst f) σ' (a.put dst v) w' := by
  have hold' : ∀ i x g, σ'.hld i = some x → x.ownBlock = some g → (σ.hld i = some x ∧ g < w.heap.size) ∨ (g < w'.heap.size ∧ σ'.blk u ≠ some g ∧ (w.heap.size ≤ g ∨ (16 ≤ i % 32 ∧ ∃ i' v', σ.hld i' = some v' ∧ v'.ownBlock = some g))) := by
    intro i x g h1 h2
    cases e : σ.hld i with
    | none => exact .inr (hA.newH i x g h1 e h2)
    | some y =>
      have := hA.le.h _ _ e
      rw [this] at h1; injection h1 with h1; subst h1
      exact .inl ⟨rfl, h.hlt i y g e h2⟩
  have hsize : w.heap.size ≤ w'.heap.size := by
    have := hA.world
    split at this
    · exact this.size
    · obtain ⟨g, l, old, _, _, _, rfl⟩ := this; simp
  refine { size := by rw [put_size]; exact h.size, defers := by rw [put_defers]; exact h.defers, tmps := ?_, mem := ?_, hs := ?_, base := ?_, inj := ?_, apart := ?_, hlt := ?_, new := ?_, below := ?_, fresh := ?_ }
  · intro t x hx
    cases dst with
    | none => exact T.Is_mono hA.le (h.tmps t x hx)
    | some d =>
      have hdn : d < a.tmps.size := by rw [h.size]; exact Nat.le_of_ble_eq_true hd
      simp only [St.put] at hx
      cases hv : f.val with
      | none =>
        rw [hv] at hx
        obtain ⟨h1, h2⟩ := find_rem hx
        rw [put_other a d t v h1]
        exact T.Is_mono hA.le (h.tmps t x h2)
      | some y =>
        rw [hv] at hx
        rcases find_cons hx with ⟨h1, h2⟩ | ⟨h1, h2⟩
        · subst h1 h2
          rw [put_same a d v hdn]
          exact hA.val _ hv
        · rw [put_other a d t v (Ne.symm h1)]
          exact T.Is_mono hA.le (h.tmps t x h2)
  · intro k ty as hx
    have hw := hA.world
    simp only [St.put] at hx
    split at hw
    · rename_i hst
      rw [hst] at hx
      have old : find s.mem k = some (ty, as) → ∃ g l, σ'.blk k = some g ∧ cellsL D σ' as = some l ∧ w'.heap[g]? = some (.cells l.toArray ty (0, 0)) := fun hx => by
        obtain ⟨g, l, h1, h2, h3⟩ := h.mem k ty as hx
        exact ⟨g, l, hA.le.b _ _ h1, cellsL_mono hA.le h2, (hw.block g (h.base k g h1).2).trans h3⟩
      cases hb : f.blk with
      | none => rw [hb] at hx; exact old hx
      | some q =>
        obtain ⟨ty', as'⟩ := q
        rw [hb] at hx
        rcases find_cons hx with ⟨h1, h2⟩ | ⟨h1, h2⟩
        · injection h2 with h2 h3; subst h1 h2 h3
          exact hA.blk _ _ hb
        · exact old h2
    · rename_i b ty' as' hst
      rw [hst] at hx
      obtain ⟨g, l, cur, h1, h2, h3, rfl⟩ := hw
      rcases find_cons hx with ⟨h4, h5⟩ | ⟨h4, h5⟩
      · injection h5 with h5 h6; subst h4 h5 h6
        exact ⟨g, l, hA.le.b _ _ h1, cellsL_mono hA.le h2, setRow_heap w g cur _ _ _ h3⟩
      · obtain ⟨g', l', h6, h7, h8⟩ := h.mem k ty as h5
        have hne : g' ≠ g := fun e => h4 (h.inj _ _ _ h1 (e ▸ h6))
        exact ⟨g', l', hA.le.b _ _ h6, cellsL_mono hA.le h7, (setRow_other w g g' _ hne).trans h8⟩
  · intro i e hx
    have hw := hA.world
    simp only [St.put] at hx
    split at hw
    · rename_i hst
      rw [hst] at hx
      rcases find_append hx with h1 | h1
      · exact hA.hld i e h1
      · obtain ⟨x, h2, h3⟩ := h.hs i e h1
        exact ⟨x, hA.le.h _ _ h2, D.keep e x w w' h3 hw.size fun g hg => hw.block g (h.hlt i x g h2 hg)⟩
    · rename_i b ty' as' hst
      rw [hst] at hx
      obtain ⟨g, l, cur, h1, h2, h3, rfl⟩ := hw
      obtain ⟨x, h4, h5⟩ := h.hs i e hx
      exact ⟨x, hA.le.h _ _ h4, setRow_keep h5 (fun k hk he => h.apart i x k b h4 hk (he ▸ h1)) _⟩
  · intro k g hk
    by_cases e : k = u
    · subst e
      have := hA.newB g hk
      have := h.below.size
      omega
    · rw [hA.onlyB k e] at hk
      have := h.base k g hk
      omega
  · intro k k' g h1 h2
    by_cases e : k = u
    · by_cases e' : k' = u
      · rw [e, e']
      · subst e
        rw [hA.onlyB k' e'] at h2
        have := hA.newB g h1
        have := h.base k' g h2
        omega
    · by_cases e' : k' = u
      · subst e'
        rw [hA.onlyB k e] at h1
        have := hA.newB g h2
        have := h.base k g h1
        omega
      · rw [hA.onlyB k e] at h1
        rw [hA.onlyB k' e'] at h2
        exact h.inj _ _ _ h1 h2
  · intro i x g k h1 h2 h3
    rcases hold' i x g h1 h2 with ⟨h4, h5⟩ | ⟨h4, h5, h6⟩
    · by_cases e : k = u
      · subst e
        have := hA.newB g h3
        omega
      · rw [hA.onlyB k e] at h3
        exact h.apart i x g k h4 h2 h3
    · by_cases e : k = u
      · subst e; exact h5 h3
      · rw [hA.onlyB k e] at h3
        have := h.base k g h3
        rcases h6 with h6 | ⟨_, i', v', h7, h8⟩
        · omega
        · exact h.apart i' v' g k h7 h8 h3
  · intro i x g h1 h2
    rcases hold' i x g h1 h2 with ⟨h4, h5⟩ | ⟨h4, h5, h6⟩
    · omega
    · exact h4
  · intro i x g hk hk4 h1 h2
    cases e : σ.hld i with
    | none =>
      have := h.below.size
      rcases (hA.newH i x g h1 e h2).2.2 with h6 | ⟨h6, _⟩ <;> omega
    | some y =>
      have := hA.le.h _ _ e
      rw [this] at h1; injection h1 with h1; subst h1
      exact h.new i y g hk hk4 e h2
  · have hw := hA.world
    split at hw
    · exact h.below.trans (hw.mono h.below.size)
    · obtain ⟨g, l, cur, h1, h2, h3, rfl⟩ := hw
      exact Below.row h.below (h.base _ _ h1).1 _
  · intro x hx
    obtain ⟨h1, h2⟩ := hF x hx
    obtain ⟨h3, h4⟩ := h.fresh x h1
    refine ⟨by rw [hA.onlyB x h2]; exact h3, fun i h5 h6 => ?_⟩
    rw [hA.onlyH i (by omega)]
    exact h4 i h5 h6

theorem After.weak {u : Nat} {f : Eff} {v : Value} (h : After D u f σ w σ' w' v) (hst : f.st = none) : After D u Eff.nil σ w σ' w' v :=
  { h with val := fun _ h => (by cases h), blk := fun _ _ h => (by cases h), hld := fun _ _ h => (by cases h), world := (by have := h.world; rw [hst] at this; exact this) }

theorem After.idle {u : Nat} (hu : σ.blk u = none) (v : Value) : After D u Eff.nil σ w σ w v where
  le := σ.le_refl
  onlyB := fun _ _ => rfl
  onlyH := fun _ _ => rfl
  newB := fun g hg => by rw [hu] at hg; cases hg
  newH := fun i v g h1 h2 _ => by rw [h1] at h2; cases h2
  val := fun _ h => by cases h
  blk := fun _ _ h => by cases h
  hld := fun _ _ h => by cases h
  world := Below.refl _ _

/-- is the operation wanted? -/
def guardOf (ops : Array Oper) (s : St) (o : Oper) : Option Bool := match o.guard with
  | none => some true
  | some (j, want) => match ops[j]? with
    | some oj => match oj.dst with
      | some d => match boolOf (find s.env d) with
        | some b => some (match b, want with
          | true, true => true
          | false, false => true
          | _, _ => false)
        | none => none
      | none => none
    | none => none

theorem guardOf_ok (h : Ok D k0 n F w0 s σ a w) {ops : Array Oper} {o : Oper} {b : Bool} (hg : guardOf ops s o = some b) : Region.wanted o (yielded ops a.tmps) = b := by
  unfold guardOf at hg
  unfold Region.wanted
  cases ho : o.guard with
  | none => rw [ho] at hg; injection hg with hg
  | some jw =>
    obtain ⟨j, want⟩ := jw
    rw [ho] at hg
    dsimp only at hg ⊢
    cases hj : ops[j]? with
    | none => rw [hj] at hg; cases hg
    | some oj =>
      rw [hj] at hg
      dsimp only at hg
      cases hd : oj.dst with
      | none => rw [hd] at hg; cases hg
      | some d =>
        rw [hd] at hg
        dsimp only at hg
        cases hb : boolOf (find s.env d) with
        | none => rw [hb] at hg; cases hg
        | some c =>
          rw [hb] at hg
          injection hg with hg
          have hv : a.tmps.getD d undef = .bool c := boolOf_ok (x := .tmp d) h hb
          have hlt : d < a.tmps.size := by
            rcases Nat.lt_or_ge d a.tmps.size with h' | h'
            · exact h'
            · simp [Array.getElem?_eq_none h', undef] at hv
          have hv' : a.tmps[d]? = some (.bool c) := by simp [hlt] at hv ⊢; exact hv
          have : yielded ops a.tmps j = some c := by simp [yielded, hj, hd, hv']
          rw [this]
          subst hg
          cases c <;> cases want <;> rfl

def runOps (P : Program) (tab : Tab) (n : Nat) (ops : Array Oper) : List Oper → Nat → St → Option St
  | [], u, s => some s
  | o :: r, u, s => match dstOk n o.dst with
    | true => match guardOf ops s o with
      | some true => match step P tab s u o.op with
        | some f => runOps P tab n ops r (u + 1) (s.put u o.dst f)
        | none => none
      | some false => runOps P tab n ops r (u + 1) (s.put u o.dst Eff.nil)
      | none => none
    | false => none

theorem runOps_ok (R : Right P D I tab) (hI : ∀ w, Below w0.heap.size w0 w → I w) {ops : Array Oper} {Q : Exit → Act → World → Prop} : ∀ {l : List Oper} {u : Nat} {s s' : St} {σ : Env} {a : Act} {w : World},
    Ok D k0 n (u ≤ ·) w0 s σ a w → runOps P tab n ops l u s = some s' → (∀ σ' a' w', Ok D k0 n (u + l.length ≤ ·) w0 s' σ' a' w' → Q .normal a' w') → wpList P ops Q l a w
  | [], u, s, s', σ, a, w, h, hr, hQ => by
    injection hr with hr; subst hr
    exact hQ σ a w h
  | o :: r, u, s, s', σ, a, w, h, hr, hQ => by
    simp only [runOps] at hr
    cases hd : dstOk n o.dst with
    | false => rw [hd] at hr; cases hr
    | true =>
      rw [hd] at hr
      dsimp only at hr
      obtain ⟨hu, hh⟩ := h.fresh u (Nat.le_refl u)
      have hQ' : ∀ σ' a' w', Ok D k0 n (u + 1 + r.length ≤ ·) w0 s' σ' a' w' → Q .normal a' w' := fun σ' a' w' h' => hQ σ' a' w' (h'.fewer fun x hx => by simp only [List.length_cons] at hx; omega)
      cases hg : guardOf ops s o with
      | none => rw [hg] at hr; cases hr
      | some b =>
        rw [hg] at hr
        have hw := guardOf_ok h hg
        simp only [wpList, hw]
        cases b with
        | true =>
          dsimp only at hr
          cases hs : step P tab s u o.op with
          | none => rw [hs] at hr; cases hr
          | some f =>
            rw [hs] at hr
            exact .inl (step_ok R (hI w h.below) h hu hh hs fun σ' w' v hA => runOps_ok R hI (h.step hA (fun x hx => ⟨by omega, by omega⟩) hd) hr hQ')
        | false =>
          exact runOps_ok R hI (h.step (After.idle hu undef) (fun x hx => ⟨by omega, by omega⟩) hd) hr hQ'

end
end Go.Proofs.YtdconlmpjehohaaDoor.Sx
