/- Texts in one: TwM, TwE, TwF. Conditions: those of each theorem. -/
import Derived.Test.YtdconlmpjehohaaDoorTwS1

/- What the reference's products are: the runs over variables. Conditions: those of each theorem. -/
namespace Go.Proofs.YtdconlmpjehohaaDoor
open Go.RowKit Sx

section
set_option maxRecDepth 100000
theorem refMul_chk : refChk Tryd.prog Tryd.f31 ids2 mulTgt = true := by kernel_rfl
theorem refLine_chk : refChk Tryd.prog Tryd.f31 ids3 lineTgt = true := by kernel_rfl
end

end Go.Proofs.YtdconlmpjehohaaDoor

/- The tower's functions by what is told of them: the table. Conditions: those of each theorem. -/
namespace Go.Proofs.YtdconlmpjehohaaDoor
open Go.RowKit Sx
set_option linter.unusedVariables false

def dts : List Nat → List E
  | [] => []
  | i :: l => .dt i :: dts l

def undts : List E → Option (List Nat)
  | [] => some []
  | .dt i :: l => match undts l with
    | some r => some (i :: r)
    | none => none
  | _ => none

theorem undts_eq : ∀ {l : List E} {r : List Nat}, undts l = some r → l = dts r
  | [], r, h => by
    have h := Option.some.inj h
    subst h; rfl
  | .op k a b :: l, r, h => by cases h
  | .dt i :: l, r, h => by
    unfold undts at h
    split at h
    · rename_i r' h1
      have h := Option.some.inj h
      subst h
      rw [undts_eq h1]; rfl
    · cases h

theorem dts_map (R : Ev) : ∀ l : List Nat, (dts l).map (fpEv R) = l.map R.num
  | [] => rfl
  | i :: l => by
    show fpEv R (.dt i) :: (dts l).map (fpEv R) = _
    rw [dts_map R l]; rfl

theorem dts_getD (R : Ev) : ∀ (l : List Nat) {j : Nat}, j < l.length → fpEv R ((dts l).getD j zE) = R.num (l.getD j 0)
  | [], j, h => absurd h (Nat.not_lt_zero j)
  | i :: l, 0, h => rfl
  | i :: l, j + 1, h => by
    have := dts_getD R l (j := j) (by simpa using h)
    simpa [dts, List.getD] using this

def og (l : List (Option Nat)) (i : Nat) : Nat := (l.getD i none).getD 0
/-- from the reference's order to the struct's -/
def unN (l : List (Option Nat)) : List Nat := [og l 0, og l 1, og l 4, og l 5, og l 8, og l 9, og l 2, og l 3, og l 6, og l 7, og l 10, og l 11]
def unL (l : List (Option Nat)) : List Nat := [og l 0, og l 1, og l 4, og l 5, og l 6, og l 7]

def ltAll (n : Nat) : List (Option Nat) → Bool
  | [] => true
  | some j :: l => match Nat.blt j n with
    | true => ltAll n l
    | false => false
  | none :: l => ltAll n l

theorem namesM_all {R R' : Ev} {σ : Env} {w : World} {N N' : Value → Prop} (hN : ∀ v, N v → N' v) {f : Nat → Nat} {n : Nat} (hf : ∀ j, j < n → R'.num j % fpQ = R.num (f j) % fpQ) : ∀ {ms : List MA} {is : List (Option Nat)} {l : List Value} (ids : List (Option Nat)), ltAll n ids = true → namesM ms = some is → MAsIs (fpDenS R) σ w N ms l → ids.map (Option.map f) = is → MAsIs (fpDenS R') Env.empty w N' (mkM ids) l ∧ noVw (mkM ids) = true := by
  intro ms is l ids hlt h hl hi
  have e : ∀ ids : List (Option Nat), ltAll n ids = true → ids.map (Option.map fun j => if j < n then f j else 0) = ids.map (Option.map f) := by
    intro ids
    induction ids with
    | nil => intro _; rfl
    | cons x r ih =>
      intro h
      cases x with
      | none => rw [List.map_cons, List.map_cons, ih h]; rfl
      | some j =>
        unfold ltAll at h
        split at h
        · rename_i hj
          have hj : j < n := Nat.le_of_ble_eq_true hj
          rw [List.map_cons, List.map_cons, ih h]
          simp [hj]
        · cases h
  obtain ⟨i1, i2⟩ := namesM_ok (R' := ⟨fun j => if j < n then R'.num j else R.num 0, R'.bys, R'.inv, R'.sqr⟩) (N' := N') hN (f := fun j => if j < n then f j else 0) ids h hl ((e ids hlt).trans hi) (fun j => by
    by_cases hj : j < n
    · simp only [hj, if_true]; exact hf j hj
    · simp only [hj, if_false])
  refine ⟨?_, i2⟩
  have back : ∀ (ids : List (Option Nat)) (l : List Value), ltAll n ids = true → MAsIs (fpDenS ⟨fun j => if j < n then R'.num j else R.num 0, R'.bys, R'.inv, R'.sqr⟩) Env.empty w N' (mkM ids) l → MAsIs (fpDenS R') Env.empty w N' (mkM ids) l := by
    intro ids
    induction ids with
    | nil =>
      intro l _ h
      have h : l = [] := h
      subst h; exact rfl
    | cons x r ih =>
      intro l h hl
      cases x with
      | none =>
        obtain ⟨y, z, rfl, h3, h4⟩ := hl
        have e3 : (Atom.nils).cells (fpDenS R') Env.empty = (Atom.nils).cells (fpDenS ⟨fun j => if j < n then R'.num j else R.num 0, R'.bys, R'.inv, R'.sqr⟩) Env.empty := by simp only [Atom.cells]
        exact ⟨y, z, rfl, e3.trans h3, ih _ h h4⟩
      | some j =>
        unfold ltAll at h
        split at h
        · rename_i hj
          have hj : j < n := Nat.le_of_ble_eq_true hj
          obtain ⟨v, y, rfl, h3, h4, h5⟩ := hl
          refine ⟨v, y, rfl, hold_name (by simp only [hj, if_true]) h3, h4, ih _ h h5⟩
        · cases h
  exact back ids l hlt i1

/-- the reference's product, told -/
def refTry (Y : Tx) (t : Nat) (ids is1 is2 : List (Option Nat)) (es : List Nat) : Option Res :=
  match eqbO (ids1.map (Option.map fun j => es.getD j 0)) is1, eqbO (ids.map (Option.map fun j => es.getD j 0)) is2, ltAll es.length ids1, ltAll es.length ids with
  | true, true, true, true => match findC Y t (dts es) with
    | some rs => match undts rs with
      | some r => some (.one (.mix (mkM ((toN 0 r).map some))))
      | none => none
    | none => none
  | _, _, _, _ => none

def refMulE (Y : Tx) : Entry
  | [.mix m1, .mix m2] => match namesM m1, namesM m2 with
    | some i1, some i2 => match refTry Y 5 ids2 i1 i2 (unN i1 ++ unN i2) with
      | some r => some r
      | none => refTry Y 6 ids3 i1 i2 (unN i1 ++ unL i2)
    | _, _ => none
  | _ => none

/-- the numbers that a function gives, all of them -/
def allTgt : Nat → List E
  | 5 => mulTgt
  | 6 => lineTgt
  | t => twTgt t

theorem toN_map {α β : Type} (d : α) (f : α → β) (l : List α) : (toN d l).map f = toN (f d) (l.map f) := by
  have g : ∀ i, f (l.getD i d) = (l.map f).getD i (f d) := fun i => by simp [List.getD]
  simp only [toN, List.map_cons, List.map_nil, g]

theorem refTry_ok {R : Ev} (hR : R.Ok) {Y : Tx} (hY : Told R allTgt Y) {t : Nat} {ids is1 is2 : List (Option Nat)} {es : List Nat} (hc : refChk Tryd.prog Tryd.f31 ids (allTgt t) = true) (hlen : (allTgt t).length = 12)
    {r : Res} (hr : refTry Y t ids is1 is2 es = some r) {m1 m2 : List MA} (h1 : namesM m1 = some is1) (h2 : namesM m2 = some is2) {σ : Env} {w : World} {vs : List Value} (hv : ArgsIs (fpDenS R) σ w [.mix m1, .mix m2] vs) (hI : FpTab w) :
    Calls Tryd.prog 31 vs.toArray w fun e w' => ∃ v, e = .returned v ∧ Below w.heap.size w w' ∧ r.Is (fpDenS R) w.heap.size w' v := by
  unfold refTry at hr
  split at hr
  · rename_i g1 g2 g3 g4
    split at hr
    · rename_i rs hrs
      split at hr
      · rename_i r' hr'
        injection hr with hr; subst hr
        obtain ⟨v1, ws1, rfl, ⟨l1, rfl, a1⟩, v2, ws2, rfl, ⟨l2, rfl, a2⟩, a3⟩ := hv
        have a3 : ws2 = [] := a3
        subst a3
        have hf : ∀ j, j < es.length → (subR R (dts es)).num j % fpQ = R.num (es.getD j 0) % fpQ := fun j hj => by
          show fpEv R ((dts es).getD j zE) % fpQ = _
          rw [dts_getD R es hj]
        obtain ⟨b1, c1⟩ := namesM_all (R' := subR R (dts es)) (N' := fun v => ∀ g, v.ownBlock = some g → 0 ≤ g) (fun v _ g _ => Nat.zero_le g) hf ids1 g3 h1 a1 (eqbO_eq g1)
        obtain ⟨b2, c2⟩ := namesM_all (R' := subR R (dts es)) (N' := fun v => ∀ g, v.ownBlock = some g → 0 ≤ g) (fun v _ g _ => Nat.zero_le g) hf ids g4 h2 a2 (eqbO_eq g2)
        unfold refChk at hc
        split at hc
        · rename_i ms hrun
          split at hc
          · rename_i os hos
            split at hc
            · rename_i hs
              have hR' := subR_ok hR (dts es)
              refine (calls_run (fpRight headT_told (tw3_ok hR' headT_told)) mixed Tryd.func31 hrun (vs := [.agg l1.toArray, .agg l2.toArray]) ⟨_, _, rfl, ⟨l1, rfl, c1, b1⟩, _, _, rfl, ⟨l2, rfl, c2, b2⟩, rfl⟩ fun w' hb => hI.below hb).mono fun e w' ⟨v, d1, d2, d3⟩ => ⟨v, d1, d2, ?_⟩
              obtain ⟨l, rfl, d4, d5⟩ := d3
              have d6 := of_decide_eq_true (fpSameL_ok (R := subR R (dts es)) (F := []) (fun x hx => by cases hx) hs)
              have d7 := hY _ (findC_mem hrs)
              rw [undts_eq hr', dts_map] at d7
              obtain ⟨i1, i2⟩ := wordsE_back (R := R) hR' headT_told (toN 0 r') hos d5 (by
                rw [d6]
                simp only [List.map_map] at d7 ⊢
                rw [toN_map, toN_map]
                have e0 : ∀ (f : E → Nat) (g : Nat → Nat), List.map f (allTgt t) = List.map g r' → toN (f zE) (List.map f (allTgt t)) = toN (g 0) (List.map g r') := fun f g h => by
                  have hl : r'.length = 12 := by
                    have := congrArg List.length h
                    rw [List.length_map, List.length_map] at this
                    omega
                  rw [h]
                  have : ∀ i, i < 12 → (List.map g r').getD i (f zE) = (List.map g r').getD i (g 0) := fun i hi => by
                    simp [List.getD, hl, hi]
                  simp only [toN, this 0 (by decide), this 1 (by decide), this 2 (by decide), this 3 (by decide), this 4 (by decide), this 5 (by decide), this 6 (by decide), this 7 (by decide), this 8 (by decide), this 9 (by decide), this 10 (by decide), this 11 (by decide)]
                exact e0 _ _ d7.symm)
              exact ⟨l, rfl, i2, i1⟩
            · cases hc
          · cases hc
        · cases hc
      · cases hr
    · cases hr
  · cases hr

theorem refMulE_ok {R : Ev} (hR : R.Ok) {Y : Tx} (hY : Told R allTgt Y) : EntryOk (fpDenS R) FpTab 31 (refMulE Y) := by
  refine ⟨by kernel_rfl, fun cs r hr σ w vs hv hI => ?_⟩
  unfold refMulE at hr
  split at hr
  · rename_i m1 m2
    split at hr
    · rename_i i1 i2 h1 h2
      split at hr
      · rename_i r' h3
        injection hr with hr; subst hr
        exact refTry_ok hR hY (t := 5) refMul_chk rfl h3 h1 h2 hv hI
      · exact refTry_ok hR hY (t := 6) refLine_chk rfl hr h1 h2 hv hI
    · cases hr
  · cases hr

def tupI (t : Nat) : List Nat := [12 * t, 12 * t + 1, 12 * t + 2, 12 * t + 3, 12 * t + 4, 12 * t + 5, 12 * t + 6, 12 * t + 7, 12 * t + 8, 12 * t + 9, 12 * t + 10, 12 * t + 11]

/-- the number of a row, named -/
def numberTE (X : Fx) (nums : List (Nat × Nat)) (base : Entry) : Entry := fun cs => match cs with
  | [.held (.op 20 (.dt j) _)] => match find nums j with
    | some t => match base cs with
      | some (.tup [.mix ms, .dt (.agg xs)]) => match wordsE X ms, fpEls 12 xs with
        | some os, some es => match fpSameL X.eqs os (dts (toN 0 (tupI t))), fpSameL X.eqs es (dts (tupI t)) with
          | some true, some true => some (.tup [.mix (mkM ((toN 0 (tupI t)).map some)), .dt (.agg (els (dts (tupI t))))])
          | _, _ => none
        | _, _ => none
      | _ => none
    | none => none
  | _ => none

theorem numberTE_ok {R : Ev} (hR : R.Ok) {X : Fx} (hX : FpTold R X) {nums : List (Nat × Nat)} {base : Entry} (hb : EntryOk (fpDenS R) FpTab 11 base) : EntryOk (fpDenS R) FpTab 11 (numberTE X nums base) := by
  refine ⟨hb.1, fun cs r hr σ w vs hv hI => ?_⟩
  unfold numberTE at hr
  split at hr
  · rename_i j b
    split at hr
    · rename_i t ht
      split at hr
      · rename_i ms xs hbase
        split at hr
        · rename_i os es h1 h2
          split at hr
          · rename_i h3 h4
            injection hr with hr; subst hr
            refine (hb.2 _ _ hbase σ w vs hv hI).mono fun e w' ⟨v, d1, d2, d3⟩ => ⟨v, d1, d2, ?_⟩
            obtain ⟨us, rfl, v1, ws1, rfl, ⟨l, rfl, d4, d5⟩, v2, ws2, rfl, ⟨m, d6, rfl⟩, d7⟩ := d3
            have e3 := of_decide_eq_true (fpSameL_ok hX.eqs h3)
            have e4 := of_decide_eq_true (fpSameL_ok hX.eqs h4)
            rw [dts_map] at e3
            obtain ⟨i1, i2⟩ := wordsE_back (R := R) hR hX (toN 0 (tupI t)) h1 d5 e3
            obtain ⟨f1, f2⟩ := fpEls_ok h2 d6
            refine ⟨_, rfl, _, _, rfl, ⟨l, rfl, i2, i1⟩, _, _, rfl, ⟨m, ?_, rfl⟩, d7⟩
            rw [els_cells (show allFp (dts (tupI t)) = true from rfl), f1, cells_same e4]
          · cases hr
        · cases hr
      · cases hr
    · cases hr
  · cases hr

/-- the table with what is told -/
noncomputable def twY (P : Program) (X : Fx) (nums : List (Nat × Nat)) (Y : Tx) : List (Nat × Entry) :=
  (9, headTE) :: (11, numberTE X nums (inlE P X (tw2 P X) Tryd.f11)) :: (31, refMulE Y) ::
  (13, polyE Y 0 [12, 12]) :: (32, polyE Y 1 [12]) :: (15, polyE Y 3 [12, 2, 2, 2]) :: (25, polyE Y 4 [12]) :: tw5 P X

theorem twY_ok {R : Ev} {X : Fx} {Y : Tx} (hR : R.Ok) (hX : FpTold R X) (hY : Told R allTgt Y) (nums : List (Nat × Nat)) : ∀ x ∈ twY Tryd.prog X nums Y, EntryOk (fpDenS R) FpTab x.1 x.2 := by
  unfold twY
  simp only [List.forall_mem_cons]
  exact ⟨headTE_ok R, numberTE_ok hR hX (inlE_ok hX (tw2_ok hR hX) (by kernel_rfl) Tryd.func11), refMulE_ok hR hY, polyE_ok hR (tgt := allTgt) hY (by kernel_rfl) Tryd.func13 twMul_chk, polyE_ok hR (tgt := allTgt) hY (by kernel_rfl) Tryd.func32 twSq_chk,
    polyE_ok hR (tgt := allTgt) hY (by kernel_rfl) Tryd.func15 twLine_chk, polyE_ok hR (tgt := allTgt) hY (by kernel_rfl) Tryd.func25 twFrob_chk, tw5_ok hR hX⟩

/-- a statement over rows of bytes, run with what is told -/
theorem twY_law {R : Ev} {X : Fx} {nums : List (Nat × Nat)} {Y : Tx} {f : FuncId} {fn : Func} (hf : Tryd.prog.funcs[f]? = some fn) {ins : List RV} (hR : R.Ok) (hX : FpTold R X) (hY : Told R allTgt Y) (hrun : runFn Tryd.prog (fpTable X (twY Tryd.prog X nums Y)) 400 fn ins = some (boolR true))
    {vs : List Value} {w : World} (ht : FpTab w) (hin : RVsIs (fpDenS R) 0 w ins vs) : Calls Tryd.prog f vs.toArray w fun e w' => e = .returned (.bool true) ∧ Below w.heap.size w w' :=
  bool_post (calls_run (fpRight hX (twY_ok hR hX hY nums)) mixed hf hrun hin fun w' hb => ht.below hb)

/-- numbers in twelves: what the variables are -/
theorem told_of {R : Ev} {t : Nat} {es rs : List E} {z : T} (hp : ∀ e ∈ allTgt t, isPoly e = true) (h : (allTgt t).map (evZ fun i => ((fpEv R (es.getD i zE) : Nat) : Int)) = (List.range 12).map z.get) (hr : rs.map (fun e => (fpEv R e : Int) % (fpQ : Int)) = (List.range 12).map fun k => z.get k % (fpQ : Int)) :
    (rs.map (fpEv R)).map (· % fpQ) = ((allTgt t).map (fpEv (subR R es))).map (· % fpQ) := by
  have inj : ∀ l m : List Nat, l.map (fun n : Nat => Int.ofNat n) = m.map (fun n : Nat => Int.ofNat n) → l = m := fun l m h => (List.map_inj_right (fun a b h => Int.ofNat.inj h)).1 h
  apply inj
  simp only [List.map_map]
  have h1 : rs.map (fun e => ((fpEv R e % fpQ : Nat) : Int)) = (List.range 12).map fun k => z.get k % (fpQ : Int) := by
    rw [← hr]
    exact List.map_congr_left fun e _ => Int.natCast_emod _ _
  have h2 : (allTgt t).map (fun e => ((fpEv (subR R es) e % fpQ : Nat) : Int)) = (List.range 12).map fun k => z.get k % (fpQ : Int) := by
    have h3 := congrArg (List.map fun a : Int => a % (fpQ : Int)) h
    rw [List.map_map, List.map_map] at h3
    refine Eq.trans ?_ h3
    refine List.map_congr_left fun e he => ?_
    rw [Int.natCast_emod, evZ_ok _ (hp e he)]
    rfl
  exact h1.trans h2.symm

end Go.Proofs.YtdconlmpjehohaaDoor

/- Names for numbers of the tower: what is told of products. Conditions: those of each theorem. -/
namespace Go.Proofs.YtdconlmpjehohaaDoor
open Go.RowKit Sx
set_option linter.unusedVariables false

/-- alike modulo q -/
def Cg (x y : T) : Prop := ∃ d : T, x = y.add (T.sm fpQ d)

theorem Cg.refl (x : T) : Cg x x := ⟨T.zero, by
  have h : T.sm fpQ T.zero = T.zero := by simp [T.sm, T.zero]
  rw [h, T.add_zero]⟩
theorem Cg.of_eq {x y : T} (h : x = y) : Cg x y := h ▸ Cg.refl x
theorem Cg.trans {x y z : T} (h1 : Cg x y) (h2 : Cg y z) : Cg x z := by
  obtain ⟨d, rfl⟩ := h1
  obtain ⟨e, rfl⟩ := h2
  exact ⟨e.add d, by rw [T.sm_add, T.add_assoc]⟩
theorem Cg.symm {x y : T} (h : Cg x y) : Cg y x := by
  obtain ⟨d, rfl⟩ := h
  refine ⟨T.sm (-1) d, ?_⟩
  rw [T.add_assoc, ← T.sm_sm, ← T.add_sm, show (fpQ : Int) + fpQ * -1 = 0 by omega, T.sm_zero, T.add_zero]
theorem Cg.mul {x y x' y' : T} (h1 : Cg x x') (h2 : Cg y y') : Cg (x.mul y) (x'.mul y') := by
  obtain ⟨d, rfl⟩ := h1
  obtain ⟨e, rfl⟩ := h2
  refine ⟨(x'.mul e).add (d.mul (y'.add (T.sm fpQ e))), ?_⟩
  rw [T.mul_comm (x'.add _), T.mul_add, T.mul_comm _ x', T.mul_add, T.mul_sm, T.mul_sm, T.mul_comm (y'.add _) d, T.sm_add, T.add_assoc]
theorem Cg.add {x y x' y' : T} (h1 : Cg x x') (h2 : Cg y y') : Cg (x.add y) (x'.add y') := by
  obtain ⟨d, rfl⟩ := h1
  obtain ⟨e, rfl⟩ := h2
  refine ⟨d.add e, ?_⟩
  rw [T.sm_add, T.add_assoc, T.add_assoc, ← T.add_assoc (T.sm fpQ d), T.add_comm (T.sm fpQ d) y', T.add_assoc]
theorem Cg.sm {x y : T} (c : Int) (h : Cg x y) : Cg (T.sm c x) (T.sm c y) := by
  obtain ⟨d, rfl⟩ := h
  exact ⟨T.sm c d, by rw [T.sm_add, ← T.sm_sm, ← T.sm_sm, Int.mul_comm]⟩

theorem get_add (x y : T) : ∀ k, (x.add y).get k = x.get k + y.get k := by
  intro k
  unfold T.get
  split <;> rfl
theorem get_sm (c : Int) (x : T) : ∀ k, (T.sm c x).get k = c * x.get k := by
  intro k
  unfold T.get
  split <;> simp [T.sm]

theorem Cg.get {x y : T} (h : Cg x y) (k : Nat) : x.get k % (fpQ : Int) = y.get k % (fpQ : Int) := by
  obtain ⟨d, rfl⟩ := h
  rw [get_add, get_sm, Int.add_mul_emod_self_left]

theorem T.ext_get {x y : T} (h : ∀ k, k < 12 → x.get k = y.get k) : x = y := by
  have g0 := h 0 (by decide)
  have g1 := h 1 (by decide)
  have g2 := h 2 (by decide)
  have g3 := h 3 (by decide)
  have g4 := h 4 (by decide)
  have g5 := h 5 (by decide)
  have g6 := h 6 (by decide)
  have g7 := h 7 (by decide)
  have g8 := h 8 (by decide)
  have g9 := h 9 (by decide)
  have g10 := h 10 (by decide)
  have g11 := h 11 (by decide)
  cases x; cases y
  simp only [T.get] at g0 g1 g2 g3 g4 g5 g6 g7 g8 g9 g10 g11
  subst g0 g1 g2 g3 g4 g5 g6 g7 g8 g9 g10 g11
  rfl

theorem Cg.of_get {x y : T} (h : ∀ k, k < 12 → x.get k % (fpQ : Int) = y.get k % (fpQ : Int)) : Cg x y := by
  refine ⟨T.of fun k => (x.get k - y.get k) / (fpQ : Int), T.ext_get fun k hk => ?_⟩
  rw [get_add, get_sm, T.get_of _ hk, Int.mul_ediv_cancel' (Int.dvd_of_emod_eq_zero (Int.emod_eq_emod_iff_emod_sub_eq_zero.1 (h k hk)))]
  omega

/-- what the variables are: twelve numbers each -/
def numOf (ts : List T) (i : Nat) : Nat := ((ts.getD (i / 12) T.zero).get (i % 12) % (fpQ : Int)).toNat

theorem numOf_at (ts : List T) (t : Nat) {k : Nat} (hk : k < 12) : ((numOf ts (12 * t + k) : Nat) : Int) = (ts.getD t T.zero).get k % (fpQ : Int) := by
  unfold numOf
  rw [show (12 * t + k) / 12 = t by omega, show (12 * t + k) % 12 = k by omega]
  exact Int.toNat_of_nonneg (Int.emod_nonneg _ (by decide))

def red (R : Ev) (t : Nat) : T := T.of fun k => (R.num (12 * t + k) : Int)

theorem red_cg {R : Ev} {ts : List T} (hn : R.num = numOf ts) (t : Nat) : Cg (red R t) (ts.getD t T.zero) := Cg.of_get fun k hk => by
  unfold red
  rw [T.get_of _ hk, hn, numOf_at _ _ hk, Int.emod_emod_of_dvd _ (Int.dvd_refl _)]

def ToldC (R : Ev) (c : Nat × List E × List E) : Prop := (c.2.2.map (fpEv R)).map (· % fpQ) = ((allTgt c.1).map (fpEv (subR R c.2.1))).map (· % fpQ)

theorem allTgt_poly (t : Nat) : ∀ e ∈ allTgt t, isPoly e = true := by
  unfold allTgt
  split
  · exact twTgt_poly 0
  · exact twTgt_poly 3
  · exact twTgt_poly _

theorem twelve (f g : Nat → Int) (h : ∀ k, k < 12 → f k = g k) : [f 0, f 1, f 2, f 3, f 4, f 5, f 6, f 7, f 8, f 9, f 10, f 11] = (List.range 12).map g := by
  show _ = [g 0, g 1, g 2, g 3, g 4, g 5, g 6, g 7, g 8, g 9, g 10, g 11]
  rw [h 0 (by decide), h 1 (by decide), h 2 (by decide), h 3 (by decide), h 4 (by decide), h 5 (by decide), h 6 (by decide), h 7 (by decide), h 8 (by decide), h 9 (by decide), h 10 (by decide), h 11 (by decide)]

theorem tup_told {R : Ev} {ts : List T} (hn : R.num = numOf ts) {t c : Nat} {es : List E} {z : T} (h : (allTgt t).map (evZ fun i => ((fpEv R (es.getD i zE) : Nat) : Int)) = (List.range 12).map z.get) (hc : Cg (ts.getD c T.zero) z) : ToldC R (t, es, dts (tupI c)) := by
  refine told_of (allTgt_poly t) h ?_
  have e : ∀ k, k < 12 → ((R.num (12 * c + k) : Nat) : Int) % (fpQ : Int) = z.get k % (fpQ : Int) := fun k hk => by
    rw [hn, numOf_at _ _ hk, Int.emod_emod_of_dvd _ (Int.dvd_refl _), hc.get k]
  exact twelve (fun k => ((R.num (12 * c + k) : Nat) : Int) % (fpQ : Int)) (fun k => z.get k % (fpQ : Int)) e

def lineOf (y : T) : T := ⟨y.x0, y.x1, y.x2, y.x3, 0, 0, 0, 0, y.x8, y.x9, 0, 0⟩

theorem lineOf_cg {x y : T} (h : Cg x y) : Cg (lineOf x) (lineOf y) := by
  obtain ⟨d, rfl⟩ := h
  refine ⟨lineOf d, ?_⟩
  simp [lineOf, T.add, T.sm]

section
variable {R : Ev} {ts : List T} (hn : R.num = numOf ts) {a b c : Nat}
include hn

theorem told_mul (h : Cg (ts.getD c T.zero) ((ts.getD a T.zero).mul (ts.getD b T.zero))) : ToldC R (0, dts (tupI a ++ tupI b), dts (tupI c)) := by
  refine tup_told hn (z := (red R a).mul (red R b)) ?_ (h.trans ((red_cg hn a).symm.mul (red_cg hn b).symm))
  exact mulTgt_ok _

theorem told_ref (h : Cg (ts.getD c T.zero) ((ts.getD a T.zero).mul (ts.getD b T.zero))) : ToldC R (5, dts (tupI a ++ tupI b), dts (tupI c)) := by
  refine tup_told hn (z := (red R a).mul (red R b)) ?_ (h.trans ((red_cg hn a).symm.mul (red_cg hn b).symm))
  exact mulTgt_ok _

theorem told_sq (h : Cg (ts.getD c T.zero) ((ts.getD a T.zero).mul (ts.getD a T.zero))) : ToldC R (1, dts (tupI a), dts (tupI c)) := by
  refine tup_told hn (z := (red R a).mul (red R a)) ?_ (h.trans ((red_cg hn a).symm.mul (red_cg hn a).symm))
  exact sqTgt_ok _

theorem told_line (h : Cg (ts.getD c T.zero) ((ts.getD a T.zero).mul (lineOf (ts.getD b T.zero)))) : ToldC R (3, dts (tupI a ++ [12 * b, 12 * b + 1, 12 * b + 2, 12 * b + 3, 12 * b + 8, 12 * b + 9]), dts (tupI c)) := by
  refine tup_told hn (z := (red R a).mul (lineOf (red R b))) ?_ (h.trans ((red_cg hn a).symm.mul (lineOf_cg (red_cg hn b).symm)))
  exact lineTgt_ok _

theorem told_refL (h : Cg (ts.getD c T.zero) ((ts.getD a T.zero).mul (lineOf (ts.getD b T.zero)))) : ToldC R (6, dts (tupI a ++ [12 * b, 12 * b + 1, 12 * b + 2, 12 * b + 3, 12 * b + 8, 12 * b + 9]), dts (tupI c)) := by
  refine tup_told hn (z := (red R a).mul (lineOf (red R b))) ?_ (h.trans ((red_cg hn a).symm.mul (lineOf_cg (red_cg hn b).symm)))
  exact lineTgt_ok _
end

/-- which part of a row a number is made of -/
def posOf : Nat → Nat
  | 0 => 0 | 1 => 1 | 2 => 4 | 3 => 5 | 4 => 8 | 5 => 9 | 6 => 2 | 7 => 3 | 8 => 6 | 9 => 7 | 10 => 10 | _ => 11

def numT (l : List Nat) : T := T.of fun s => (be (partL l (posOf s)) : Int)

/-- the numbers of row j are the variables of t -/
def numF (j t : Nat) : List (E × E × Bool) := [0, 1, 2, 3, 4, 5, 6, 7, 8, 9, 10, 11].map fun s => (.op 7 (.op 28 (.dt j) (.dt (posOf s))) (.dt 0), .dt (12 * t + s), true)

theorem numF_ok {R : Ev} {ts : List T} (hn : R.num = numOf ts) {j t : Nat} (h : ts.getD t T.zero = numT (R.bys j)) : FpFacts R (numF j t) := by
  intro x hx
  unfold numF at hx
  obtain ⟨s, hs, rfl⟩ := List.mem_map.1 hx
  have hs : s < 12 := by
    simp only [List.mem_cons, List.not_mem_nil, or_false] at hs
    omega
  refine decide_eq_true ?_
  apply Int.ofNat.inj
  show ((fpEv R (.op 7 (.op 28 (.dt j) (.dt (posOf s))) (.dt 0)) % fpQ : Nat) : Int) = ((R.num (12 * t + s) % fpQ : Nat) : Int)
  rw [fpEv_wide, Int.natCast_emod, Int.natCast_emod, hn, numOf_at _ _ hs, h, numT, T.get_of _ hs, Int.emod_emod_of_dvd _ (Int.dvd_refl _)]
  rfl

theorem toldTE {R : Ev} {F : List (E × E × Bool)} {L : List (Nat × Bool)} (hF : FpFacts R F) (h : ∀ x ∈ L, decide (2000 < (R.bys x.1).length) = x.2) : FpTold R { eqs := F, longs := L, lim := 2000 } :=
  ⟨hF, h, fun x hx => (by cases hx), fun x hx => (by cases hx), fun x hx => (by cases hx), fun x hx => (by cases hx), fun x hx => (by cases hx)⟩

end Go.Proofs.YtdconlmpjehohaaDoor
