/- Power in the table; the walk of TowerFrob. Conditions: those of each theorem. -/
import Derived.Test.YtdconlmpjehohaaDoorTwS5
namespace Go.Proofs.YtdconlmpjehohaaDoor
open Go.RowKit Sx
set_option linter.unusedVariables false

abbrev Px := List (List E × List Nat × List Nat)

def eqbN : List Nat → List Nat → Bool
  | [], [] => true
  | a :: l, b :: m => match Nat.beq a b with
    | true => eqbN l m
    | false => false
  | _, _ => false

theorem eqbN_eq : ∀ {l m : List Nat}, eqbN l m = true → l = m
  | [], [], h => rfl
  | [], _ :: _, h => by cases h
  | _ :: _, [], h => by cases h
  | a :: l, b :: m, h => by
    unfold eqbN at h
    split at h
    · rename_i h1
      rw [Nat.eq_of_beq_eq_true h1, eqbN_eq h]
    · cases h

def findP : Px → List E → List Nat → Option (List Nat)
  | [], _, _ => none
  | (es, l, rs) :: r, x, e => match eqbL es x, eqbN l e with
    | true, true => some rs
    | _, _ => findP r x e

theorem findP_mem : ∀ {Y : Px} {x : List E} {e rs : List Nat}, findP Y x e = some rs → (x, e, rs) ∈ Y
  | [], x, e, rs, h => by cases h
  | (es, l, r') :: Y, x, e, rs, h => by
    unfold findP at h
    split at h
    · rename_i h1 h2
      have h := Option.some.inj h
      subst h
      rw [eqbL_eq h1, eqbN_eq h2]; simp
    · exact List.mem_cons_of_mem _ (findP_mem h)

/-- the number that codes are -/
def tOf (R : Ev) (es : List E) : T := T.of fun k => ((fpEv R (es.getD k zE) : Nat) : Int)

theorem tOf_cells {R : Ev} {es : List E} (h : es.length = 12) : ((es.map (fpEv R)).flatMap fpCells).toArray = tC (tOf R es) := by
  unfold tC
  congr 1
  refine cells_same (nat_list ?_)
  rw [tN_int]
  have e : es = (List.range 12).map fun k => es.getD k zE := by
    refine List.ext_getElem (by simp [h]) fun i h1 h2 => ?_
    simp [List.getD, h1]
  rw [e]
  simp only [List.map_map]
  refine List.map_congr_left fun k hk => ?_
  have hk : k < 12 := List.mem_range.1 hk
  unfold tOf
  rw [T.get_of _ hk]
  rw [← e]
  rfl

def ToldP (R : Ev) (Y : Px) : Prop := ∀ c ∈ Y, ((dts c.2.2).map (fpEv R)).map (· % fpQ) = (tN ((tOf R c.1).pow (be c.2.1))).map (· % fpQ)

/-- Power with bytes that are known -/
def powE (Y : Px) : Entry := fun cs => match cs with
  | [.dt (.agg xs), .view ys] => match fpEls 12 xs, bytesOf ys with
    | some es, some l => match findP Y es l, Nat.blt l.length 1000 with
      | some rs, true => some (.one (.dt (.agg (els (dts rs)))))
      | _, _ => none
    | _, _ => none
  | _ => none

theorem allFp_dts : ∀ l : List Nat, allFp (dts l) = true
  | [] => rfl
  | i :: l => allFp_dts l

theorem powE_ok {R : Ev} {Y : Px} (hY : ToldP R Y) : EntryOk (fpDenS R) FpTab 12 (powE Y) := by
  refine ⟨by kernel_rfl, fun cs r hr σ w vs hv hI => ?_⟩
  unfold powE at hr
  split at hr
  · rename_i xs ys
    split at hr
    · rename_i es l hes hl
      split at hr
      · rename_i rs hrs hlt
        injection hr with hr; subst hr
        have hlt : l.length < 1000 := Nat.le_of_ble_eq_true hlt
        obtain ⟨v, ws, rfl, ⟨m, hm, rfl⟩, v2, ws2, rfl, ⟨bk, o, c, m2, rfl, hlc, h1, h2, h3⟩, h4⟩ := hv
        have h4 : ws2 = [] := h4
        subst h4
        obtain ⟨h5, h6⟩ := fpEls_ok hes hm
        obtain ⟨rfl, hb⟩ := bytesOf_ok hl h1
        have hlen : (nums .u8 l).length = l.length := nums_length _ _
        rw [hlen] at hlc ⊢
        have hc := tw_power_calls (tOf R es) (some ⟨bk, o, none⟩) l _ c w hI (.inr ⟨bk, o, rfl, h2, h3⟩) rfl hlc (by omega) hb
        have e1 : Value.agg m.toArray = tE (tOf R es) := by rw [h5, tOf_cells h6]; rfl
        rw [← e1] at hc
        refine hc.mono fun x w' ⟨h7, h8⟩ => ⟨_, h7, h8, ?_⟩
        refine ⟨_, els_cells (allFp_dts rs), ?_⟩
        have h9 := hY _ (findP_mem hrs)
        rw [cells_same h9]
        rfl
      · cases hr
    · cases hr
  · cases hr

/-- Bytes of a number that is known -/
def bytesLE : Entry := fun cs => match fp1 cs with
  | some a => match litOf a with
    | some n => some (.one (.dt (.agg ((digs 48 (n % fpQ)).map fun d => .int .u8 (.ofNat d)))))
    | none => some (.one (.dt (.agg [.el (.op 10 a (.dt 0))])))
  | none => none

theorem ints_cells {D : Den} {σ : Env} : ∀ l : List Nat, cellsL D σ (l.map fun d => Atom.int .u8 (.ofNat d)) = some (nums .u8 l)
  | [] => rfl
  | d :: l => cellsL_mk (x := [.int .u8 (.ofNat d)]) rfl (ints_cells l)

theorem bytesLE_ok (R : Ev) : EntryOk (fpDenS R) FpTab 24 bytesLE := by
  refine ⟨by kernel_rfl, fun cs r hr σ w vs hv hI => ?_⟩
  unfold bytesLE at hr
  split at hr
  · rename_i a hc
    split at hr
    · rename_i n hn
      injection hr with hr; subst hr
      rw [fp1_ok hc hv]
      refine (fp_bytes_calls (fpEv R a) w hI).mono fun x w' ⟨h1, h2⟩ => ⟨_, h1, h2, nums .u8 (digs 48 (fpEv R a % fpQ)), ?_, rfl⟩
      rw [litOf_ok hn]
      exact ints_cells _
    · injection hr with hr; subst hr
      rw [fp1_ok hc hv]
      exact (fp_bytes_calls (fpEv R a) w hI).mono fun x w' ⟨h1, h2⟩ => ⟨_, h1, h2, nums .u8 (digs 48 (fpEv R a % fpQ)) ++ [], rfl, by rw [List.append_nil]⟩
  · cases hr

/-- the table with Power -/
noncomputable def twP (P : Program) (X : Fx) (nums : List (Nat × Nat)) (Y : Tx) (Yp : Px) : List (Nat × Entry) := (12, powE Yp) :: (24, bytesLE) :: twZ P X nums Y []

theorem twP_ok {R : Ev} {X : Fx} {Y : Tx} {Yp : Px} (hR : R.Ok) (hX : FpTold R X) (hY : Told R allTgt2 Y) (hP : ToldP R Yp) (nums : List (Nat × Nat)) : ∀ x ∈ twP Tryd.prog X nums Y Yp, EntryOk (fpDenS R) FpTab x.1 x.2 := by
  unfold twP
  simp only [List.forall_mem_cons]
  exact ⟨powE_ok hP, bytesLE_ok R, twZ_ok hR hX hY ⟨fun c hc => (by cases hc), fun c hc => (by cases hc)⟩ nums⟩

theorem twP_law {R : Ev} {X : Fx} {nums : List (Nat × Nat)} {Y : Tx} {Yp : Px} {f : FuncId} {fn : Func} (hf : Tryd.prog.funcs[f]? = some fn) {ins : List RV} (hR : R.Ok) (hX : FpTold R X) (hY : Told R allTgt2 Y) (hP : ToldP R Yp) (hrun : runFn Tryd.prog (fpTable X (twP Tryd.prog X nums Y Yp)) 400 fn ins = some (boolR true))
    {vs : List Value} {w : World} (ht : FpTab w) (hin : RVsIs (fpDenS R) 0 w ins vs) : Calls Tryd.prog f vs.toArray w fun e w' => e = .returned (.bool true) ∧ Below w.heap.size w w' :=
  bool_post (calls_run (fpRight hX (twP_ok hR hX hY hP nums)) mixed hf hrun hin fun w' hb => ht.below hb)

/-- what is told of a power -/
theorem told_pow {R : Ev} {ts : List T} (hn : R.num = numOf ts) {a c : Nat} {l : List Nat} (h : Cg (ts.getD c T.zero) ((ts.getD a T.zero).pow (be l))) : ((dts (tupI c)).map (fpEv R)).map (· % fpQ) = (tN ((tOf R (dts (tupI a))).pow (be l))).map (· % fpQ) := by
  apply nat_list
  rw [tupI_vals hn, tN_int]
  refine List.map_congr_left fun k hk => ?_
  refine (h.trans (Cg.pow ?_ _)).get k
  refine (red_cg hn a).symm.trans (Cg.of_eq ?_)
  unfold red tOf
  refine T.ext_get fun k hk => ?_
  rw [T.get_of _ hk, T.get_of _ hk, dts_getD R (tupI a) (by exact hk)]
  match k, hk with
  | 0, _ => rfl
  | 1, _ => rfl
  | 2, _ => rfl
  | 3, _ => rfl
  | 4, _ => rfl
  | 5, _ => rfl
  | 6, _ => rfl
  | 7, _ => rfl
  | 8, _ => rfl
  | 9, _ => rfl
  | 10, _ => rfl
  | 11, _ => rfl

def frL : List Nat := digs 48 fpQ
theorem frL_be : be frL = fpQ := by unfold frL; rw [be_digs]; decide +kernel

def frX : Fx := { eqs := numF 0 0 ++ numF 1 1, longs := [(0, false), (1, false)], lim := 2000 }
def frY : Tx := [(4, dts (tupI 0), dts (tupI 2)), (0, dts (tupI 0 ++ tupI 1), dts (tupI 3)), (4, dts (tupI 3), dts (tupI 4)), (4, dts (tupI 1), dts (tupI 5)), (0, dts (tupI 2 ++ tupI 5), dts (tupI 4)),
  (4, dts (tupI 2), dts (tupI 6)), (4, dts (tupI 6), dts (tupI 7)), (4, dts (tupI 7), dts (tupI 8)), (4, dts (tupI 8), dts (tupI 9)), (4, dts (tupI 9), dts (tupI 10)), (2, dts (tupI 0), dts (tupI 10))]
def frP : Px := [(dts (tupI 0), frL, tupI 2)]
def frT (x y : T) : List T := [x, y, x.frob, x.mul y, (x.mul y).frob, y.frob, x.frob.frob, x.frob.frob.frob, x.frob.frob.frob.frob, x.frob.frob.frob.frob.frob, x.conj]

section
set_option maxRecDepth 100000
theorem towerFrob_run0 : runFn Tryd.prog (fpTable { longs := [(0, true)], lim := 2000 } (twAll Tryd.prog { longs := [(0, true)], lim := 2000 })) 400 Tryd.f6 [hArg 0, hArg 1] = some (boolR true) := by kernel_rfl
theorem towerFrob_run1 : runFn Tryd.prog (fpTable { longs := [(0, false), (1, true)], lim := 2000 } (twAll Tryd.prog { longs := [(0, false), (1, true)], lim := 2000 })) 400 Tryd.f6 [hArg 0, hArg 1] = some (boolR true) := by kernel_rfl
theorem towerFrob_run2 : runFn Tryd.prog (fpTable frX (twP Tryd.prog frX [(0, 0), (1, 1)] frY frP)) 400 Tryd.f6 [hArg 0, hArg 1] = some (boolR true) := by kernel_rfl
end

theorem towerFrob_calls (A0 A1 : Option Addr) (n0 n1 c0 c1 : Nat) (l0 l1 : List Nat) (w : World) (ht : FpTab w)
    (hr0 : Rd w A0 (nums .u8 l0)) (hl0 : l0.length = n0) (hc0 : n0 ≤ c0) (hn0 : n0 ≤ 140737488355328) (hb0 : ∀ x ∈ l0, x < 256) (hk0 : ∀ g, blk A0 = some g → g < w.heap.size)
    (hr1 : Rd w A1 (nums .u8 l1)) (hl1 : l1.length = n1) (hc1 : n1 ≤ c1) (hn1 : n1 ≤ 140737488355328) (hb1 : ∀ x ∈ l1, x < 256) (hk1 : ∀ g, blk A1 = some g → g < w.heap.size) :
    Calls Tryd.prog 6 #[.slice A0 n0 c0, .slice A1 n1 c1] w fun e w' => e = .returned (.bool true) ∧ Below w.heap.size w w' := by
  obtain ⟨inv, hinv⟩ := inv_ex
  obtain ⟨sqr_, hsqr⟩ := sqr_ex
  let R : Ev := ⟨numOf (frT (numT l0) (numT l1)), rows [l0, l1], inv, sqr_⟩
  have hR : R.Ok := ⟨rows_ok (by simp only [List.forall_mem_cons]; exact ⟨⟨hl0 ▸ hn0, hb0⟩, ⟨hl1 ▸ hn1, hb1⟩, fun x hx => by cases hx⟩), hinv, hsqr⟩
  have hin : RVsIs (fpDenS R) 0 w [hArg 0, hArg 1] [.slice A0 n0 c0, .slice A1 n1 c1] :=
    ⟨_, _, rfl, hArg_ok (R := R) (i := 0) hr0 hl0 hc0 hk0, _, _, rfl, hArg_ok (R := R) (i := 1) hr1 hl1 hc1 hk1, rfl⟩
  have go : ∀ X, FpTold R X → runFn Tryd.prog (fpTable X (twAll Tryd.prog X)) 400 Tryd.f6 [hArg 0, hArg 1] = some (boolR true) → _ := fun X hX hrun => tw_law Tryd.func6 hR hX hrun ht hin
  by_cases h0 : 2000 < l0.length
  · exact go _ (toldT (by intro x hx; simp at hx; subst hx; exact decide_eq_true h0)) towerFrob_run0
  by_cases h1 : 2000 < l1.length
  · exact go _ (toldT (by intro x hx; simp at hx; rcases hx with rfl | rfl; exact decide_eq_false h0; exact decide_eq_true h1)) towerFrob_run1
  have hn : R.num = numOf (frT (numT l0) (numT l1)) := rfl
  refine twP_law Tryd.func6 hR ?_ ?_ ?_ towerFrob_run2 ht hin
  · exact toldTE (facts_app (numF_ok hn (j := 0) (t := 0) rfl) (numF_ok hn (j := 1) (t := 1) rfl)) (by intro x hx; simp at hx; rcases hx with rfl | rfl; exact decide_eq_false h0; exact decide_eq_false h1)
  · intro c hc
    simp only [frY, List.mem_cons, List.not_mem_nil, or_false] at hc
    rcases hc with rfl | rfl | rfl | rfl | rfl | rfl | rfl | rfl | rfl | rfl | rfl
    · exact told2_frob hn (a := 0) (c := 2) (Cg.refl _)
    · exact told2_mul hn (a := 0) (b := 1) (c := 3) (Cg.refl _)
    · exact told2_frob hn (a := 3) (c := 4) (Cg.refl _)
    · exact told2_frob hn (a := 1) (c := 5) (Cg.refl _)
    · exact told2_mul hn (a := 2) (b := 5) (c := 4) (frob_mul _ _)
    · exact told2_frob hn (a := 2) (c := 6) (Cg.refl _)
    · exact told2_frob hn (a := 6) (c := 7) (Cg.refl _)
    · exact told2_frob hn (a := 7) (c := 8) (Cg.refl _)
    · exact told2_frob hn (a := 8) (c := 9) (Cg.refl _)
    · exact told2_frob hn (a := 9) (c := 10) (frob6 _).symm
    · exact told2_conj hn (a := 0) (c := 10) (Cg.refl _)
  · intro c hc
    simp only [frP, List.mem_singleton] at hc
    subst hc
    refine told_pow hn (a := 0) (c := 2) (l := frL) ?_
    rw [frL_be]
    exact (frob_pow rfl _).symm

end Go.Proofs.YtdconlmpjehohaaDoor
