/- Package fr: Read. Conditions: those of each theorem. -/
import Derived.Test.YtdconlmpjehohaaDoorSyFpG
namespace Go.Proofs.YtdconlmpjehohaaDoor
open Go.RowKit Sx
set_option linter.unusedVariables false

def hArg (i : Nat) : RV := .h (.op 20 (.dt i) (.dt 0))

/-- an argument: a row of bytes -/
theorem hArg_ok {R : Ev} {w : World} {A : Option Addr} {n c i : Nat} (hr : Rd w A (nums .u8 (R.bys i))) (hl : (R.bys i).length = n) (hc : n ≤ c) (hlt : ∀ g, blk A = some g → g < w.heap.size) : (hArg i).Is (fpDenS R) 0 w (.slice A n c) := by
  subst hl
  exact ⟨.inl ⟨.dt i, .dt 0, rfl, ⟨A, c, rfl, hr, hc, hlt⟩, fun h => (by injection h with h; cases h)⟩, fun g _ => Nat.zero_le g⟩

def rows (ls : List (List Nat)) (i : Nat) : List Nat := ls.getD i []

theorem rows_ok {ls : List (List Nat)} (h : ∀ l ∈ ls, l.length ≤ 140737488355328 ∧ ∀ x ∈ l, x < 256) (i : Nat) : (rows ls i).length ≤ 140737488355328 ∧ ∀ x ∈ rows ls i, x < 256 := by
  unfold rows
  by_cases hi : i < ls.length
  · have : ls.getD i [] = ls[i] := by simp [List.getD, hi]
    rw [this]
    exact h _ (List.getElem_mem _)
  · have : ls.getD i [] = [] := by simp [List.getD, List.getElem?_eq_none (Nat.le_of_not_lt hi)]
    rw [this]
    exact ⟨Nat.zero_le _, fun x hx => by cases hx⟩

/-- the words of 48 bytes -/
theorem fp_words {l : List Nat} (hl : l.length = 48) (hb : ∀ x ∈ l, x < 256) :
    fpV (be l) = .agg #[.int .u64 (be ((l.drop 40).take 8)), .int .u64 (be ((l.drop 32).take 8)), .int .u64 (be ((l.drop 24).take 8)), .int .u64 (be ((l.drop 16).take 8)), .int .u64 (be ((l.drop 8).take 8)), .int .u64 (be ((l.drop 0).take 8))] := by
  have lt : ∀ k, k + 8 ≤ 48 → be ((l.drop k).take 8) < 18446744073709551616 := fun k hk => by
    have := be_lt ((l.drop k).take 8) fun x hx => hb x (List.mem_of_mem_drop (List.mem_of_mem_take hx))
    rw [List.length_take, List.length_drop, hl, show min 8 (48 - k) = 8 by omega] at this
    exact this
  have cut : ∀ k, k + 8 ≤ 48 → be (l.drop k) = be ((l.drop k).take 8) * 256 ^ (48 - k - 8) + be (l.drop (k + 8)) := fun k hk => by
    conv => lhs; rw [← List.take_append_drop 8 (l.drop k)]
    rw [be_append, List.drop_drop, List.length_drop, hl, show 48 - (k + 8) = 48 - k - 8 by omega]
  have h0 := cut 0 (by omega)
  have h1 := cut 8 (by omega)
  have h2 := cut 16 (by omega)
  have h3 := cut 24 (by omega)
  have h4 := cut 32 (by omega)
  have h5 := cut 40 (by omega)
  have h6 : be (l.drop 48) = 0 := by rw [List.drop_eq_nil_of_le (by omega)]; rfl
  have e : be l = fpNum (be ((l.drop 40).take 8)) (be ((l.drop 32).take 8)) (be ((l.drop 24).take 8)) (be ((l.drop 16).take 8)) (be ((l.drop 8).take 8)) (be ((l.drop 0).take 8)) := by
    have hd : be l = be (l.drop 0) := rfl
    rw [hd, h0, h1, h2, h3, h4, h5, h6]
    unfold fpNum
    simp only [Nat.reduceSub, Nat.reducePow]
    omega
  rw [e, fpV_num (lt 40 (by omega)) (lt 32 (by omega)) (lt 24 (by omega)) (lt 16 (by omega)) (lt 8 (by omega)) (lt 0 (by omega))]

/-- the words of a row -/
def fpWords (L : List (Nat × Nat)) : List Atom → Option E
  | [.el (.op 13 (.op 22 x (.dt 40)) _), .el (.op 13 (.op 22 y (.dt 32)) _), .el (.op 13 (.op 22 z (.dt 24)) _), .el (.op 13 (.op 22 t (.dt 16)) _), .el (.op 13 (.op 22 u (.dt 8)) _), .el (.op 13 (.op 22 v (.dt 0)) _)] => match E.eqb x y, E.eqb x z, E.eqb x t, E.eqb x u, E.eqb x v, lenRow L x with
    | true, true, true, true, true, some 48 => some x
    | _, _, _, _, _, _ => none
  | _ => none

theorem fpWords_ok {R : Ev} (hR : R.Ok) {L : List (Nat × Nat)} (hL : ∀ x ∈ L, (R.bys x.1).length = x.2) {xs : List Atom} {e : E} (h : fpWords L xs = some e) {σ : Env} {v : Value} (hv : (V.agg xs).Is (fpDenS R) σ v) : v = fpV (be (R.row e)) ∧ (R.row e).length = 48 := by
  unfold fpWords at h
  split at h
  · rename_i x _ y _ z _ t _ u _ v _
    split at h
    · rename_i h1 h2 h3 h6 h7 h4
      injection h with h; subst h
      rw [← E.eqb_eq h1, ← E.eqb_eq h2, ← E.eqb_eq h3, ← E.eqb_eq h6, ← E.eqb_eq h7] at hv
      have hl := lenRow_ok hL h4
      obtain ⟨l, h5, rfl⟩ := hv
      injection h5 with h5; subst h5
      exact ⟨(fp_words hl (hR.rows _).2).symm, hl⟩
    · cases h
  · cases h

def fpGetE (L : List (Nat × Nat)) : Entry
  | [.held (.op 20 a _), .dt (.one (.int .i64 (.ofNat 8)))] => match lenRow L a with
    | some n => match Nat.ble 8 n with
      | true => some (.one (.dt (.one (.el (.op 13 a (.dt 0))))))
      | false => none
    | none => none
  | _ => none

theorem fpGetE_ok {R : Ev} (hR : R.Ok) {L : List (Nat × Nat)} (hL : ∀ x ∈ L, (R.bys x.1).length = x.2) : EntryOk (fpDenS R) FpTab 67 (fpGetE L) := by
  refine ⟨by kernel_rfl, fun cs r hr σ w vs hv hI => ?_⟩
  unfold fpGetE at hr
  split at hr
  · rename_i a b
    split at hr
    · rename_i n hn
      cases h8 : Nat.ble 8 n with
      | false => rw [h8] at hr; cases hr
      | true =>
        rw [h8] at hr
        injection hr with hr; subst hr
        obtain ⟨v, ws, rfl, hh20, u, us, rfl, h4, h5⟩ := hv
        obtain ⟨A, c, rfl, h1, h2, h3⟩ := hold20 hh20
        have h5 : us = [] := h5
        subst h5
        injection h4 with h4; injection h4 with h4; subst h4
        have hl := lenRow_ok hL hn
        have h8 := Nat.le_of_ble_eq_true h8
        refine (fp_get_calls A (R.row a) _ c 8 w h1 rfl h2 (by omega) (by omega) (hR.rows a).2).mono fun x w' ⟨h6, h7⟩ => ?_
        subst h7
        exact ⟨_, h6, Below.refl _ _, rfl⟩
    · cases hr
  · cases hr

/-- is the row's number below the modulus? -/
def ltOf : List (E × Bool) → E → Option Bool
  | [], _ => none
  | (x, b) :: r, e => match E.eqb x e with
    | true => some b
    | false => ltOf r e

theorem ltOf_ok {R : Ev} : ∀ {T : List (E × Bool)} (hT : ∀ x ∈ T, decide (be (R.row x.1) < fpQ) = x.2) {e : E} {b : Bool} (h : ltOf T e = some b), decide (be (R.row e) < fpQ) = b
  | [], hT, e, b, h => by cases h
  | (x, c) :: r, hT, e, b, h => by
    unfold ltOf at h
    split at h
    · rename_i he
      injection h with h; subst h
      rw [← E.eqb_eq he]
      exact hT (x, c) (by simp)
    · exact ltOf_ok (fun y hy => hT y (List.mem_cons_of_mem _ hy)) h

def fpLessE (L : List (Nat × Nat)) (T : List (E × Bool)) : Entry
  | [.dt (.agg xs)] => match fpWords L xs with
    | some e => match ltOf T e with
      | some b => some (boolR b)
      | none => none
    | none => none
  | _ => none

theorem fpLessE_ok {R : Ev} (hR : R.Ok) {L : List (Nat × Nat)} (hL : ∀ x ∈ L, (R.bys x.1).length = x.2) {T : List (E × Bool)} (hT : ∀ x ∈ T, decide (be (R.row x.1) < fpQ) = x.2) : EntryOk (fpDenS R) FpTab 68 (fpLessE L T) := by
  refine ⟨by kernel_rfl, fun cs r hr σ w vs hv hI => ?_⟩
  unfold fpLessE at hr
  split at hr
  · rename_i xs
    split at hr
    · rename_i e he
      split at hr
      · rename_i b hb
        injection hr with hr; subst hr
        obtain ⟨v, ws, rfl, h1, h2⟩ := hv
        have h2 : ws = [] := h2
        subst h2
        obtain ⟨rfl, hl⟩ := fpWords_ok hR hL he h1
        have hlt := be_lt (R.row e) (hR.rows e).2
        rw [hl] at hlt
        have := fp_less_calls (be (R.row e)) w hI hlt
        rw [ltOf_ok hT hb] at this
        exact calls_bool this
      · cases hr
    · cases hr
  · cases hr

/-- Mul: of two numbers; of a row's words and the square -/
def fpMulE (L : List (Nat × Nat)) (T : List (E × Bool)) : Entry := fun cs => match fp2 cs with
  | some (a, b) => some (.one (.dt (.agg [.el (.op 2 a b)])))
  | none => match cs with
    | [.dt (.agg xs), .dt (.agg [.int .u64 (.ofNat 17644856173732828998), .int .u64 (.ofNat 754043588434789617), .int .u64 (.ofNat 10224657059481499349), .int .u64 (.ofNat 7488229067341005760), .int .u64 (.ofNat 11130996698012816685), .int .u64 (.ofNat 1267921511277847466)])] => match fpWords L xs with
      | some e => match ltOf T e with
        | some true => some (.one (.dt (.agg [.el (.op 7 e (.dt 0))])))
        | _ => none
      | none => none
    | _ => none

theorem fpMulE_ok {R : Ev} (hR : R.Ok) {L : List (Nat × Nat)} (hL : ∀ x ∈ L, (R.bys x.1).length = x.2) {T : List (E × Bool)} (hT : ∀ x ∈ T, decide (be (R.row x.1) < fpQ) = x.2) : EntryOk (fpDenS R) FpTab 45 (fpMulE L T) := by
  refine ⟨by kernel_rfl, fun cs r hr σ w vs hv hI => ?_⟩
  unfold fpMulE at hr
  split at hr
  · rename_i a b hc
    injection hr with hr; subst hr
    rw [fp2_ok hc hv]
    refine calls_el (e := .op 2 a b) rfl ?_
    rw [fpEv_mul]
    exact fp_mulE _ _ w hI
  · split at hr
    · rename_i xs
      split at hr
      · rename_i e he
        split at hr
        · rename_i hb
          injection hr with hr; subst hr
          obtain ⟨v, ws, rfl, h1, u, us, rfl, h2, h3⟩ := hv
          have h3 : us = [] := h3
          subst h3
          obtain ⟨rfl, hl⟩ := fpWords_ok hR hL he h1
          obtain ⟨l, h4, rfl⟩ := h2
          injection h4 with h4; subst h4
          have hlt : be (R.row e) < fpQ := of_decide_eq_true (ltOf_ok hT hb)
          refine calls_el (e := .op 7 e (.dt 0)) rfl ?_
          rw [fpEv_wide]
          have := fp_mul_calls (be (R.row e)) fpSq w hI hlt fpSq_lt
          rw [fpMont_sq, fpSq_val] at this
          exact this
        · cases hr
      · cases hr
    · cases hr

/-- what Read answers of a row -/
def fpReadR (L N : List (Nat × Nat)) (T : List (E × Bool)) (e : E) : Option Res := match lenRow L e with
  | some 48 => match ltOf T e with
    | some true => some (.tup [.dt (.agg [.el (.op 7 e (.dt 0))]), .dt (.one (.int .i64 0))])
    | some false => some (.tup [.dt (.agg (u64s [0, 0, 0, 0, 0, 0])), .dt (.one (.int .i64 12))])
    | none => none
  | _ => match e with
    | .dt i => match find N i with
      | some 48 => some (.tup [.dt (.agg (u64s [0, 0, 0, 0, 0, 0])), .dt (.one (.int .i64 10))])
      | _ => none
    | _ => none

def fpReadTab (X : Fx) : Tab := fpTable X [(67, fpGetE X.lens), (68, fpLessE X.lens X.lts), (45, fpMulE X.lens X.lts)]

section
set_option maxRecDepth 100000
theorem fpRead_run0 : runFn Tryd.prog (fpReadTab { lens := [(0, 48)], lts := [(.dt 0, true)] }) 200 Tryd.f50 [hArg 0] = some (.tup [.dt (.agg [.el (.op 7 (.dt 0) (.dt 0))]), .dt (.one (.int .i64 0))]) := by kernel_rfl
theorem fpRead_run1 : runFn Tryd.prog (fpReadTab { lens := [(0, 48)], lts := [(.dt 0, false)] }) 200 Tryd.f50 [hArg 0] = some (.tup [.dt (.agg (u64s [0, 0, 0, 0, 0, 0])), .dt (.one (.int .i64 12))]) := by kernel_rfl
theorem fpRead_run2 : runFn Tryd.prog (fpReadTab { nlens := [(0, 48)] }) 200 Tryd.f50 [hArg 0] = some (.tup [.dt (.agg (u64s [0, 0, 0, 0, 0, 0])), .dt (.one (.int .i64 10))]) := by kernel_rfl
end

/-- the number and the error that Read answers -/
def fpReadN (l : List Nat) : Nat × Int := if l.length = 48 then (if be l < fpQ then (be l, 0) else (0, 12)) else (0, 10)

theorem fp_read_calls (A : Option Addr) (l : List Nat) (n c : Nat) (w : World) (ht : FpTab w) (hr : Rd w A (nums .u8 l)) (hl : l.length = n) (hc : n ≤ c) (hn : n ≤ 140737488355328) (hb : ∀ x ∈ l, x < 256) (hk : ∀ g, blk A = some g → g < w.heap.size) :
    Calls Tryd.prog 50 #[.slice A n c] w fun e w' => e = .returned (.tuple #[fpE (fpReadN l).1, .int .i64 (fpReadN l).2]) ∧ Below w.heap.size w w' := by
  obtain ⟨inv, hinv⟩ := inv_ex
  obtain ⟨sqr, hsqr⟩ := sqr_ex
  let R : Ev := ⟨fun _ => 0, rows [l], inv, sqr⟩
  have hR : R.Ok := ⟨rows_ok (by simp only [List.forall_mem_cons]; exact ⟨⟨hl ▸ hn, hb⟩, fun x hx => by cases hx⟩), hinv, hsqr⟩
  have hin : RVsIs (fpDenS R) 0 w [hArg 0] [.slice A n c] := ⟨_, _, rfl, hArg_ok (R := R) (i := 0) hr hl hc hk, rfl⟩
  have go : ∀ X r, FpTold R X → runFn Tryd.prog (fpReadTab X) 200 Tryd.f50 [hArg 0] = some r → _ := fun X r hX hrun =>
    calls_run (fpRight (l := [(67, fpGetE X.lens), (68, fpLessE X.lens X.lts), (45, fpMulE X.lens X.lts)]) hX (by
      simp only [List.forall_mem_cons]
      exact ⟨fpGetE_ok hR hX.lens, fpLessE_ok hR hX.lens hX.lts, fpMulE_ok hR hX.lens hX.lts, fun x hx => by cases hx⟩)) mixed Tryd.func50 hrun hin fun w' hb => ht.below hb
  have hrow : R.row (.dt 0) = l := rfl
  by_cases h48 : l.length = 48
  · by_cases hq : be l < fpQ
    · have e1 : fpReadN l = (be l, 0) := by unfold fpReadN; rw [if_pos h48, if_pos hq]
      rw [e1]
      refine (go _ _ ⟨fun x hx => (by cases hx), fun x hx => (by cases hx), fun x hx => (by simp at hx; subst hx; exact h48), fun x hx => (by cases hx), fun x hx => (by cases hx), fun x hx => (by simp at hx; subst hx; exact decide_eq_true hq), fun x hx => (by cases hx)⟩ fpRead_run0).mono ?_
      rintro e w' ⟨v, h1, h2, vs, rfl, v0, ws, rfl, h3, v1, us, rfl, h4, h5⟩
      have h5 : us = [] := h5
      subst h5
      have h3 : ∃ m, some (fpDen R (.op 7 (.dt 0) (.dt 0)) ++ []) = some m ∧ v0 = .agg m.toArray := h3
      obtain ⟨m, h6, rfl⟩ := h3
      injection h6 with h6; subst h6
      injection h4 with h4; injection h4 with h4; subst h4
      refine ⟨?_, h2⟩
      rw [h1, List.append_nil, isFp_den rfl, fpEv_wide, hrow, ← fpCells_ok]
    · have e1 : fpReadN l = (0, 12) := by unfold fpReadN; rw [if_pos h48, if_neg hq]
      rw [e1]
      refine (go _ _ ⟨fun x hx => (by cases hx), fun x hx => (by cases hx), fun x hx => (by simp at hx; subst hx; exact h48), fun x hx => (by cases hx), fun x hx => (by cases hx), fun x hx => (by simp at hx; subst hx; exact decide_eq_false hq), fun x hx => (by cases hx)⟩ fpRead_run1).mono ?_
      rintro e w' ⟨v, h1, h2, vs, rfl, v0, ws, rfl, h3, v1, us, rfl, h4, h5⟩
      have h5 : us = [] := h5
      subst h5
      obtain ⟨m, h6, rfl⟩ := h3
      injection h6 with h6; subst h6
      injection h4 with h4; injection h4 with h4; subst h4
      exact ⟨by rw [h1, fpE_zero]; rfl, h2⟩
  · have e1 : fpReadN l = (0, 10) := by unfold fpReadN; rw [if_neg h48]
    rw [e1]
    refine (go _ _ ⟨fun x hx => (by cases hx), fun x hx => (by cases hx), fun x hx => (by cases hx), fun x hx => (by simp at hx; subst hx; exact h48), fun x hx => (by cases hx), fun x hx => (by cases hx), fun x hx => (by cases hx)⟩ fpRead_run2).mono ?_
    rintro e w' ⟨v, h1, h2, vs, rfl, v0, ws, rfl, h3, v1, us, rfl, h4, h5⟩
    have h5 : us = [] := h5
    subst h5
    obtain ⟨m, h6, rfl⟩ := h3
    injection h6 with h6; subst h6
    injection h4 with h4; injection h4 with h4; subst h4
    exact ⟨by rw [h1, fpE_zero]; rfl, h2⟩

end Go.Proofs.YtdconlmpjehohaaDoor
