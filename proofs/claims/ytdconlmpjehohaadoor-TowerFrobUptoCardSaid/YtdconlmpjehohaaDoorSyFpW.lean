/- Package fp: the reference's functions as entries of the table. Conditions: those of each theorem. -/
import Derived.Test.YtdconlmpjehohaaDoorSyFpP
import Derived.Test.YtdconlmpjehohaaDoorRefI
namespace Go.Proofs.YtdconlmpjehohaaDoor
open Go.RowKit Sx
set_option linter.unusedVariables false

/-- a plain number's code, out of an argument -/
def wArg : CArg → Option E
  | .held (.op 21 a _) => some a
  | .dt (.one .nils) => some (.op 40 (.dt 0) (.dt 0))
  | .view [.int .u32 (.ofNat n)] => match Nat.blt n 65536 with
    | true => some (.op 40 (.dt n) (.dt 0))
    | false => none
  | _ => none

theorem wMin_lit {n : Nat} (h : n < 65536) (b : E) : wMin (.op 40 (.dt n) b) = 0 := by
  show (match Nat.beq n fpQ with
    | true => 24
    | false => 0) = 0
  cases hb : Nat.beq n fpQ with
  | false => rfl
  | true =>
    have e := Nat.eq_of_beq_eq_true hb
    exact absurd h (by rw [e]; decide +kernel)

theorem wArg_ok {R : Ev} {σ : Env} {w : World} {c : CArg} {a : E} {v : Value} (h : wArg c = some a) (hv : c.Is (fpDenS R) σ w v) : fpWds R a v w := by
  unfold wArg at h
  split at h
  · injection h with h; subst h
    exact hold21 hv
  · injection h with h; subst h
    have hv : some [Value.slice none 0 0] = some [v] := hv
    injection hv with hv; injection hv with hv; subst hv
    exact ⟨none, 0, [], rfl, Rd.nil _ _, Nat.le_refl _, fun g hg => (by cases hg), fun x hx => (by cases hx), (wdE_lit R 0 _).symm, Nat.zero_le _, (by rw [wMin_lit (by omega)]; exact Nat.le_refl _)⟩
  · rename_i n
    split at h
    · rename_i hn
      injection h with h; subst h
      have hn : n < 65536 := Nat.le_of_ble_eq_true hn
      obtain ⟨bk, o, c, l, rfl, hlc, h1, h2, h3⟩ := hv
      injection h1 with h1; subst h1
      refine ⟨some ⟨bk, o, none⟩, c, [n], rfl, .inr ⟨bk, o, rfl, h2, fun j hj => ?_⟩, hlc, fun g hg => (by injection hg with hg; subst hg; exact h2), fun x hx => (by simp at hx; subst hx; exact hn), (by rw [wdE_lit]; simp [le]), (by show 1 ≤ 24; omega), (by rw [wMin_lit hn]; exact Nat.zero_le _)⟩
      exact h3 j hj
    · cases h
  · cases h

theorem wMax_le (a : E) : wMax a ≤ 70368744177664 := by
  cases a with
  | dt i => exact Nat.zero_le _
  | op k x y => simp only [wMax]; split <;> omega

/-- rows that are handed in -/
def basic : E → Bool
  | .dt _ => true
  | .op k a b => match k with
    | 22 => basic a
    | 23 => basic a
    | 28 => basic a
    | _ => false

theorem basic_ok (R : Ev) : ∀ {a : E}, basic a = true → R.row a = R.row0 a
  | .dt i, h => rfl
  | .op k a b, h => by
    unfold basic at h
    split at h
    · show (match b with
        | .dt n => (R.row a).drop n
        | _ => []) = (match b with
        | .dt n => (R.row0 a).drop n
        | _ => [])
      rw [basic_ok R h]
    · show (match b with
        | .dt n => (R.row a).take n
        | _ => []) = (match b with
        | .dt n => (R.row0 a).take n
        | _ => [])
      rw [basic_ok R h]
    · show (match b with
        | .dt n => partL (R.row a) n
        | _ => []) = (match b with
        | .dt n => partL (R.row0 a) n
        | _ => [])
      rw [basic_ok R h]
    · cases h

/-- is it below the modulus? -/
def below (X : Fx) : E → Bool
  | .dt _ => false
  | .op k a _ => match k with
    | 45 => true
    | 46 => true
    | 40 => match a with
      | .dt n => Nat.blt n fpQ
      | _ => false
    | 41 => match basic a, ltOf X.lts a with
      | true, some true => true
      | _, _ => false
    | 47 => match a with
      | .dt i => X.small.any (Nat.beq i)
      | _ => false
    | _ => false

theorem below_ok {R : Ev} {X : Fx} (hX : FpTold R X) {a : E} (h : below X a = true) : wdE R a < fpQ := by
  have hq : 0 < fpQ := by decide
  unfold below at h
  split at h
  · cases h
  · split at h
    · rw [wdE_mod]; exact Nat.mod_lt _ hq
    · rw [wdE_sqr]; exact Nat.mod_lt _ hq
    · split at h
      · rw [wdE_lit]; exact Nat.le_of_ble_eq_true h
      · cases h
    · split at h
      · rename_i hb hl
        rw [wdE_row, ← basic_ok R hb]
        exact of_decide_eq_true (ltOf_ok hX.lts hl)
      · cases h
    · split at h
      · rename_i i
        rw [wdE_num]
        rw [List.any_eq_true] at h
        obtain ⟨j, hj, he⟩ := h
        have e := Nat.eq_of_beq_eq_true he
        subst e
        exact Nat.lt_trans (hX.small _ hj) (by decide)
      · cases h
    · cases h

/-- no more than the modulus -/
def atMost (X : Fx) (a : E) : Bool := match below X a with
  | true => true
  | false => false

/-- a + q - b, of b below q -/
def subOk (X : Fx) (a b : E) : Bool := match a with
  | .op 42 _ (.op 40 (.dt q) _) => match Nat.beq q fpQ, below X b with
    | true, true => true
    | _, _ => false
  | _ => false

theorem subOk_ok {R : Ev} {X : Fx} (hX : FpTold R X) {a b : E} (h : subOk X a b = true) : wdE R b ≤ wdE R a := by
  unfold subOk at h
  split at h
  · rename_i x q y
    split at h
    · rename_i hq hb
      have e := Nat.eq_of_beq_eq_true hq
      subst e
      have := below_ok hX hb
      rw [wdE_add, wdE_lit]
      omega
    · cases h
  · cases h

/-- the element of a plain number -/
def toFp (X : Fx) : E → Option E
  | .dt _ => none
  | .op k a b => match k with
    | 40 => match a with
      | .dt n => some (.op 0 (.dt n) (.dt 0))
      | _ => none
    | 41 => match basic a with
      | true => some (.op 7 a (.dt 0))
      | false => none
    | 42 => match toFp X a, toFp X b with
      | some x, some y => some (.op 1 x y)
      | _, _ => none
    | 43 => match subOk X a b, toFp X a, toFp X b with
      | true, some x, some y => some (.op 3 x y)
      | _, _, _ => none
    | 44 => match toFp X a, toFp X b with
      | some x, some y => some (.op 2 x y)
      | _, _ => none
    | 45 => toFp X a
    | 46 => match toFp X a with
      | some x => some (.op 6 x (.dt 0))
      | none => none
    | 47 => match a with
      | .dt i => some (.dt i)
      | _ => none
    | _ => none

theorem toFp_is {X : Fx} : ∀ {a e : E}, toFp X a = some e → isFp e = true
  | .dt i, e, h => by cases h
  | .op k a b, e, h => by
    unfold toFp at h
    split at h
    · split at h
      · injection h with h; subst h; rfl
      · cases h
    · split at h
      · injection h with h; subst h; rfl
      · cases h
    · split at h
      · injection h with h; subst h; rfl
      · cases h
    · split at h
      · injection h with h; subst h; rfl
      · cases h
    · split at h
      · injection h with h; subst h; rfl
      · cases h
    · exact toFp_is h
    · split at h
      · injection h with h; subst h; rfl
      · cases h
    · split at h
      · injection h with h; subst h; rfl
      · cases h
    · cases h

theorem pow_cong {q a b : Nat} (k : Nat) (h : a % q = b % q) : a ^ k % q = b ^ k % q := by
  rw [Nat.pow_mod, h, ← Nat.pow_mod]

theorem sqr_mod {R : Ev} (hR : R.Ok) {a b : Nat} (h : a % fpQ = b % fpQ) : R.sqr a % fpQ = R.sqr b % fpQ := by
  rw [hR.sqr, hR.sqr]
  exact pow_cong fpS h

theorem toFp_ok {R : Ev} (hR : R.Ok) {X : Fx} (hX : FpTold R X) : ∀ {a e : E}, toFp X a = some e → fpEv R e % fpQ = wdE R a % fpQ
  | .dt i, e, h => by cases h
  | .op k a b, e, h => by
    unfold toFp at h
    split at h
    · split at h
      · injection h with h; subst h; rw [fpEv_lit, wdE_lit]
      · cases h
    · split at h
      · rename_i hb
        injection h with h; subst h; rw [fpEv_wide, wdE_row, basic_ok R hb]
      · cases h
    · split at h
      · rename_i x y hx hy
        injection h with h; subst h
        rw [fpEv_add, wdE_add, Nat.add_mod, toFp_ok hR hX hx, toFp_ok hR hX hy, ← Nat.add_mod]
      · cases h
    · split at h
      · rename_i x y hs hx hy
        injection h with h; subst h
        have hle := subOk_ok hX hs
        rw [fpEv_sub, wdE_sub, toFp_ok hR hX hy]
        have e1 := toFp_ok hR hX hx
        have hlt : wdE R b % fpQ < fpQ := Nat.mod_lt _ (by decide)
        generalize fpEv R x = u at *
        generalize wdE R a = p at *
        generalize wdE R b = r at *
        have e2 : (u + (fpQ - r % fpQ)) % fpQ = (p + (fpQ - r % fpQ)) % fpQ := by
          rw [Nat.add_mod, e1, ← Nat.add_mod]
        rw [e2]
        have e3 : p + (fpQ - r % fpQ) = (p - r) + fpQ * (r / fpQ + 1) := by
          have := Nat.div_add_mod r fpQ
          rw [Nat.mul_add, Nat.mul_one]
          omega
        rw [e3, Nat.add_mul_mod_self_left]
      · cases h
    · split at h
      · rename_i x y hx hy
        injection h with h; subst h
        rw [fpEv_mul, wdE_mul, Nat.mul_mod, toFp_ok hR hX hx, toFp_ok hR hX hy, ← Nat.mul_mod]
      · cases h
    · rw [wdE_mod, Nat.mod_mod]; exact toFp_ok hR hX h
    · split at h
      · rename_i x hx
        injection h with h; subst h
        rw [fpEv_sqr, wdE_sqr, Nat.mod_mod]
        exact sqr_mod hR (toFp_ok hR hX hx)
      · cases h
    · split at h
      · injection h with h; subst h; rw [wdE_num]; rfl
      · cases h
    · cases h

/-- a new list of words as a result -/
theorem wRes {R : Ev} {a : E} {v : Value} {base : Nat} {w' : World} (A : Option Addr) (c : Nat) (ws : List Nat) (hv : v = .slice A ws.length c) (hr : Rd w' A (nums .u32 ws)) (hc : ws.length ≤ c)
    (hf : ∀ g, blk A = some g → base ≤ g ∧ g < w'.heap.size) (hw : W16 ws) (hle : le ws = wdE R a) (hm : ws.length ≤ wMax a) (hn : wMin a ≤ ws.length) : (Res.one (.h (.op 21 a (.dt 0)))).Is (fpDenS R) base w' v := by
  subst hv
  refine ⟨.inr ⟨a, .dt 0, rfl, A, c, ws, rfl, hr, hc, fun g hg => (hf g hg).2, hw, hle, hm, hn⟩, fun g hg => ?_⟩
  rw [ownBlock_slice] at hg
  exact (hf g hg).1

theorem wRes0 {R : Ev} {a : E} {v : Value} {base : Nat} {w' : World} (h0 : wMin a = 0) (A : Option Addr) (c : Nat) (ws : List Nat) (hv : v = .slice A ws.length c) (hr : Rd w' A (nums .u32 ws)) (hc : ws.length ≤ c)
    (hf : ∀ g, blk A = some g → base ≤ g ∧ g < w'.heap.size) (hw : W16 ws) (hle : le ws = wdE R a) (hm : ws.length ≤ wMax a) : (Res.one (.h (.op 21 a (.dt 0)))).Is (fpDenS R) base w' v :=
  wRes A c ws hv hr hc hf hw hle hm (by rw [h0]; exact Nat.zero_le _)

/-- the bytes of a plain number -/
def u8sOf (X : Fx) : List Atom → Option Nat
  | [.el (.op 16 (.dt i) (.dt 56)), .el (.op 16 (.dt i1) (.dt 48)), .el (.op 16 (.dt i2) (.dt 40)), .el (.op 16 (.dt i3) (.dt 32)), .el (.op 16 (.dt i4) (.dt 24)), .el (.op 16 (.dt i5) (.dt 16)), .el (.op 16 (.dt i6) (.dt 8)), .el (.op 16 (.dt i7) (.dt 0))] =>
    match X.small.any (Nat.beq i) && (Nat.beq i i1 && (Nat.beq i i2 && (Nat.beq i i3 && (Nat.beq i i4 && (Nat.beq i i5 && (Nat.beq i i6 && Nat.beq i i7)))))) with
    | true => some i
    | false => none
  | _ => none

theorem small_ok {R : Ev} {X : Fx} (hX : FpTold R X) {i : Nat} (h : X.small.any (Nat.beq i) = true) : R.num i < 18446744073709551616 := by
  rw [List.any_eq_true] at h
  obtain ⟨j, hj, he⟩ := h
  have e := Nat.eq_of_beq_eq_true he
  subst e
  exact hX.small _ hj

theorem u8sOf_ok {R : Ev} {X : Fx} (hX : FpTold R X) {xs : List Atom} {i : Nat} (h : u8sOf X xs = some i) {σ : Env} {l : List Value} (hl : cellsL (fpDenS R) σ xs = some l) : l = nums .u8 (digs 8 (R.num i)) ∧ R.num i < 18446744073709551616 := by
  unfold u8sOf at h
  split at h
  · rename_i ia i1 i2 i3 i4 i5 i6 i7
    split at h
    · rename_i hb
      injection h with h; subst h
      simp only [Bool.and_eq_true] at hb
      obtain ⟨hz, h1, h2, h3, h4, h5, h6, h7⟩ := hb
      have e1 := Nat.eq_of_beq_eq_true h1
      have e2 := Nat.eq_of_beq_eq_true h2
      have e3 := Nat.eq_of_beq_eq_true h3
      have e4 := Nat.eq_of_beq_eq_true h4
      have e5 := Nat.eq_of_beq_eq_true h5
      have e6 := Nat.eq_of_beq_eq_true h6
      have e7 := Nat.eq_of_beq_eq_true h7
      subst e1 e2 e3 e4 e5 e6 e7
      refine ⟨?_, small_ok hX hz⟩
      injection hl with hl
      rw [← hl]
      rfl
    · cases h
  · cases h

def numberE (X : Fx) : Entry
  | [.held (.op 20 a _)] => match basic a with
    | true => some (.one (.h (.op 21 (.op 41 a (.dt 0)) (.dt 0))))
    | false => none
  | [.view xs] => match u8sOf X xs with
    | some i => some (.one (.h (.op 21 (.op 47 (.dt i) (.dt 0)) (.dt 0))))
    | none => none
  | _ => none

theorem number_res {R : Ev} {a : E} {l : List Nat} (h0 : wMin a = 0) (hb : ∀ x ∈ l, x < 256) (hd : wdE R a = be l) (hm : (l.length + 1) / 2 ≤ wMax a) (A : Option Addr) (c : Nat) (w : World) (h1 : Rd w A (nums .u8 l)) (hn : l.length ≤ 140737488355328) :
    Calls Tryd.prog 58 #[.slice A l.length c] w fun e w' => ∃ v, e = .returned v ∧ Below w.heap.size w w' ∧ (Res.one (.h (.op 21 a (.dt 0)))).Is (fpDenS R) w.heap.size w' v := by
  have hlt := be_lt l hb
  refine (number_calls A l _ c w h1 rfl hb hn).mono fun x w' h => ?_
  obtain ⟨A', h5, h6, h7⟩ := h
  have hlen : (words ((l.length + 1) / 2) (be l)).length = (l.length + 1) / 2 := words_length _ _
  refine ⟨_, h5, h7, wRes0 h0 A' _ _ (by rw [hlen]) h6.rd (by rw [hlen]; exact Nat.le_refl _) (fun g hg => h6.lt g hg) (words_W16 _ _) ?_ (by rw [hlen]; exact hm)⟩
  rw [le_words, hd, Nat.mod_eq_of_lt]
  refine Nat.lt_of_lt_of_le hlt ?_
  rw [show (65536 : Nat) = 256 ^ 2 by decide, ← Nat.pow_mul]
  exact Nat.pow_le_pow_right (by omega) (by omega)

theorem numberE_ok {R : Ev} (hR : R.Ok) {X : Fx} (hX : FpTold R X) : EntryOk (fpDenS R) FpTab 58 (numberE X) := by
  refine ⟨by kernel_rfl, fun cs r hr σ w vs hv hI => ?_⟩
  unfold numberE at hr
  split at hr
  · rename_i a b
    split at hr
    · rename_i hb
      injection hr with hr; subst hr
      obtain ⟨v, ws, rfl, hh20, h4⟩ := hv
      obtain ⟨A, c, rfl, h1, h2, h3⟩ := hold20 hh20
      have h4 : ws = [] := h4
      subst h4
      have hl := hR.rows a
      exact number_res rfl hl.2 (by rw [wdE_row, ← basic_ok R hb]) (by show _ ≤ 70368744177664; omega) A c w h1 hl.1
    · cases hr
  · rename_i xs
    split at hr
    · rename_i i hi
      injection hr with hr; subst hr
      obtain ⟨v, ws, rfl, ⟨bk, o, c, l, rfl, hlc, h1, h2, h3⟩, h4⟩ := hv
      have h4 : ws = [] := h4
      subst h4
      obtain ⟨rfl, hs⟩ := u8sOf_ok hX hi h1
      have hrd : Rd w (some ⟨bk, o, none⟩) (nums .u8 (digs 8 (R.num i))) := .inr ⟨bk, o, rfl, h2, h3⟩
      have hlen : (nums .u8 (digs 8 (R.num i))).length = (digs 8 (R.num i)).length := nums_length _ _
      rw [hlen]
      exact number_res rfl (digs_lt _ _) (by rw [wdE_num, be_digs, Nat.mod_eq_of_lt (Nat.lt_of_lt_of_le hs (by decide))]) (by rw [digs_length]; exact Nat.le_refl 4) _ c w hrd (by rw [digs_length]; omega)
    · cases hr
  · cases hr

/-- Of a plain number -/
def fpOfXE (X : Fx) : Entry := fun cs => match cs with
  | [.dt (.one (.el (.op 17 (.dt i) (.dt 0))))] => match X.small.any (Nat.beq i) with
    | true => some (.one (.dt (.agg [.el (.dt i)])))
    | false => none
  | _ => fpOfE cs

theorem fpOfXE_ok {R : Ev} {X : Fx} (hX : FpTold R X) : EntryOk (fpDenS R) FpTab 22 (fpOfXE X) := by
  refine ⟨by kernel_rfl, fun cs r hr σ w vs hv hI => ?_⟩
  unfold fpOfXE at hr
  split at hr
  · rename_i i
    split at hr
    · rename_i hb
      injection hr with hr; subst hr
      have hs := small_ok hX hb
      obtain ⟨v, ws, rfl, h1, h4⟩ := hv
      have h4 : ws = [] := h4
      subst h4
      injection h1 with h1; injection h1 with h1; subst h1
      have e : u64N R (.dt i) (.dt 0) = R.num i := by unfold u64N; dsimp only; rw [Nat.pow_zero, Nat.div_one]
      rw [e]
      refine calls_el (e := .dt i) rfl ?_
      exact fp_of_calls (R.num i) w hI hs
    · cases hr
  · exact (fpOfE_ok R).2 cs r hr σ w vs hv hI

def isQ : E → Bool
  | .op 40 (.dt q) _ => Nat.beq q fpQ
  | _ => false

theorem isQ_ok (R : Ev) {e : E} (h : isQ e = true) : wdE R e = fpQ ∧ wMax e ≤ 24 ∧ wMin e = 24 := by
  unfold isQ at h
  split at h
  · have e := Nat.eq_of_beq_eq_true h
    subst e
    exact ⟨wdE_lit _ _ _, Nat.le_refl _, (by
      show (match Nat.beq fpQ fpQ with
        | true => 24
        | false => 0) = 24
      decide +kernel)⟩
  · cases h

def modulusE : Entry
  | [] => some (.one (.h (.op 21 (.op 40 (.dt fpQ) (.dt 0)) (.dt 0))))
  | _ => none

theorem modulusE_ok {R : Ev} : EntryOk (fpDenS R) FpTab 55 modulusE := by
  refine ⟨by kernel_rfl, fun cs r hr σ w vs hv hI => ?_⟩
  unfold modulusE at hr
  split at hr
  · injection hr with hr; subst hr
    have hv : vs = [] := hv
    subst hv
    refine (modulus_calls w).mono fun x w' h => ?_
    obtain ⟨A', c', ws, h1, h2, h3, h4, h5, h6⟩ := h
    have hl := h2.len
    rw [nums_length] at hl
    exact ⟨_, h1, h3, wRes A' c' ws (by rw [hl]) h2.rd (by rw [hl]; exact h2.cap.1) (fun g hg => h2.lt g hg) h4 (by rw [wdE_lit]; exact h6) (by rw [h5]; exact Nat.le_refl _) (by rw [h5]; exact Nat.le_of_eq (isQ_ok R (e := .op 40 (.dt fpQ) (.dt 0)) (by decide +kernel)).2.2)⟩
  · cases hr

/-- two numbers out of the arguments -/
def w2Arg : List CArg → Option (E × E)
  | [x, y] => match wArg x, wArg y with
    | some a, some b => some (a, b)
    | _, _ => none
  | _ => none

theorem w2Arg_ok {R : Ev} {σ : Env} {w : World} {cs : List CArg} {a b : E} {vs : List Value} (h : w2Arg cs = some (a, b)) (hv : ArgsIs (fpDenS R) σ w cs vs) : ∃ u v, vs = [u, v] ∧ fpWds R a u w ∧ fpWds R b v w := by
  unfold w2Arg at h
  split at h
  · split at h
    · rename_i ha hb
      injection h with h; injection h with e1 e2; subst e1 e2
      obtain ⟨u, us, rfl, h1, v, ws, rfl, h2, h3⟩ := hv
      have h3 : ws = [] := h3
      subst h3
      exact ⟨u, v, rfl, wArg_ok ha h1, wArg_ok hb h2⟩
    · cases h
  · cases h

def modE : Entry := fun cs => match w2Arg cs with
  | some (a, b) => match isQ b with
    | true => some (.one (.h (.op 21 (.op 45 a (.dt 0)) (.dt 0))))
    | false => none
  | none => none

theorem modE_ok {R : Ev} : EntryOk (fpDenS R) FpTab 57 modE := by
  refine ⟨by kernel_rfl, fun cs r hr σ w vs hv hI => ?_⟩
  unfold modE at hr
  split at hr
  · rename_i a b hc
    split at hr
    · rename_i hb
      injection hr with hr; subst hr
      obtain ⟨u, v, rfl, ⟨A, c, xs, rfl, a1, a2, a3, a4, a5, a6, a7⟩, ⟨B, d, ys, rfl, b1, b2, b3, b4, b5, b6, b7⟩⟩ := w2Arg_ok hc hv
      obtain ⟨q1, q2, q3⟩ := isQ_ok R hb
      have := wMax_le a
      refine (mod_calls A B xs ys _ _ c d w a1 b1 rfl rfl a4 b4 (by omega) (by omega) b2 (by rw [b5, q1]; decide)).mono fun x w' h => ?_
      obtain ⟨A', c', ws, h1, h2, h3, h4, h5, h6, h7, h8⟩ := h
      exact ⟨_, h1, h5, wRes A' c' ws (by rw [h7]) h2 (by rw [h7]; exact h3) h4 h6 (by rw [h8, a5, b5, q1, wdE_mod]) (by rw [h7]; exact Nat.le_trans b6 q2) (by rw [h7]; have := b7; rw [q3] at this; exact this)⟩
    · cases hr
  · cases hr

def plusE : Entry := fun cs => match w2Arg cs with
  | some (a, b) => match Nat.ble (wMax a) 24, Nat.ble (wMax b) 24 with
    | true, true => some (.one (.h (.op 21 (.op 42 a b) (.dt 0))))
    | _, _ => none
  | none => none

theorem plusE_ok {R : Ev} : EntryOk (fpDenS R) FpTab 73 plusE := by
  refine ⟨by kernel_rfl, fun cs r hr σ w vs hv hI => ?_⟩
  unfold plusE at hr
  split at hr
  · rename_i a b hc
    split at hr
    · rename_i ha hb
      have ha := Nat.le_of_ble_eq_true ha
      have hb := Nat.le_of_ble_eq_true hb
      injection hr with hr; subst hr
      obtain ⟨u, v, rfl, ⟨A, c, xs, rfl, a1, a2, a3, a4, a5, a6, a7⟩, ⟨B, d, ys, rfl, b1, b2, b3, b4, b5, b6, b7⟩⟩ := w2Arg_ok hc hv
      refine (plus_calls A B xs ys _ _ c d w a1 b1 rfl rfl a4 b4 (by omega) (by omega)).mono fun x w' h => ?_
      obtain ⟨A', c', ws, h1, h2, h5, h6, h7, h8⟩ := h
      exact ⟨_, h1, h5, wRes0 rfl A' c' ws (by rw [h7]) h2.rd (by rw [h7]; exact h2.cap.1) (fun g hg => h2.lt g hg) h6 (by rw [h8, a5, b5, wdE_add]) (by rw [h7]; show _ ≤ 25; omega)⟩
    · cases hr
  · cases hr

def minusE (X : Fx) : Entry := fun cs => match w2Arg cs with
  | some (a, b) => match subOk X a b with
    | true => some (.one (.h (.op 21 (.op 43 a b) (.dt 0))))
    | false => none
  | none => none

theorem minusE_ok {R : Ev} {X : Fx} (hX : FpTold R X) : EntryOk (fpDenS R) FpTab 72 (minusE X) := by
  refine ⟨by kernel_rfl, fun cs r hr σ w vs hv hI => ?_⟩
  unfold minusE at hr
  split at hr
  · rename_i a b hc
    split at hr
    · rename_i hs
      injection hr with hr; subst hr
      obtain ⟨u, v, rfl, ⟨A, c, xs, rfl, a1, a2, a3, a4, a5, a6, a7⟩, ⟨B, d, ys, rfl, b1, b2, b3, b4, b5, b6, b7⟩⟩ := w2Arg_ok hc hv
      have hle := subOk_ok hX hs
      have hm : wMax a = 25 := by
        unfold subOk at hs
        split at hs
        · rfl
        · cases hs
      refine (minus_calls A B xs ys _ _ c d w a1 b1 rfl rfl a4 b4 (by omega) (by rw [a5, b5]; exact hle)).mono fun x w' h => ?_
      obtain ⟨A', c', ws, h1, h2, h5, h6, h7, h8⟩ := h
      exact ⟨_, h1, h5, wRes0 rfl A' c' ws (by rw [h7]) h2.rd (by rw [h7]; exact h2.cap.1) (fun g hg => h2.lt g hg) h6 (by rw [h8, a5, b5, wdE_sub]) (by rw [h7]; show _ ≤ 25; omega)⟩
    · cases hr
  · cases hr

def timesE : Entry := fun cs => match w2Arg cs with
  | some (a, b) => match Nat.ble (wMax a) 24, Nat.ble (wMax b) 24 with
    | true, true => some (.one (.h (.op 21 (.op 44 a b) (.dt 0))))
    | _, _ => none
  | none => none

theorem timesE_ok {R : Ev} : EntryOk (fpDenS R) FpTab 77 timesE := by
  refine ⟨by kernel_rfl, fun cs r hr σ w vs hv hI => ?_⟩
  unfold timesE at hr
  split at hr
  · rename_i a b hc
    split at hr
    · rename_i ha hb
      have ha := Nat.le_of_ble_eq_true ha
      have hb := Nat.le_of_ble_eq_true hb
      injection hr with hr; subst hr
      obtain ⟨u, v, rfl, ⟨A, c, xs, rfl, a1, a2, a3, a4, a5, a6, a7⟩, ⟨B, d, ys, rfl, b1, b2, b3, b4, b5, b6, b7⟩⟩ := w2Arg_ok hc hv
      refine (times_calls A B xs ys _ _ c d w a1 b1 rfl rfl a4 b4 (by omega) (by omega)).mono fun x w' h => ?_
      obtain ⟨A', c', ws, h1, h2, h5, h6, h7, h8⟩ := h
      exact ⟨_, h1, h5, wRes0 rfl A' c' ws (by rw [h7]) h2.rd (by rw [h7]; exact h2.cap.1) (fun g hg => h2.lt g hg) h6 (by rw [h8, a5, b5, wdE_mul]) (by rw [h7]; show _ ≤ 49; omega)⟩
    · cases hr
  · cases hr

/-- is a below b? -/
def ltW (X : Fx) (a b : E) : Option Bool := match isQ b with
  | true => match below X a with
    | true => some true
    | false => match a with
      | .op 41 r _ => match basic r with
        | true => ltOf X.lts r
        | false => none
      | _ => none
  | false => match isQ a with
    | true => match b with
      | .op 42 x y => match E.eqb x y, below X x, toFp X x with
        | true, true, some e => findG X.flags 1 e
        | _, _, _ => none
      | _ => none
    | false => none

theorem ltW_ok {R : Ev} (hR : R.Ok) {X : Fx} (hX : FpTold R X) {a b : E} {r : Bool} (h : ltW X a b = some r) : decide (wdE R a < wdE R b) = r := by
  unfold ltW at h
  split at h
  · rename_i hq
    obtain ⟨q1, _, _⟩ := isQ_ok R hq
    rw [q1]
    split at h
    · rename_i hb
      injection h with h; subst h
      exact decide_eq_true (below_ok hX hb)
    · split at h
      · split at h
        · rename_i hb
          rw [wdE_row, ← basic_ok R hb]
          exact ltOf_ok hX.lts h
        · cases h
      · cases h
  · split at h
    · rename_i hq
      obtain ⟨q1, _, _⟩ := isQ_ok R hq
      rw [q1]
      split at h
      · rename_i x y _
        split at h
        · rename_i e hxy hb he
          have e1 := E.eqb_eq hxy
          subst e1
          have hlt := below_ok hX hb
          have h2 := hX.flags _ (findG_mem h)
          have h2 : decide ((fpQ - fpEv R e % fpQ) % fpQ < fpEv R e % fpQ) = r := h2
          rw [toFp_ok hR hX he, Nat.mod_eq_of_lt hlt] at h2
          rw [← h2, wdE_add, decide_eq_decide]
          generalize wdE R x = u at *
          rcases Nat.eq_zero_or_pos u with h0 | h0
          · subst h0; simp
          · rw [Nat.mod_eq_of_lt (by omega)]; omega
        · cases h
      · cases h
    · cases h

def lessE (X : Fx) : Entry := fun cs => match w2Arg cs with
  | some (a, b) => match ltW X a b with
    | some r => some (boolR r)
    | none => none
  | none => none

theorem lessE_ok {R : Ev} (hR : R.Ok) {X : Fx} (hX : FpTold R X) : EntryOk (fpDenS R) FpTab 74 (lessE X) := by
  refine ⟨by kernel_rfl, fun cs r hr σ w vs hv hI => ?_⟩
  unfold lessE at hr
  split at hr
  · rename_i a b hc
    split at hr
    · rename_i x hs
      injection hr with hr; subst hr
      obtain ⟨u, v, rfl, ⟨A, c, xs, rfl, a1, a2, a3, a4, a5, a6, a7⟩, ⟨B, d, ys, rfl, b1, b2, b3, b4, b5, b6, b7⟩⟩ := w2Arg_ok hc hv
      have := wMax_le a
      have := wMax_le b
      have hl := less_calls A B xs ys _ _ c d w a1 b1 rfl rfl a4 b4 (by omega) (by omega)
      have e : LessB xs ys = x := by
        unfold LessB
        rw [a5, b5]
        exact ltW_ok hR hX hs
      rw [e] at hl
      exact calls_bool (hl.mono fun y w' ⟨h1, h2⟩ => ⟨h1, h2 ▸ Below.refl _ _⟩)
    · cases hr
  · cases hr

/-- are the numbers alike? -/
def sameW (X : Fx) (a b : E) : Option Bool := match below X a, below X b, toFp X a, toFp X b with
  | true, true, some x, some y => fpSameE X.eqs x y
  | _, _, _, _ => none

theorem sameW_ok {R : Ev} (hR : R.Ok) {X : Fx} (hX : FpTold R X) {a b : E} {r : Bool} (h : sameW X a b = some r) : decide (wdE R a = wdE R b) = r := by
  unfold sameW at h
  split at h
  · rename_i x y h1 h2 h3 h4
    have := fpSameE_ok hX.eqs h
    rw [toFp_ok hR hX h3, toFp_ok hR hX h4, Nat.mod_eq_of_lt (below_ok hX h1), Nat.mod_eq_of_lt (below_ok hX h2)] at this
    exact this
  · cases h

def bytesWE : Entry
  | [x, .dt (.one (.int .i64 (.ofNat n)))] => match wArg x, Nat.ble n 96 with
    | some a, true => some (.one (.h (.op 20 (.op 24 a (.dt n)) (.dt 1))))
    | _, _ => none
  | _ => none

theorem bytesWE_ok {R : Ev} : EntryOk (fpDenS R) FpTab 59 bytesWE := by
  refine ⟨by kernel_rfl, fun cs r hr σ w vs hv hI => ?_⟩
  unfold bytesWE at hr
  split at hr
  · rename_i x n
    split at hr
    · rename_i a ha hn
      have hn := Nat.le_of_ble_eq_true hn
      injection hr with hr; subst hr
      obtain ⟨u, us, rfl, h1, v, ws, rfl, h2, h3⟩ := hv
      have h3 : ws = [] := h3
      subst h3
      injection h2 with h2; injection h2 with h2; subst h2
      obtain ⟨A, c, xs, rfl, a1, a2, a3, a4, a5, a6, a7⟩ := wArg_ok ha h1
      have := wMax_le a
      refine (bytes_calls A xs _ c n w a1 rfl a4 (by omega) (by omega)).mono fun y w' h => ?_
      obtain ⟨A', h5, h6, h7⟩ := h
      have e : R.row (.op 24 a (.dt n)) = digs n (le xs) := by
        simp only [Ev.row]
        rw [a5, show Nat.min n 96 = n from Nat.min_eq_left hn]
      refine ⟨_, h5, h7, .inl ⟨_, _, rfl, ⟨A', n, ?_, ?_, ?_, fun g hg => (h6.lt g hg).2⟩, fun _ => ⟨A', n, rfl⟩⟩, fun g hg => ?_⟩
      · rw [e, digs_length]
      · rw [e]; exact h6.rd
      · rw [e, digs_length]; exact Nat.le_refl _
      · rw [ownBlock_slice] at hg
        exact (h6.lt g hg).1
    · cases hr
  · cases hr

/-- Read of a plain number's bytes -/
def fpReadWE (X : Fx) : Entry := fun cs => match cs with
  | [.held (.op 20 (.op 24 a (.dt 48)) _)] => match below X a, toFp X a with
    | true, some e => some (.tup [.dt (.agg [.el e]), .dt (.one (.int .i64 0))])
    | _, _ => none
  | _ => fpReadE X cs

theorem fpReadWE_ok {R : Ev} (hR : R.Ok) {X : Fx} (hX : FpTold R X) : EntryOk (fpDenS R) FpTab 50 (fpReadWE X) := by
  refine ⟨by kernel_rfl, fun cs r hr σ w vs hv hI => ?_⟩
  unfold fpReadWE at hr
  split at hr
  · rename_i a b
    split at hr
    · rename_i e hb he
      injection hr with hr; subst hr
      obtain ⟨v, ws, rfl, hh20, h4⟩ := hv
      obtain ⟨A, c, rfl, h1, h2, h3⟩ := hold20 hh20
      have h4 : ws = [] := h4
      subst h4
      have hlt := below_ok hX hb
      have er : R.row (.op 24 a (.dt 48)) = digs 48 (wdE R a) := by simp only [Ev.row]; rfl
      have hc := fp_read_calls A (R.row (.op 24 a (.dt 48))) _ c w hI h1 rfl h2 (hR.rows _).1 (hR.rows _).2 h3
      have hbe : be (digs 48 (wdE R a)) = wdE R a := by rw [be_digs, Nat.mod_eq_of_lt (Nat.lt_trans hlt (by decide))]
      have e2 : fpReadN (R.row (.op 24 a (.dt 48))) = (wdE R a, 0) := by
        unfold fpReadN
        rw [er, if_pos (digs_length _ _), hbe, if_pos hlt]
      rw [e2] at hc
      refine hc.mono fun x w' ⟨h5, h6⟩ => ⟨_, h5, h6, _, rfl, _, _, rfl, ⟨_, rfl, ?_⟩, _, _, rfl, rfl, rfl⟩
      show fpE (wdE R a) = .agg (fpDen R e ++ []).toArray
      rw [List.append_nil, isFp_den (toFp_is he), ← fpCells_ok, ← fpE_mod (wdE R a), ← toFp_ok hR hX he, fpE_mod]
    · cases hr
  · exact (fpReadE_ok hR hX).2 cs r hr σ w vs hv hI

/-- whose bytes a row is -/
def bySrc (X : Fx) : CArg → Option E
  | .held (.op 20 (.op 24 a (.dt 48)) _) => match below X a with
    | true => toFp X a
    | false => none
  | .view [.el (.op 10 x _)] => match isFp x with
    | true => some x
    | false => none
  | _ => none

theorem bySrc_ok {R : Ev} (hR : R.Ok) {X : Fx} (hX : FpTold R X) {σ : Env} {w : World} {c : CArg} {e : E} {v : Value} (h : bySrc X c = some e) (hv : c.Is (fpDenS R) σ w v) :
    ∃ A n, v = .slice A 48 n ∧ Rd w A (nums .u8 (digs 48 (fpEv R e % fpQ))) := by
  unfold bySrc at h
  split at h
  · rename_i a b
    split at h
    · rename_i hb
      obtain ⟨A, c, rfl, h1, h2, h3⟩ := hold20 hv
      have er : R.row (.op 24 a (.dt 48)) = digs 48 (wdE R a) := by simp only [Ev.row]; rfl
      rw [er] at h1 h2 ⊢
      rw [digs_length] at *
      refine ⟨A, c, rfl, ?_⟩
      rw [toFp_ok hR hX h, Nat.mod_eq_of_lt (below_ok hX hb)]
      exact h1
    · cases h
  · rename_i x b
    split at h
    · injection h with h; subst h
      obtain ⟨bk, o, c, l, rfl, hlc, h1, h2, h3⟩ := hv
      have h1 : some (nums .u8 (digs 48 (fpEv R x % fpQ)) ++ []) = some l := h1
      injection h1 with h1
      rw [List.append_nil] at h1
      subst h1
      refine ⟨_, c, by rw [nums_length, digs_length], .inr ⟨bk, o, rfl, h2, h3⟩⟩
    · cases h
  · cases h

/-- are the bytes alike? -/
def sameBE (X : Fx) : Entry := fun cs => match cs with
  | [.held (.op 20 a b), .held (.op 20 a' b')] => match E.eqb a a' with
    | true => some (boolR true)
    | false => match bySrc X (.held (.op 20 a b)), bySrc X (.held (.op 20 a' b')) with
      | some x, some y => match fpSameE X.eqs x y with
        | some r => some (boolR r)
        | none => none
      | _, _ => none
  | [p, q] => match bySrc X p, bySrc X q with
    | some x, some y => match fpSameE X.eqs x y with
      | some r => some (boolR r)
      | none => none
    | _, _ => none
  | _ => none

theorem sameBE_ok {R : Ev} (hR : R.Ok) {X : Fx} (hX : FpTold R X) : EntryOk (fpDenS R) FpTab 52 (sameBE X) := by
  refine ⟨by kernel_rfl, fun cs r hr σ w vs hv hI => ?_⟩
  have key : ∀ p q : CArg, ∀ vs : List Value, ArgsIs (fpDenS R) σ w [p, q] vs → (match bySrc X p, bySrc X q with
      | some x, some y => match fpSameE X.eqs x y with
        | some r => some (boolR r)
        | none => none
      | _, _ => none) = some r → Calls Tryd.prog 52 vs.toArray w fun e w' => ∃ v, e = .returned v ∧ Below w.heap.size w w' ∧ r.Is (fpDenS R) w.heap.size w' v := by
    intro p q vs hv h
    split at h
    · rename_i x y hx hy
      split at h
      · rename_i b hs
        injection h with h; subst h
        obtain ⟨u, us, rfl, h1, v, ws, rfl, h2, h3⟩ := hv
        have h3 : ws = [] := h3
        subst h3
        obtain ⟨A, n, rfl, h4⟩ := bySrc_ok hR hX hx h1
        obtain ⟨B, m, rfl, h5⟩ := bySrc_ok hR hX hy h2
        have hl := same_calls A B (digs 48 (fpEv R x % fpQ)) (digs 48 (fpEv R y % fpQ)) n m w h4 h5 (by rw [digs_length]; decide) (by rw [digs_length]; decide)
        rw [digs_length, digs_length] at hl
        have hq : fpQ < 256 ^ 48 := by decide
        have e : SameB (digs 48 (fpEv R x % fpQ)) (digs 48 (fpEv R y % fpQ)) = b := by
          unfold SameB
          rw [← fpSameE_ok hX.eqs hs, decide_eq_decide]
          exact ⟨fun h => digs_inj (Nat.lt_trans (Nat.mod_lt _ (by decide)) hq) (Nat.lt_trans (Nat.mod_lt _ (by decide)) hq) h, fun h => by rw [h]⟩
        rw [e] at hl
        exact calls_bool (hl.mono fun y w' ⟨h1, h2⟩ => ⟨h1, below_ex h2⟩)
      · cases h
    · cases h
  unfold sameBE at hr
  split at hr
  · rename_i a b a' b'
    split at hr
    · rename_i he
      have e := E.eqb_eq he
      subst e
      injection hr with hr; subst hr
      obtain ⟨u, us, rfl, h1, v, ws, rfl, h2, h3⟩ := hv
      have h3 : ws = [] := h3
      subst h3
      obtain ⟨A, c, rfl, a1, a2, a3⟩ := hold20 h1
      obtain ⟨B, d, rfl, b1, b2, b3⟩ := hold20 h2
      have hl := same_calls A B (R.row a) (R.row a) c d w a1 b1 (hR.rows a).1 (hR.rows a).1
      rw [show SameB (R.row a) (R.row a) = true from decide_eq_true rfl] at hl
      exact calls_bool (hl.mono fun y w' ⟨h1, h2⟩ => ⟨h1, below_ex h2⟩)
    · exact key _ _ _ hv hr
  · exact key _ _ _ hv hr
  · cases hr

/-- the table with the reference's functions -/
def fpRef (X : Fx) : List (Nat × Entry) :=
  (50, fpReadWE X) :: (58, numberE X) :: (22, fpOfXE X) :: (55, modulusE) :: (57, modE) :: (73, plusE) ::
  (72, minusE X) :: (77, timesE) :: (74, lessE X) :: (59, bytesWE) ::
  (52, sameBE X) :: fpPows X

theorem fpRef_ok {R : Ev} {X : Fx} (hR : R.Ok) (hX : FpTold R X) : ∀ x ∈ fpRef X, EntryOk (fpDenS R) FpTab x.1 x.2 := by
  unfold fpRef
  simp only [List.forall_mem_cons]
  exact ⟨fpReadWE_ok hR hX, numberE_ok hR hX, fpOfXE_ok hX, modulusE_ok, modE_ok, plusE_ok, minusE_ok hX, timesE_ok, lessE_ok hR hX, bytesWE_ok, sameBE_ok hR hX, fpPows_ok hR hX⟩

end Go.Proofs.YtdconlmpjehohaaDoor
