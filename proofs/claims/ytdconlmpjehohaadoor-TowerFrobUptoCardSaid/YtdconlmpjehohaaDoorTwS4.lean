/- Texts in one: TwX, TwY, TwZ. Conditions: those of each theorem. -/
import Derived.Test.YtdconlmpjehohaaDoorTwS3

/- Inverses of the third and of the twelfth degree: what they are; what is told of them. Conditions: those of each theorem. -/
namespace Go.Proofs.YtdconlmpjehohaaDoor
open Go.RowKit Sx
set_option linter.unusedVariables false
set_option linter.unusedSimpArgs false

def redT (x : T) : T := T.of fun k => x.get k % (fpQ : Int)

theorem redT_cg (x : T) : Cg (redT x) x := Cg.of_get fun k hk => by
  unfold redT
  rw [T.get_of _ hk, Int.emod_emod_of_dvd _ (Int.dvd_refl _)]

theorem red_eq {R : Ev} {ts : List T} (hn : R.num = numOf ts) (t : Nat) : red R t = redT (ts.getD t T.zero) := T.ext_get fun k hk => by
  unfold red redT
  rw [T.get_of _ hk, T.get_of _ hk, hn, numOf_at _ _ hk]

def tM (A B C : G) : Int := ((((nN A B C).n % (fpQ : Int)).toNat ^ fpI : Nat) : Int)
def tCub (M : T) : T := cubI ⟨M.x0 % (fpQ : Int), M.x1 % (fpQ : Int)⟩ ⟨M.x2 % (fpQ : Int), M.x3 % (fpQ : Int)⟩ ⟨M.x4 % (fpQ : Int), M.x5 % (fpQ : Int)⟩ (tM ⟨M.x0 % (fpQ : Int), M.x1 % (fpQ : Int)⟩ ⟨M.x2 % (fpQ : Int), M.x3 % (fpQ : Int)⟩ ⟨M.x4 % (fpQ : Int), M.x5 % (fpQ : Int)⟩)
def tInv (x : T) : T := (redT x).conj.mul (tCub ((redT x).mul (redT x).conj))

theorem inv_one {a : Nat} (h : ¬ a % fpQ = 0) : a * a ^ fpI % fpQ = 1 := by
  have := fermat fpPrime (fp_nd h)
  rw [show fpQ - 1 = fpI + 1 by decide +kernel, Nat.pow_succ, Nat.mul_comm] at this
  exact this

theorem dv_mod {a : Int} : Dv (a % (fpQ : Int)) ↔ Dv a := by
  unfold Dv
  rw [Int.dvd_iff_emod_eq_zero, Int.dvd_iff_emod_eq_zero, Int.emod_emod_of_dvd _ (Int.dvd_refl _)]

theorem nat_mod (a : Int) : (((a % (fpQ : Int)).toNat : Nat) : Int) = a % (fpQ : Int) := Int.toNat_of_nonneg (Int.emod_nonneg _ (by decide))

theorem cubV_val {R : Ev} (hR : R.Ok) {es : List E} (h6 : es.length = 6) {M : T} (h : ∀ k, k < 6 → ((fpEv R (es.getD k zE) : Nat) : Int) % (fpQ : Int) = M.get k % (fpQ : Int)) :
    (cubV R es).map (fun n : Nat => (n : Int) % (fpQ : Int)) = (List.range 6).map fun k => (tCub M).get k % (fpQ : Int) := by
  let R3 : Ev := ⟨fun i => if i < 6 then (M.get i % (fpQ : Int)).toNat else ((nN ⟨M.x0 % (fpQ : Int), M.x1 % (fpQ : Int)⟩ ⟨M.x2 % (fpQ : Int), M.x3 % (fpQ : Int)⟩ ⟨M.x4 % (fpQ : Int), M.x5 % (fpQ : Int)⟩).n % (fpQ : Int)).toNat ^ fpI, fun _ => [], R.inv, R.sqr⟩
  have g : ∀ i, i < 6 → fpEv R (es.getD i zE) % fpQ = R3.num i % fpQ := fun i hi => by
    apply Int.ofNat.inj
    show ((fpEv R (es.getD i zE) % fpQ : Nat) : Int) = ((R3.num i % fpQ : Nat) : Int)
    rw [Int.natCast_emod, Int.natCast_emod, h i hi]
    simp only [R3, hi, if_true]
    rw [nat_mod, Int.emod_emod_of_dvd _ (Int.dvd_refl _)]
  have r0 : ((R3.num 0 : Nat) : Int) = M.x0 % (fpQ : Int) := nat_mod M.x0
  have r1 : ((R3.num 1 : Nat) : Int) = M.x1 % (fpQ : Int) := nat_mod M.x1
  have r2 : ((R3.num 2 : Nat) : Int) = M.x2 % (fpQ : Int) := nat_mod M.x2
  have r3 : ((R3.num 3 : Nat) : Int) = M.x3 % (fpQ : Int) := nat_mod M.x3
  have r4 : ((R3.num 4 : Nat) : Int) = M.x4 % (fpQ : Int) := nat_mod M.x4
  have r5 : ((R3.num 5 : Nat) : Int) = M.x5 % (fpQ : Int) := nat_mod M.x5
  have r6 : ((R3.num 6 : Nat) : Int) = tM ⟨M.x0 % (fpQ : Int), M.x1 % (fpQ : Int)⟩ ⟨M.x2 % (fpQ : Int), M.x3 % (fpQ : Int)⟩ ⟨M.x4 % (fpQ : Int), M.x5 % (fpQ : Int)⟩ := rfl
  have gn : fpEv (subR R (es ++ [mOf R es])) nrmE % fpQ = ((nN ⟨M.x0 % (fpQ : Int), M.x1 % (fpQ : Int)⟩ ⟨M.x2 % (fpQ : Int), M.x3 % (fpQ : Int)⟩ ⟨M.x4 % (fpQ : Int), M.x5 % (fpQ : Int)⟩).n % (fpQ : Int)).toNat := by
    rw [poly_cong (R' := R3) (n := 6) (fun i hi => by
      show fpEv R _ % fpQ = _
      rw [getD_app (by omega)]
      exact g i hi) nrmE_poly]
    apply Int.ofNat.inj
    show ((fpEv R3 nrmE % fpQ : Nat) : Int) = ((_ : Nat) : Int)
    rw [Int.natCast_emod, evZ_ok R3 (polyN_poly nrmE_poly), nrmE_ok, r0, r1, r2, r3, r4, r5, nat_mod]
  have e1 : (cubV R es).map (fun n : Nat => (n : Int) % (fpQ : Int)) = (invTgt.map (evZ fun i => ((R3.num i : Nat) : Int))).map fun a => a % (fpQ : Int) := by
    unfold cubV
    rw [List.map_map, List.map_map]
    refine List.map_congr_left fun e he => ?_
    show ((fpEv _ e : Nat) : Int) % (fpQ : Int) = evZ _ e % (fpQ : Int)
    rw [← evZ_ok R3 (polyN_poly (invTgt_poly e he)), ← Int.natCast_emod, ← Int.natCast_emod]
    refine congrArg (fun n : Nat => (n : Int)) (poly_cong (n := 7) (fun i hi => ?_) (invTgt_poly e he))
    by_cases hi6 : i < 6
    · show fpEv R _ % fpQ = _
      rw [getD_app (by omega)]
      exact g i hi6
    · have : i = 6 := by omega
      subst this
      rw [cubInv_args hR h6]
      show R.inv _ % fpQ = _
      rw [hR.inv, Nat.pow_mod, gn]
      rfl
  rw [e1, invTgt_ok, List.map_map, r0, r1, r2, r3, r4, r5, r6]
  rfl

def tupH (t : Nat) : List Nat := [12 * t, 12 * t + 1, 12 * t + 2, 12 * t + 3, 12 * t + 4, 12 * t + 5]

theorem six (f g : Nat → Int) (h : ∀ k, k < 6 → f k = g k) : [f 0, f 1, f 2, f 3, f 4, f 5] = (List.range 6).map g := by
  show _ = [g 0, g 1, g 2, g 3, g 4, g 5]
  rw [h 0 (by decide), h 1 (by decide), h 2 (by decide), h 3 (by decide), h 4 (by decide), h 5 (by decide)]

theorem nat_list {l m : List Nat} (h : l.map (fun n : Nat => (n : Int) % (fpQ : Int)) = m.map (fun n : Nat => (n : Int) % (fpQ : Int))) : l.map (· % fpQ) = m.map (· % fpQ) := by
  have inj : ∀ l m : List Nat, l.map (fun n : Nat => Int.ofNat n) = m.map (fun n : Nat => Int.ofNat n) → l = m := fun l m h => (List.map_inj_right (fun a b h => Int.ofNat.inj h)).1 h
  apply inj
  rw [List.map_map, List.map_map]
  have e : ∀ l : List Nat, l.map ((fun n : Nat => Int.ofNat n) ∘ (· % fpQ)) = l.map (fun n : Nat => (n : Int) % (fpQ : Int)) := fun l => List.map_congr_left fun n _ => Int.natCast_emod n fpQ
  rw [e, e, h]

theorem tupH_vals {R : Ev} {ts : List T} (hn : R.num = numOf ts) (c : Nat) : ((dts (tupH c)).map (fpEv R)).map (fun n : Nat => (n : Int) % (fpQ : Int)) = (List.range 6).map fun k => (ts.getD c T.zero).get k % (fpQ : Int) := by
  refine six (fun k => ((R.num (12 * c + k) : Nat) : Int) % (fpQ : Int)) _ fun k hk => ?_
  rw [hn, numOf_at _ _ (by omega), Int.emod_emod_of_dvd _ (Int.dvd_refl _)]

theorem tupI_vals {R : Ev} {ts : List T} (hn : R.num = numOf ts) (c : Nat) : ((dts (tupI c)).map (fpEv R)).map (fun n : Nat => (n : Int) % (fpQ : Int)) = (List.range 12).map fun k => (ts.getD c T.zero).get k % (fpQ : Int) := by
  refine twelve (fun k => ((R.num (12 * c + k) : Nat) : Int) % (fpQ : Int)) _ fun k hk => ?_
  rw [hn, numOf_at _ _ hk, Int.emod_emod_of_dvd _ (Int.dvd_refl _)]

theorem tupH_get {R : Ev} {ts : List T} (hn : R.num = numOf ts) (a : Nat) {k : Nat} (hk : k < 6) : ((fpEv R ((dts (tupH a)).getD k zE) : Nat) : Int) = (ts.getD a T.zero).get k % (fpQ : Int) := by
  rw [dts_getD R (tupH a) hk, ← numOf_at ts a (k := k) (by omega), hn]
  match k, hk with
  | 0, _ => rfl
  | 1, _ => rfl
  | 2, _ => rfl
  | 3, _ => rfl
  | 4, _ => rfl
  | 5, _ => rfl

theorem cubInv_told {R : Ev} (hR : R.Ok) {ts : List T} (hn : R.num = numOf ts) {a c : Nat} (h : Cg (ts.getD c T.zero) (tCub (ts.getD a T.zero))) : ((dts (tupH c)).map (fpEv R)).map (· % fpQ) = (cubV R (dts (tupH a))).map (· % fpQ) := by
  apply nat_list
  rw [cubV_val hR (M := ts.getD a T.zero) rfl fun k hk => by rw [tupH_get hn a hk, Int.emod_emod_of_dvd _ (Int.dvd_refl _)], tupH_vals hn]
  exact List.map_congr_left fun k _ => h.get k

theorem even_cg {x y : T} (h : ∀ k, k < 6 → x.get k % (fpQ : Int) = y.get k % (fpQ : Int)) : Cg x.even y.even := Cg.of_get fun k hk => by
  match k, hk with
  | 0, _ => exact h 0 (by decide)
  | 1, _ => exact h 1 (by decide)
  | 2, _ => exact h 2 (by decide)
  | 3, _ => exact h 3 (by decide)
  | 4, _ => exact h 4 (by decide)
  | 5, _ => exact h 5 (by decide)
  | 6, _ => rfl
  | 7, _ => rfl
  | 8, _ => rfl
  | 9, _ => rfl
  | 10, _ => rfl
  | 11, _ => rfl

theorem elInv_told {R : Ev} (hR : R.Ok) {ts : List T} (hn : R.num = numOf ts) {a c : Nat} (h : Cg (ts.getD c T.zero) (tInv (ts.getD a T.zero))) : ((dts (tupI c)).map (fpEv R)).map (· % fpQ) = (elInvV R (dts (tupI a))).map (· % fpQ) := by
  apply nat_list
  have h1 : ∀ k, k < 12 → ((fpEv R ((dts (tupI a)).getD k zE) : Nat) : Int) = (redT (ts.getD a T.zero)).get k := fun k hk => by
    rw [dts_getD R (tupI a) hk, ← red_eq hn, red, T.get_of _ hk]
    match k, hk with
    | 0, _ => rfl
    | 1, _ => rfl
    | 2, _ => rfl
    | 3, _ => rfl
    | 4, _ => rfl
    | 5, _ => rfl
    | 6, _ => rfl
    | 7, _ => rfl
    | 8, _ => rfl
    | 9, _ => rfl
    | 10, _ => rfl
    | 11, _ => rfl
  have hM : ∀ k, k < 6 → ((fpEv (subR R (dts (tupI a))) (normTgt.getD k zE) : Nat) : Int) % (fpQ : Int) = ((redT (ts.getD a T.zero)).mul (redT (ts.getD a T.zero)).conj).get k % (fpQ : Int) := fun k hk => by
    have e0 : T.of (fun i => (((subR R (dts (tupI a))).num i : Nat) : Int)) = redT (ts.getD a T.zero) := T.ext_get fun j hj => by rw [T.get_of _ hj]; exact h1 j hj
    have e1 := normTgt_ok (fun i => (((subR R (dts (tupI a))).num i : Nat) : Int))
    rw [e0] at e1
    have hmem : normTgt.getD k zE ∈ normTgt := by
      have : k < normTgt.length := hk
      rw [List.getD, List.getElem?_eq_getElem this]
      exact List.getElem_mem _
    rw [evZ_ok _ (polyN_poly (normTgt_poly _ hmem))]
    have e2 := congrArg (fun l => l.getD k 0) e1
    have e3 : (normTgt.map (evZ fun i => (((subR R (dts (tupI a))).num i : Nat) : Int))).getD k 0 = evZ (fun i => (((subR R (dts (tupI a))).num i : Nat) : Int)) (normTgt.getD k zE) := by
      have : k < normTgt.length := hk
      simp only [List.getD, List.getElem?_map, List.getElem?_eq_getElem this, Option.map_some, Option.getD_some]
    have e4 : ((List.range 6).map ((redT (ts.getD a T.zero)).mul (redT (ts.getD a T.zero)).conj).get).getD k 0 = ((redT (ts.getD a T.zero)).mul (redT (ts.getD a T.zero)).conj).get k := by
      have : k < (List.range 6).length := hk
      simp only [List.getD, List.getElem?_map, List.getElem?_eq_getElem this, Option.map_some, Option.getD_some, List.getElem_range]
    rw [← e3, e2, e4]
  have hv := cubV_val (subR_ok hR (dts (tupI a))) (es := normTgt) rfl hM
  have hz : (elInvV R (dts (tupI a))).map (fun n : Nat => (n : Int) % (fpQ : Int)) = (List.range 12).map fun k => (tInv (ts.getD a T.zero)).get k % (fpQ : Int) := by
    have e1 : (elInvV R (dts (tupI a))).map (fun n : Nat => (n : Int) % (fpQ : Int)) = (elInvTgt.map (evZ fun i => (((subR R (dts (tupI a) ++ nOf R (dts (tupI a)))).num i : Nat) : Int))).map fun x => x % (fpQ : Int) := by
      unfold elInvV
      rw [List.map_map, List.map_map]
      exact List.map_congr_left fun e he => evZ_ok _ (polyN_poly (elInvTgt_poly e he))
    have e0 : T.of (fun i => (((subR R (dts (tupI a) ++ nOf R (dts (tupI a)))).num i : Nat) : Int)) = redT (ts.getD a T.zero) := T.ext_get fun j hj => by
      rw [T.get_of _ hj]
      show ((fpEv R _ : Nat) : Int) = _
      rw [getD_app hj]
      exact h1 j hj
    rw [e1, elInvTgt_ok, e0, List.map_map]
    have hl : (cubV (subR R (dts (tupI a))) normTgt).length = 6 := by simp [cubV, invTgt]
    have e5 : ∀ k, k < 6 → (((subR R (dts (tupI a) ++ nOf R (dts (tupI a)))).num (12 + k) : Nat) : Int) % (fpQ : Int) = (tCub ((redT (ts.getD a T.zero)).mul (redT (ts.getD a T.zero)).conj)).get k % (fpQ : Int) := fun k hk => by
      have e6 := congrArg (fun l => l.getD k 0) hv
      have hk' : k < (cubV (subR R (dts (tupI a))) normTgt).length := by omega
      have hk'' : k < (List.range 6).length := hk
      simp only [List.getD, List.getElem?_map, List.getElem?_eq_getElem hk', List.getElem?_eq_getElem hk'', Option.map_some, Option.getD_some, List.getElem_range] at e6
      refine Eq.trans ?_ e6
      show ((fpEv R ((dts (tupI a) ++ nOf R (dts (tupI a))).getD (12 + k) zE) : Nat) : Int) % (fpQ : Int) = _
      have e7 : (dts (tupI a)).length = 12 := rfl
      rw [List.getD, List.getElem?_append_right (by omega), show 12 + k - (dts (tupI a)).length = k by omega]
      unfold nOf
      rw [List.getElem?_map, List.getElem?_eq_getElem hk']
      show ((fpEv R (litE _) : Nat) : Int) % (fpQ : Int) = _
      unfold litE
      rw [fpEv_lit]
    have hc : Cg ((redT (ts.getD a T.zero)).conj.mul (T.of fun k => (((subR R (dts (tupI a) ++ nOf R (dts (tupI a)))).num (12 + k) : Nat) : Int)).even) (tInv (ts.getD a T.zero)) := by
      unfold tInv
      refine (Cg.refl _).mul ?_
      have e8 : tCub ((redT (ts.getD a T.zero)).mul (redT (ts.getD a T.zero)).conj) = (tCub ((redT (ts.getD a T.zero)).mul (redT (ts.getD a T.zero)).conj)).even := rfl
      rw [e8]
      exact even_cg fun k hk => by rw [T.get_of _ (by omega), e5 k hk]
    exact List.map_congr_left fun k _ => hc.get k
  rw [hz, tupI_vals hn]
  exact List.map_congr_left fun k _ => h.get k

end Go.Proofs.YtdconlmpjehohaaDoor

/- Inverses are inverses. Conditions: those of each theorem. -/
namespace Go.Proofs.YtdconlmpjehohaaDoor
open Go.RowKit Sx
set_option linter.unusedVariables false
set_option linter.unusedSimpArgs false

set_option maxHeartbeats 4000000
theorem emb_id (A B C z : G) : (emb3 A B C).mul (emb3 ((nA A B C).mul z) ((nB A B C).mul z) ((nC A B C).mul z)) = emb3 ((nN A B C).mul z) ⟨0, 0⟩ ⟨0, 0⟩ := by
  simp only [T.mul, emb3, nN, nA, nB, nC, G.mul, G.sub, G.add, G.up, T.mk.injEq]
  refine ⟨?_, ?_, ?_, ?_, ?_, ?_, ?_, ?_, ?_, ?_, ?_, ?_⟩ <;> grind
theorem zI_id (n : G) (m : Int) : n.mul (zI n m) = ⟨n.n * m, 0⟩ := by
  simp only [G.mul, zI, G.n, G.mk.injEq]
  constructor <;> grind
theorem cub_id (A B C : G) (m : Int) : (emb3 A B C).mul (cubI A B C m) = ⟨(nN A B C).n * m, 0, 0, 0, 0, 0, 0, 0, 0, 0, 0, 0⟩ := by
  unfold cubI
  rw [emb_id, zI_id]
  rfl
theorem conj_even (x : T) : (x.mul x.conj).even = x.mul x.conj := by
  simp only [T.mul, T.conj, T.even, T.mk.injEq]
  refine ⟨?_, ?_, ?_, ?_, ?_, ?_, ?_, ?_, ?_, ?_, ?_, ?_⟩ <;> grind

def g0 (x : T) : G := ⟨x.x0, x.x1⟩
def g1 (x : T) : G := ⟨x.x2, x.x3⟩
def g2 (x : T) : G := ⟨x.x4, x.x5⟩
def g3 (x : T) : G := ⟨x.x6, x.x7⟩
def g4 (x : T) : G := ⟨x.x8, x.x9⟩
def g5 (x : T) : G := ⟨x.x10, x.x11⟩
def s0 (A B C : G) : G := (A.mul A).add ((B.mul C).add (B.mul C)).up
def s1 (A B C : G) : G := ((A.mul B).add (A.mul B)).add (C.mul C).up
def s2 (A B C : G) : G := ((A.mul C).add (A.mul C)).add (B.mul B)
theorem m0 (x : T) : g0 (x.mul x.conj) = (s0 (g0 x) (g1 x) (g2 x)).sub (s2 (g3 x) (g4 x) (g5 x)).up := by
  simp only [T.mul, T.conj, g0, g1, g2, g3, g4, g5, s0, s1, s2, G.mul, G.sub, G.add, G.up, G.mk.injEq]
  constructor <;> grind
theorem m1 (x : T) : g1 (x.mul x.conj) = (s1 (g0 x) (g1 x) (g2 x)).sub (s0 (g3 x) (g4 x) (g5 x)) := by
  simp only [T.mul, T.conj, g0, g1, g2, g3, g4, g5, s0, s1, s2, G.mul, G.sub, G.add, G.up, G.mk.injEq]
  constructor <;> grind
theorem m2 (x : T) : g2 (x.mul x.conj) = (s2 (g0 x) (g1 x) (g2 x)).sub (s1 (g3 x) (g4 x) (g5 x)) := by
  simp only [T.mul, T.conj, g0, g1, g2, g3, g4, g5, s0, s1, s2, G.mul, G.sub, G.add, G.up, G.mk.injEq]
  constructor <;> grind

/-- alike modulo q -/
def Ge (x y : G) : Prop := (x.sub y).Dv
theorem Ge.refl (x : G) : Ge x x := by
  have e : x.sub x = ⟨0, 0⟩ := by
    simp only [G.sub, G.mk.injEq]
    constructor <;> omega
  unfold Ge
  rw [e]
  exact ⟨Int.dvd_zero _, Int.dvd_zero _⟩
theorem Ge.mul {x x' y y' : G} (h1 : Ge x x') (h2 : Ge y y') : Ge (x.mul y) (x'.mul y') := by
  have e : (x.mul y).sub (x'.mul y') = ((x.sub x').mul y).add (x'.mul (y.sub y')) := by
    simp only [G.mul, G.sub, G.add, G.mk.injEq]
    constructor <;> grind
  unfold Ge
  rw [e]
  exact (G.Dv.mul h1 y).add (G.Dv.mul' h2 x')
theorem Ge.add {x x' y y' : G} (h1 : Ge x x') (h2 : Ge y y') : Ge (x.add y) (x'.add y') := by
  have e : (x.add y).sub (x'.add y') = (x.sub x').add (y.sub y') := by
    simp only [G.mul, G.sub, G.add, G.mk.injEq]
    constructor <;> grind
  unfold Ge
  rw [e]
  exact G.Dv.add h1 h2
theorem Ge.sub {x x' y y' : G} (h1 : Ge x x') (h2 : Ge y y') : Ge (x.sub y) (x'.sub y') := by
  have e : (x.sub y).sub (x'.sub y') = (x.sub x').sub (y.sub y') := by
    simp only [G.mul, G.sub, G.add, G.mk.injEq]
    constructor <;> grind
  unfold Ge
  rw [e]
  exact G.Dv.sub h1 h2
theorem Ge.up {x x' : G} (h1 : Ge x x') : Ge x.up x'.up := by
  have e : x.up.sub x'.up = (x.sub x').up := by
    simp only [G.up, G.sub, G.add, G.mk.injEq]
    constructor <;> grind
  unfold Ge
  rw [e]
  exact G.Dv.up h1
theorem Ge.nN {A B C A' B' C' : G} (h1 : Ge A A') (h2 : Ge B B') (h3 : Ge C C') : Ge (nN A B C) (nN A' B' C') := by
  unfold Go.Proofs.YtdconlmpjehohaaDoor.nN nA nB nC
  exact (h1.mul ((h1.mul h1).sub (h2.mul h3).up)).add ((h3.mul ((h3.mul h3).up.sub (h1.mul h2))).add (h2.mul ((h2.mul h2).sub (h1.mul h3)))).up
theorem Ge.n {x y : G} (h : Ge x y) : Dv (x.n - y.n) := by
  rw [n_sub]
  exact dv_add (dv_mul _ h.1) (dv_mul _ h.2)

/-- the norm to the third degree is nought just if the number is -/
theorem el_norm {x : T} (h0 : (g0 (x.mul x.conj)).Dv) (h1 : (g1 (x.mul x.conj)).Dv) (h2 : (g2 (x.mul x.conj)).Dv) : (g0 x).Dv ∧ (g1 x).Dv ∧ (g2 x).Dv ∧ (g3 x).Dv ∧ (g4 x).Dv ∧ (g5 x).Dv := by
  rw [m0] at h0
  rw [m1] at h1
  rw [m2] at h2
  have e := (Ge.nN h0 h1 h2).n
  have e1 : nN (s0 (g0 x) (g1 x) (g2 x)) (s1 (g0 x) (g1 x) (g2 x)) (s2 (g0 x) (g1 x) (g2 x)) = (nN (g0 x) (g1 x) (g2 x)).mul (nN (g0 x) (g1 x) (g2 x)) := i3 _ _ _
  have e2 : nN (s0 (g3 x) (g4 x) (g5 x)) (s1 (g3 x) (g4 x) (g5 x)) (s2 (g3 x) (g4 x) (g5 x)) = (nN (g3 x) (g4 x) (g5 x)).mul (nN (g3 x) (g4 x) (g5 x)) := i3 _ _ _
  rw [e1, i4, e2, n_up, n_mul, n_mul] at e
  have e3 : Dv (2 * ((nN (g3 x) (g4 x) (g5 x)).n * (nN (g3 x) (g4 x) (g5 x)).n) - (nN (g0 x) (g1 x) (g2 x)).n * (nN (g0 x) (g1 x) (g2 x)).n) := by
    have := dv_sub (Int.dvd_zero _) e
    rwa [Int.zero_sub, Int.neg_sub] at this
  have hb := dv_nonsq e3
  have ha : Dv ((nN (g0 x) (g1 x) (g2 x)).n * (nN (g0 x) (g1 x) (g2 x)).n) := by
    have := dv_add e (dv_mul (2 * (nN (g3 x) (g4 x) (g5 x)).n) hb)
    have e4 : ∀ a b : Int, a * a - 2 * (b * b) + b * (2 * b) = a * a := fun a b => by grind
    rwa [e4] at this
  have ha : Dv (nN (g0 x) (g1 x) (g2 x)).n := by rcases dv_prod ha with h | h <;> exact h
  obtain ⟨a0, a1, a2⟩ := cub_norm (.of_n ha)
  obtain ⟨b0, b1, b2⟩ := cub_norm (.of_n hb)
  exact ⟨a0, a1, a2, b0, b1, b2⟩

theorem dv_emod {a : Int} (h : Dv a) : a % (fpQ : Int) = 0 := Int.emod_eq_zero_of_dvd h

theorem tCub_one {M : T} (h : ¬ ((g0 M).Dv ∧ (g1 M).Dv ∧ (g2 M).Dv)) : Cg (M.even.mul (tCub M)) T.one := by
  have e1 : Cg M.even (emb3 ⟨M.x0 % (fpQ : Int), M.x1 % (fpQ : Int)⟩ ⟨M.x2 % (fpQ : Int), M.x3 % (fpQ : Int)⟩ ⟨M.x4 % (fpQ : Int), M.x5 % (fpQ : Int)⟩) := (even_cg (x := redT M) (y := M) fun k _ => (redT_cg M).get k).symm
  refine (e1.mul (Cg.refl _)).trans ?_
  unfold tCub
  rw [cub_id]
  have hn : ¬ Dv (nN ⟨M.x0 % (fpQ : Int), M.x1 % (fpQ : Int)⟩ ⟨M.x2 % (fpQ : Int), M.x3 % (fpQ : Int)⟩ ⟨M.x4 % (fpQ : Int), M.x5 % (fpQ : Int)⟩).n := fun hd => by
    obtain ⟨a0, a1, a2⟩ := cub_norm (.of_n hd)
    exact h ⟨⟨dv_mod.1 a0.1, dv_mod.1 a0.2⟩, ⟨dv_mod.1 a1.1, dv_mod.1 a1.2⟩, ⟨dv_mod.1 a2.1, dv_mod.1 a2.2⟩⟩
  unfold tM
  generalize (nN ⟨M.x0 % (fpQ : Int), M.x1 % (fpQ : Int)⟩ ⟨M.x2 % (fpQ : Int), M.x3 % (fpQ : Int)⟩ ⟨M.x4 % (fpQ : Int), M.x5 % (fpQ : Int)⟩).n = n at hn
  have hz : ¬ (n % (fpQ : Int)).toNat % fpQ = 0 := fun hz => by
    have := dv_nat hz
    rw [nat_mod] at this
    exact hn (dv_mod.1 this)
  have h1 := inv_one hz
  have h2 : (n * (((n % (fpQ : Int)).toNat ^ fpI : Nat) : Int)) % (fpQ : Int) = 1 := by
    have e : ((((n % (fpQ : Int)).toNat * (n % (fpQ : Int)).toNat ^ fpI % fpQ : Nat)) : Int) = 1 := by rw [h1]; rfl
    rw [Int.natCast_emod, Int.natCast_mul, nat_mod, Int.mul_emod, Int.emod_emod_of_dvd _ (Int.dvd_refl _), ← Int.mul_emod] at e
    exact e
  refine Cg.of_get fun k hk => ?_
  match k, hk with
  | 0, _ => exact h2.trans (by decide +kernel)
  | 1, _ => rfl
  | 2, _ => rfl
  | 3, _ => rfl
  | 4, _ => rfl
  | 5, _ => rfl
  | 6, _ => rfl
  | 7, _ => rfl
  | 8, _ => rfl
  | 9, _ => rfl
  | 10, _ => rfl
  | 11, _ => rfl

theorem tCub_zero {M : T} (h0 : (g0 M).Dv) (h1 : (g1 M).Dv) (h2 : (g2 M).Dv) : tCub M = T.zero := by
  have a0 : M.x0 % (fpQ : Int) = 0 := dv_emod h0.1
  have a1 : M.x1 % (fpQ : Int) = 0 := dv_emod h0.2
  have a2 : M.x2 % (fpQ : Int) = 0 := dv_emod h1.1
  have a3 : M.x3 % (fpQ : Int) = 0 := dv_emod h1.2
  have a4 : M.x4 % (fpQ : Int) = 0 := dv_emod h2.1
  have a5 : M.x5 % (fpQ : Int) = 0 := dv_emod h2.2
  unfold tCub
  rw [a0, a1, a2, a3, a4, a5]
  generalize tM _ _ _ = m
  simp [cubI, emb3, nA, nB, nC, G.mul, G.sub, G.up, T.zero]

theorem cg_dv {x : T} (h : ∀ k, k < 12 → Dv (x.get k)) : Cg x T.zero := Cg.of_get fun k hk => by
  rw [dv_emod (h k hk)]
  match k, hk with
  | 0, _ => rfl
  | 1, _ => rfl
  | 2, _ => rfl
  | 3, _ => rfl
  | 4, _ => rfl
  | 5, _ => rfl
  | 6, _ => rfl
  | 7, _ => rfl
  | 8, _ => rfl
  | 9, _ => rfl
  | 10, _ => rfl
  | 11, _ => rfl

theorem tInv_one {x : T} (h : ¬ Cg x T.zero) : Cg (x.mul (tInv x)) T.one := by
  unfold tInv
  refine ((redT_cg x).symm.mul (Cg.refl _)).trans ?_
  rw [← T.mul_assoc]
  have := tCub_one (M := (redT x).mul (redT x).conj) fun ⟨b0, b1, b2⟩ => h ((redT_cg x).symm.trans (by
    obtain ⟨a0, a1, a2, a3, a4, a5⟩ := el_norm b0 b1 b2
    refine cg_dv fun k hk => ?_
    match k, hk with
    | 0, _ => exact a0.1
    | 1, _ => exact a0.2
    | 2, _ => exact a1.1
    | 3, _ => exact a1.2
    | 4, _ => exact a2.1
    | 5, _ => exact a2.2
    | 6, _ => exact a3.1
    | 7, _ => exact a3.2
    | 8, _ => exact a4.1
    | 9, _ => exact a4.2
    | 10, _ => exact a5.1
    | 11, _ => exact a5.2))
  rw [conj_even] at this
  exact this

theorem tInv_zero {x : T} (h : Cg x T.zero) : Cg (tInv x) T.zero := by
  have e : redT x = T.zero := T.ext_get fun k hk => by
    unfold redT
    rw [T.get_of _ hk, h.get k]
    match k, hk with
    | 0, _ => rfl
    | 1, _ => rfl
    | 2, _ => rfl
    | 3, _ => rfl
    | 4, _ => rfl
    | 5, _ => rfl
    | 6, _ => rfl
    | 7, _ => rfl
    | 8, _ => rfl
    | 9, _ => rfl
    | 10, _ => rfl
    | 11, _ => rfl
  unfold tInv
  rw [e, show T.zero.conj = T.zero by simp [T.conj, T.zero], T.mul_comm, T.mul_zero]
  exact Cg.refl _

end Go.Proofs.YtdconlmpjehohaaDoor

/- The table with inverses; what is told. Conditions: those of each theorem. -/
namespace Go.Proofs.YtdconlmpjehohaaDoor
open Go.RowKit Sx
set_option linter.unusedVariables false

def allTgt2 : Nat → List E
  | 7 => cubTgt
  | t => allTgt t

def ToldC2 (R : Ev) (c : Nat × List E × List E) : Prop := (c.2.2.map (fpEv R)).map (· % fpQ) = ((allTgt2 c.1).map (fpEv (subR R c.2.1))).map (· % fpQ)

/-- what is told of inverses -/
def ToldI (R : Ev) (Y : Tx) : Prop := (∀ c ∈ Y, c.1 = 8 → (c.2.2.map (fpEv R)).map (· % fpQ) = (cubV R c.2.1).map (· % fpQ)) ∧ ∀ c ∈ Y, c.1 = 9 → (c.2.2.map (fpEv R)).map (· % fpQ) = (elInvV R c.2.1).map (· % fpQ)

/-- the table with what is told -/
noncomputable def twZ (P : Program) (X : Fx) (nums : List (Nat × Nat)) (Y Yi : Tx) : List (Nat × Entry) :=
  (9, headTE) :: (11, numberTE X nums (inlE P X (tw2 P X) Tryd.f11)) ::
  (13, orE (polyE Y 0 [12, 12]) (inlE P X (tw3 P X) Tryd.f13)) :: (32, polyE Y 1 [12]) :: (29, orE (polyE Y 2 [12]) (inlE P X (tw3 P X) Tryd.f29)) :: (25, polyE Y 4 [12]) ::
  (17, orE (polyE Y 7 [6, 6]) (inlE P X (tw2 P X) Tryd.f17)) :: (21, cubInvE Yi 8) :: (34, elInvE Yi 9) :: tw5 P X

theorem twZ_ok {R : Ev} {X : Fx} {Y Yi : Tx} (hR : R.Ok) (hX : FpTold R X) (hY : Told R allTgt2 Y) (hI : ToldI R Yi) (nums : List (Nat × Nat)) : ∀ x ∈ twZ Tryd.prog X nums Y Yi, EntryOk (fpDenS R) FpTab x.1 x.2 := by
  unfold twZ
  simp only [List.forall_mem_cons]
  exact ⟨headTE_ok R, numberTE_ok hR hX (inlE_ok hX (tw2_ok hR hX) (by kernel_rfl) Tryd.func11), orE_ok (polyE_ok hR (tgt := allTgt2) hY (by kernel_rfl) Tryd.func13 twMul_chk) (inlE_ok hX (tw3_ok hR hX) (by kernel_rfl) Tryd.func13),
    polyE_ok hR (tgt := allTgt2) hY (by kernel_rfl) Tryd.func32 twSq_chk, orE_ok (polyE_ok hR (tgt := allTgt2) hY (by kernel_rfl) Tryd.func29 twConj_chk) (inlE_ok hX (tw3_ok hR hX) (by kernel_rfl) Tryd.func29),
    polyE_ok hR (tgt := allTgt2) hY (by kernel_rfl) Tryd.func25 twFrob_chk, orE_ok (polyE_ok hR (tgt := allTgt2) hY (by kernel_rfl) Tryd.func17 cubMul_chk) (inlE_ok hX (tw2_ok hR hX) (by kernel_rfl) Tryd.func17), cubInvE_ok hR hI.1, elInvE_ok hR hI.2, tw5_ok hR hX⟩

theorem twZ_law {R : Ev} {X : Fx} {nums : List (Nat × Nat)} {Y Yi : Tx} {f : FuncId} {fn : Func} (hf : Tryd.prog.funcs[f]? = some fn) {ins : List RV} (hR : R.Ok) (hX : FpTold R X) (hY : Told R allTgt2 Y) (hI : ToldI R Yi) (hrun : runFn Tryd.prog (fpTable X (twZ Tryd.prog X nums Y Yi)) 400 fn ins = some (boolR true))
    {vs : List Value} {w : World} (ht : FpTab w) (hin : RVsIs (fpDenS R) 0 w ins vs) : Calls Tryd.prog f vs.toArray w fun e w' => e = .returned (.bool true) ∧ Below w.heap.size w w' :=
  bool_post (calls_run (fpRight hX (twZ_ok hR hX hY hI nums)) mixed hf hrun hin fun w' hb => ht.below hb)

def oneH : List E := [lE 1, lE 0, lE 0, lE 0, lE 0, lE 0]
def oneI : List E := [lE 1, lE 0, lE 0, lE 0, lE 0, lE 0, lE 0, lE 0, lE 0, lE 0, lE 0, lE 0]

/-- numbers that are told, in general -/
theorem told_gen {R : Ev} {t : Nat} {es rs : List E} {n : Nat} {y z : T} (hp : ∀ e ∈ allTgt2 t, isPoly e = true) (h : (allTgt2 t).map (evZ fun i => ((fpEv R (es.getD i zE) : Nat) : Int)) = (List.range n).map z.get)
    (hr : (rs.map (fpEv R)).map (fun n : Nat => (n : Int) % (fpQ : Int)) = (List.range n).map fun k => y.get k % (fpQ : Int)) (hc : Cg y z) : ToldC2 R (t, es, rs) := by
  unfold ToldC2
  apply nat_list
  rw [hr]
  have e1 : ((allTgt2 t).map (fpEv (subR R es))).map (fun n : Nat => (n : Int) % (fpQ : Int)) = ((allTgt2 t).map (evZ fun i => ((fpEv R (es.getD i zE) : Nat) : Int))).map fun x => x % (fpQ : Int) := by
    rw [List.map_map, List.map_map]
    exact List.map_congr_left fun e he => evZ_ok _ (hp e he)
  rw [show (allTgt2 (t, es, rs).1) = allTgt2 t from rfl, show (t, es, rs).2.1 = es from rfl, e1, h, List.map_map]
  exact List.map_congr_left fun k _ => hc.get k

theorem cubTgt_isPoly : ∀ e ∈ cubTgt, isPoly e = true := fun e he => polyN_poly (cubTgt_poly e he)

theorem T.conj_cg {x y : T} (h : Cg x y) : Cg x.conj y.conj := by
  obtain ⟨d, rfl⟩ := h
  refine ⟨d.conj, ?_⟩
  simp only [T.conj, T.add, T.sm, T.mk.injEq]
  refine ⟨?_, ?_, ?_, ?_, ?_, ?_, ?_, ?_, ?_, ?_, ?_, ?_⟩ <;> grind

theorem T.frob_cg {x y : T} (h : Cg x y) : Cg x.frob y.frob := by
  obtain ⟨d, rfl⟩ := h
  refine ⟨d.frob, ?_⟩
  simp only [T.frob, T.add, T.sm, T.mk.injEq]
  refine ⟨?_, ?_, ?_, ?_, ?_, ?_, ?_, ?_, ?_, ?_, ?_, ?_⟩ <;> grind

theorem one_vals (R : Ev) : (oneI.map (fpEv R)).map (fun n : Nat => (n : Int) % (fpQ : Int)) = (List.range 12).map fun k => T.one.get k % (fpQ : Int) := rfl
theorem oneH_vals (R : Ev) : (oneH.map (fpEv R)).map (fun n : Nat => (n : Int) % (fpQ : Int)) = (List.range 6).map fun k => T.one.get k % (fpQ : Int) := rfl

section
variable {R : Ev} {ts : List T} (hn : R.num = numOf ts) {a b c : Nat}
include hn

theorem told2_mul (h : Cg (ts.getD c T.zero) ((ts.getD a T.zero).mul (ts.getD b T.zero))) : ToldC2 R (0, dts (tupI a ++ tupI b), dts (tupI c)) := told_mul hn h
theorem told2_sq (h : Cg (ts.getD c T.zero) ((ts.getD a T.zero).mul (ts.getD a T.zero))) : ToldC2 R (1, dts (tupI a), dts (tupI c)) := told_sq hn h

theorem told2_conj (h : Cg (ts.getD c T.zero) (ts.getD a T.zero).conj) : ToldC2 R (2, dts (tupI a), dts (tupI c)) :=
  told_gen (n := 12) (z := (red R a).conj) (twTgt_poly 2) (conjTgt_ok _) (tupI_vals hn c) (h.trans (T.conj_cg (red_cg hn a).symm))

theorem told2_frob (h : Cg (ts.getD c T.zero) (ts.getD a T.zero).frob) : ToldC2 R (4, dts (tupI a), dts (tupI c)) :=
  told_gen (n := 12) (z := (red R a).frob) (twTgt_poly 4) (frobTgt_ok _) (tupI_vals hn c) (h.trans (T.frob_cg (red_cg hn a).symm))

theorem told2_mulOne : ToldC2 R (0, dts (tupI a) ++ oneI, dts (tupI a)) :=
  told_gen (n := 12) (z := (red R a).mul T.one) (twTgt_poly 0) (mulTgt_ok _) (tupI_vals hn a) (by rw [T.mul_one]; exact (red_cg hn a).symm)

theorem told2_mulInv (h : Cg ((ts.getD a T.zero).mul (ts.getD b T.zero)) T.one) : ToldC2 R (0, dts (tupI a ++ tupI b), oneI) :=
  told_gen (n := 12) (z := (red R a).mul (red R b)) (twTgt_poly 0) (mulTgt_ok _) (one_vals R) (h.symm.trans ((red_cg hn a).symm.mul (red_cg hn b).symm))

theorem told2_cubInv (h : Cg ((ts.getD a T.zero).even.mul (ts.getD b T.zero).even) T.one) : ToldC2 R (7, dts (tupH a ++ tupH b), oneH) :=
  told_gen (n := 6) (z := (red R a).even.mul (red R b).even) cubTgt_isPoly (cubTgt_ok _) (oneH_vals R) (h.symm.trans ((even_cg fun k _ => (red_cg hn a).symm.get k).mul (even_cg fun k _ => (red_cg hn b).symm.get k)))
end

/-- which number is the first that isn't nought -/
def zeroF (t : Nat) : Nat → List (E × E × Bool)
  | 0 => []
  | k + 1 => zeroF t k ++ [(.dt (12 * t + k), lE 0, true)]
def firstF (t k : Nat) : List (E × E × Bool) := zeroF t k ++ [(.dt (12 * t + k), lE 0, false)]
/-- alike, each -/
def sameF (s t : Nat) : Nat → List (E × E × Bool)
  | 0 => []
  | k + 1 => sameF s t k ++ [(.dt (12 * s + k), .dt (12 * t + k), true)]

theorem lE_val (R : Ev) : fpEv R (lE 0) % fpQ = 0 := by
  unfold lE
  rw [fpEv_lit, Nat.zero_mod]

theorem zeroF_ok {R : Ev} {t : Nat} : ∀ {n : Nat}, (∀ k, k < n → R.num (12 * t + k) % fpQ = 0) → FpFacts R (zeroF t n)
  | 0, h => fun x hx => by cases hx
  | n + 1, h => fun x hx => by
    rcases List.mem_append.1 hx with hx | hx
    · exact zeroF_ok (n := n) (fun k hk => h k (by omega)) x hx
    · rw [List.mem_singleton] at hx
      subst hx
      exact decide_eq_true (by rw [lE_val]; exact h n (by omega))

theorem firstF_ok {R : Ev} {t n : Nat} (h : ∀ k, k < n → R.num (12 * t + k) % fpQ = 0) (h1 : ¬ R.num (12 * t + n) % fpQ = 0) : FpFacts R (firstF t n) := fun x hx => by
  rcases List.mem_append.1 hx with hx | hx
  · exact zeroF_ok h x hx
  · rw [List.mem_singleton] at hx
    subst hx
    exact decide_eq_false (by rw [lE_val]; exact h1)

theorem sameF_ok {R : Ev} {s t : Nat} : ∀ {n : Nat}, (∀ k, k < n → R.num (12 * s + k) % fpQ = R.num (12 * t + k) % fpQ) → FpFacts R (sameF s t n)
  | 0, h => fun x hx => by cases hx
  | n + 1, h => fun x hx => by
    rcases List.mem_append.1 hx with hx | hx
    · exact sameF_ok (n := n) (fun k hk => h k (by omega)) x hx
    · rw [List.mem_singleton] at hx
      subst hx
      exact decide_eq_true (h n (by omega))

theorem facts_app {R : Ev} {F G : List (E × E × Bool)} (hF : FpFacts R F) (hG : FpFacts R G) : FpFacts R (F ++ G) := fun x hx => by
  rcases List.mem_append.1 hx with hx | hx
  · exact hF x hx
  · exact hG x hx

theorem num_get {R : Ev} {ts : List T} (hn : R.num = numOf ts) (t : Nat) {k : Nat} (hk : k < 12) : R.num (12 * t + k) % fpQ = 0 ↔ (ts.getD t T.zero).get k % (fpQ : Int) = 0 := by
  have e := numOf_at ts t hk
  rw [← hn] at e
  rw [← e]
  have hq : R.num (12 * t + k) < fpQ := by
    have : ((R.num (12 * t + k) : Nat) : Int) < fpQ := by rw [e]; exact Int.emod_lt_of_pos _ (by decide)
    exact Int.ofNat_lt.1 this
  rw [Nat.mod_eq_of_lt hq]
  exact Int.ofNat_inj.symm

theorem num_same {R : Ev} {ts : List T} (hn : R.num = numOf ts) {s t : Nat} (h : Cg (ts.getD s T.zero) (ts.getD t T.zero)) {k : Nat} (hk : k < 12) : R.num (12 * s + k) % fpQ = R.num (12 * t + k) % fpQ := by
  have e1 := numOf_at ts s hk
  have e2 := numOf_at ts t hk
  rw [← hn] at e1 e2
  have : R.num (12 * s + k) = R.num (12 * t + k) := Int.ofNat_inj.1 (by rw [e1, e2, h.get k])
  rw [this]

/-- the first of n that isn't so -/
theorem first_of {p : Nat → Prop} : ∀ n, (∀ k, k < n → p k) ∨ ∃ j, j < n ∧ (∀ k, k < j → p k) ∧ ¬ p j
  | 0 => .inl fun k hk => absurd hk (Nat.not_lt_zero k)
  | n + 1 => by
    rcases first_of (p := p) n with h | ⟨j, hj, h1, h2⟩
    · by_cases hp : p n
      · exact .inl fun k hk => by
          rcases Nat.lt_or_eq_of_le (Nat.le_of_lt_succ hk) with h3 | h3
          · exact h k h3
          · rw [h3]; exact hp
      · exact .inr ⟨n, by omega, h, hp⟩
    · exact .inr ⟨j, by omega, h1, h2⟩

theorem T.zero_get (k : Nat) : T.zero.get k = 0 := by
  unfold T.get
  split <;> rfl

end Go.Proofs.YtdconlmpjehohaaDoor
