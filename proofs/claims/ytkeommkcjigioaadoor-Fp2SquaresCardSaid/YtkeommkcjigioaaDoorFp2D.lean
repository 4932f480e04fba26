/- Package fp2: the walk of Fp2Squares. Conditions: those of each theorem. -/
import Derived.Test.YtkeommkcjigioaaDoorFp2M
namespace Go.Proofs.YtkeommkcjigioaaDoor
open Go.RowKit Sx
set_option linter.unusedVariables false

abbrev iE (a : E) : E := .op 5 a (.dt 0)
abbrev qE (a : E) : E := mE (sE a) (sE a)
abbrev aA : E := wE 0
abbrev bB : E := wE 1
/-- the square's parts, its norm, the half -/
abbrev sS : E := mE (pE aA bB) (dE aA bB)
abbrev tT : E := pE (mE aA bB) (mE aA bB)
abbrev nN : E := pE (mE sS sS) (mE tT tT)
abbrev hH : E := iE (lE 2)
abbrev u1 : E := mE (pE sS (sE nN)) hH
abbrev u2 : E := mE (pE sS (nE (sE nN))) hH
/-- the root's second part -/
abbrev yB (u : E) : E := mE (mE tT hH) (iE (sE u))
/-- the inverse -/
abbrev xN : E := pE (mE aA aA) (mE bB bB)
abbrev j1 : E := mE aA (iE xN)
abbrev j2 : E := mE (nE bB) (iE xN)
abbrev p1 : E := dE (mE aA j1) (mE bB j2)
abbrev p2 : E := dE (dE (mE (pE aA bB) (pE j1 j2)) (mE aA j1)) (mE bB j2)

def sqL : List (Nat × Bool) := [(0, false), (1, false)]
/-- a root against the number: it, or its negative -/
def rootF (s a y b : E) : Bool → List (E × E × Bool)
  | true => [(s, a, true), (y, b, true)]
  | false => [(s, a, false), (s, nE a, true), (y, nE b, true)]
def rootA (s a b : E) : Bool → List (E × E × Bool)
  | true => [(lE 0, a, true), (s, b, true)]
  | false => [(lE 0, a, true), (s, b, false), (lE 0, nE a, true), (s, nE b, true)]
def rootG (f : Bool) : Bool → List (E × E × Bool)
  | true => (qE u1, u1, true) :: (sE u1, lE 0, false) :: rootF (sE u1) aA (yB u1) bB f
  | false => (qE u1, u1, false) :: (qE u2, u2, true) :: (sE u2, lE 0, false) :: rootF (sE u2) aA (yB u2) bB f
/-- x is 0 -/
def sqZ : Fx := { eqs := [(tT, lE 0, true), (qE sS, sS, true), (sE sS, aA, true), (lE 0, bB, true), (aA, lE 0, true), (bB, lE 0, true), (j1, lE 0, true), (j2, lE 0, true)], flags := [(0, bB, false), (1, aA, false)], longs := sqL, lim := 64 }
/-- the second part is 0, the first isn't -/
def sqB (f o g : Bool) : Fx := { eqs := [(tT, lE 0, true), (qE sS, sS, true), (aA, lE 0, false), (nE aA, lE 0, false), (bB, lE 0, true), (nE bB, lE 0, true), (p1, lE 1, true), (p2, lE 0, true)] ++ rootF (sE sS) aA (lE 0) bB f, flags := [(0, aA, o), (0, nE aA, !o), (1, aA, g), (1, nE aA, !g)], longs := sqL, lim := 64 }
/-- the first part is 0, the second isn't -/
def sqA (f o g : Bool) : Fx := { eqs := [(tT, lE 0, true), (qE sS, sS, false), (qE (nE sS), nE sS, true), (aA, lE 0, true), (nE aA, lE 0, true), (bB, lE 0, false), (nE bB, lE 0, false), (p1, lE 1, true), (p2, lE 0, true)] ++ rootA (sE (nE sS)) aA bB f, flags := [(0, bB, o), (0, nE bB, !o), (1, bB, g), (1, nE bB, !g)], longs := sqL, lim := 64 }
/-- neither is 0 -/
def sqG (r f o g : Bool) : Fx := { eqs := [(tT, lE 0, false), (qE nN, nN, true), (aA, lE 0, false), (nE aA, lE 0, false), (bB, lE 0, false), (nE bB, lE 0, false), (p1, lE 1, true), (p2, lE 0, true)] ++ rootG f r, flags := [(0, aA, o), (0, nE aA, !o), (1, bB, g), (1, nE bB, !g)], longs := sqL, lim := 64 }

section
set_option maxRecDepth 100000
theorem fp2Squares_run1 : runFn Tryd.prog (fpTable { longs := [(0, true)], lim := 64 } (fp2All Tryd.prog { longs := [(0, true)], lim := 64 })) 400 Tryd.f7 [hArg 0, hArg 1] = some (boolR true) := by kernel_rfl
theorem fp2Squares_run2 : runFn Tryd.prog (fpTable { longs := [(0, false), (1, true)], lim := 64 } (fp2All Tryd.prog { longs := [(0, false), (1, true)], lim := 64 })) 400 Tryd.f7 [hArg 0, hArg 1] = some (boolR true) := by kernel_rfl
theorem fp2Squares_runZ : runFn Tryd.prog (fpTable sqZ (fp2All Tryd.prog sqZ)) 400 Tryd.f7 [hArg 0, hArg 1] = some (boolR true) := by kernel_rfl
theorem fp2Squares_runB (f o g : Bool) : runFn Tryd.prog (fpTable (sqB f o g) (fp2All Tryd.prog (sqB f o g))) 400 Tryd.f7 [hArg 0, hArg 1] = some (boolR true) := by
  cases f <;> cases o <;> cases g <;> kernel_rfl
theorem fp2Squares_runA (f o g : Bool) : runFn Tryd.prog (fpTable (sqA f o g) (fp2All Tryd.prog (sqA f o g))) 400 Tryd.f7 [hArg 0, hArg 1] = some (boolR true) := by
  cases f <;> cases o <;> cases g <;> kernel_rfl
theorem fp2Squares_runG (r f o g : Bool) : runFn Tryd.prog (fpTable (sqG r f o g) (fp2All Tryd.prog (sqG r f o g))) 400 Tryd.f7 [hArg 0, hArg 1] = some (boolR true) := by
  cases r <;> cases f <;> cases o <;> cases g <;> kernel_rfl
end

theorem facts_app {R : Ev} {F G : List (E × E × Bool)} (hF : FpFacts R F) (hG : FpFacts R G) : FpFacts R (F ++ G) := fun x hx => by
  rcases List.mem_append.1 hx with h | h
  · exact hF x h
  · exact hG x h

theorem rootF_ok {R : Ev} {s a y b : E} (h : Cg (fpEv R s) (fpEv R a) ∨ Cg (fpEv R s) (fpQ - fpEv R a % fpQ)) (hp : Cg (fpEv R s) (fpEv R a) → Cg (fpEv R y) (fpEv R b)) (hn : Cg (fpEv R s) (fpQ - fpEv R a % fpQ) → Cg (fpEv R y) (fpQ - fpEv R b % fpQ)) :
    ∃ f, FpFacts R (rootF s a y b f) := by
  by_cases hc : Cg (fpEv R s) (fpEv R a)
  · refine ⟨true, ?_⟩
    unfold FpFacts rootF
    simp only [List.forall_mem_cons]
    exact ⟨cg_dec hc, cg_dec (hp hc), fun x hx => by cases hx⟩
  · have h2 := h.resolve_left hc
    refine ⟨false, ?_⟩
    unfold FpFacts rootF
    simp only [List.forall_mem_cons]
    refine ⟨cg_dec0 hc, cg_dec (by rw [fpEv_neg]; exact h2), cg_dec (by rw [fpEv_neg]; exact hn h2), fun x hx => by cases hx⟩

/-- x times its inverse is 1 -/
theorem inv_parts {R : Ev} (hR : R.Ok) (h : ¬ fpEv R xN % fpQ = 0) : Cg (fpEv R p1) 1 ∧ Cg (fpEv R p2) 0 := by
  have h1 := mul_inv hR h
  have e1 : Cg (fpEv R p1) (fpEv R xN * R.inv (fpEv R xN)) := ring4 (fpEv R aA) (fpEv R bB) (R.inv (fpEv R xN)) 0 (x := dE (mE v0 (mE v0 v2)) (mE v1 (mE (nE v1) v2))) (y := mE (pE (mE v0 v0) (mE v1 v1)) v2) (by kernel_rfl)
  have e2 : Cg (fpEv R p2) 0 := ring4 (fpEv R aA) (fpEv R bB) (R.inv (fpEv R xN)) 0 (x := dE (dE (mE (pE v0 v1) (pE (mE v0 v2) (mE (nE v1) v2))) (mE v0 (mE v0 v2))) (mE v1 (mE (nE v1) v2))) (y := lE 0) (by kernel_rfl)
  exact ⟨e1.trans h1, e2⟩

theorem fp2Squares_calls (A0 A1 : Option Addr) (n0 n1 c0 c1 : Nat) (l0 l1 : List Nat) (w : World) (ht : FpTab w)
    (hr0 : Rd w A0 (nums .u8 l0)) (hl0 : l0.length = n0) (hc0 : n0 ≤ c0) (hn0 : n0 ≤ 140737488355328) (hb0 : ∀ x ∈ l0, x < 256) (hk0 : ∀ g, blk A0 = some g → g < w.heap.size)
    (hr1 : Rd w A1 (nums .u8 l1)) (hl1 : l1.length = n1) (hc1 : n1 ≤ c1) (hn1 : n1 ≤ 140737488355328) (hb1 : ∀ x ∈ l1, x < 256) (hk1 : ∀ g, blk A1 = some g → g < w.heap.size) :
    Calls Tryd.prog 7 #[.slice A0 n0 c0, .slice A1 n1 c1] w fun e w' => e = .returned (.bool true) ∧ Below w.heap.size w w' := by
  obtain ⟨inv, hinv⟩ := inv_ex
  obtain ⟨sqr_, hsqr⟩ := sqr_ex
  let R : Ev := ⟨fun _ => 0, rows [l0, l1], inv, sqr_⟩
  have hR : R.Ok := ⟨rows_ok (by simp only [List.forall_mem_cons]; exact ⟨⟨hl0 ▸ hn0, hb0⟩, ⟨hl1 ▸ hn1, hb1⟩, fun x hx => by cases hx⟩), hinv, hsqr⟩
  have hin : RVsIs (fpDenS R) 0 w [hArg 0, hArg 1] [.slice A0 n0 c0, .slice A1 n1 c1] :=
    ⟨_, _, rfl, hArg_ok (R := R) (i := 0) hr0 hl0 hc0 hk0, _, _, rfl, hArg_ok (R := R) (i := 1) hr1 hl1 hc1 hk1, rfl⟩
  have go : ∀ X, FpTold R X → runFn Tryd.prog (fpTable X (fp2All Tryd.prog X)) 400 Tryd.f7 [hArg 0, hArg 1] = some (boolR true) → _ := fun X hX hrun => fp2_law Tryd.func7 hR hX hrun ht hin
  by_cases h0 : 64 < l0.length
  · exact go _ (told64L (by intro x hx; simp at hx; subst hx; exact decide_eq_true h0)) fp2Squares_run1
  by_cases h1 : 64 < l1.length
  · exact go _ (told64L (by intro x hx; simp at hx; rcases hx with rfl | rfl; exact decide_eq_false h0; exact decide_eq_true h1)) fp2Squares_run2
  have hL : ∀ x ∈ sqL, decide (64 < (R.bys x.1).length) = x.2 := by intro x hx; simp [sqL] at hx; rcases hx with rfl | rfl; exact decide_eq_false h0; exact decide_eq_false h1
  have z : fpEv R (lE 0) = 0 := fpEv_lit _ _ _
  have o1 : fpEv R (lE 1) = 1 := fpEv_lit _ _ _
  have fl : ∀ k a, ∃ r, flagV R k a = r := fun a b => ⟨_, rfl⟩
  have tell : ∀ {F : List (E × E × Bool)} {G : List (Nat × E × Bool)}, FpFacts R F → (∀ x ∈ G, flagV R x.1 x.2.1 = x.2.2) → FpTold R { eqs := F, longs := sqL, flags := G, lim := 64 } := fun hF hG => told64 hF hL hG
  have t1 : ∀ {a b : E}, Cg (fpEv R a) (fpEv R b) → decide (fpEv R a % fpQ = fpEv R b % fpQ) = true := fun h => decide_eq_true h
  have tz : ∀ {a : E}, Cg (fpEv R a) 0 → decide (fpEv R a % fpQ = fpEv R (lE 0) % fpQ) = true := fun h => decide_eq_true (by rw [z]; exact h)
  have zt : ∀ {a : E}, Cg (fpEv R a) 0 → decide (fpEv R (lE 0) % fpQ = fpEv R a % fpQ) = true := fun h => decide_eq_true (by rw [z]; exact h.symm)
  have tn : ∀ {a : E}, ¬ fpEv R a % fpQ = 0 → decide (fpEv R a % fpQ = fpEv R (lE 0) % fpQ) = false := fun h => decide_eq_false (by rw [z]; exact fun k => h (cg_zero.1 k))
  have ss : Cg (fpEv R sS) (fpEv R (dE (mE aA aA) (mE bB bB))) := ringR R (by kernel_rfl)
  have sn : Cg (fpEv R (nE sS)) (fpEv R (dE (mE bB bB) (mE aA aA))) := ringR R (by kernel_rfl)
  have eT : fpEv R tT = fpEv R aA * fpEv R bB + fpEv R aA * fpEv R bB := rfl
  have eS : ∀ u, fpEv R (qE u) = R.sqr (fpEv R u) * R.sqr (fpEv R u) := fun u => by rw [fpEv_mul, fpEv_sqr]
  by_cases za : fpEv R aA % fpQ = 0
  · have ca := cg_zero.2 za
    have cT : Cg (fpEv R tT) 0 := by rw [eT]; exact (add0l _ (mul0l _ ca)).trans (mul0l _ ca)
    by_cases zb : fpEv R bB % fpQ = 0
    · have cb := cg_zero.2 zb
      have cS : Cg (fpEv R sS) 0 := ss.trans (by rw [fpEv_sub]; exact (sub0 (by rw [fpEv_mul]; exact mul0l _ cb)).trans (by rw [fpEv_mul]; exact mul0l _ ca))
      have q1 := (root_sq hR (m := 0) (n := fpEv R sS) cS).1
      have q2 : Cg (fpEv R (sE sS)) (fpEv R aA) := by rw [fpEv_sqr]; exact (cg_zero.2 (sqr_zero hR (cg_zero.1 cS))).trans ca.symm
      have c1 : Cg (fpEv R j1) 0 := by rw [fpEv_mul]; exact mul0l _ ca
      have c2 : Cg (fpEv R j2) 0 := by rw [fpEv_mul, fpEv_neg]; exact mul0l _ (neg0 cb)
      exact go sqZ (tell (by unfold FpFacts; simp only [List.forall_mem_cons]; exact ⟨tz cT, t1 (by rw [eS]; exact q1), t1 q2, zt cb, tz ca, tz cb, tz c1, tz c2, fun x hx => by cases hx⟩) (by simp only [List.forall_mem_cons]; exact ⟨flag_odd0 zb, flag_large0 za, fun x hx => by cases hx⟩)) fp2Squares_runZ
    · have cS : Cg (fpEv R sS) (fpQ - fpEv R bB * fpEv R bB % fpQ) := ss.trans (by rw [fpEv_sub, fpEv_mul, fpEv_mul]; exact add0l _ (mul0l _ ca))
      have cN : Cg (fpEv R (nE sS)) (fpEv R bB * fpEv R bB) := sn.trans (by rw [fpEv_sub, fpEv_mul, fpEv_mul]; exact sub0 (mul0l _ ca))
      have q1 := no_root hR cS zb
      obtain ⟨q2, q3⟩ := root_sq hR cN
      have zx : ¬ fpEv R xN % fpQ = 0 := fun h => zb ((fp_norm0 _ _).1 h).2
      obtain ⟨i1, i2⟩ := inv_parts hR zx
      have hA : ∃ f, FpFacts R (rootA (sE (nE sS)) aA bB f) := by
        by_cases hc : Cg (fpEv R (sE (nE sS))) (fpEv R bB)
        · refine ⟨true, ?_⟩
          unfold FpFacts rootA
          simp only [List.forall_mem_cons]
          exact ⟨zt ca, t1 hc, fun x hx => by cases hx⟩
        · refine ⟨false, ?_⟩
          rw [fpEv_sqr] at hc
          have h2 := q3.resolve_left hc
          unfold FpFacts rootA
          simp only [List.forall_mem_cons]
          exact ⟨zt ca, decide_eq_false (by rw [fpEv_sqr]; exact hc), zt (by rw [fpEv_neg]; exact neg0 ca), t1 (by rw [fpEv_sqr, fpEv_neg]; exact h2), fun x hx => by cases hx⟩
      obtain ⟨f, hf⟩ := hA
      obtain ⟨o, ho⟩ := fl 0 bB
      obtain ⟨g, hg⟩ := fl 1 bB
      have ho2 := flag_odd (R := R) zb
      have hg2 := flag_large (R := R) zb
      rw [ho] at ho2
      rw [hg] at hg2
      exact go (sqA f o g) (tell (facts_app (by unfold FpFacts; simp only [List.forall_mem_cons]; exact ⟨tz cT, decide_eq_false (by rw [eS]; exact q1), t1 (by rw [eS]; exact q2), tz ca, tz (by rw [fpEv_neg]; exact neg0 ca), tn zb, tn (by rw [fpEv_neg]; exact nz_neg zb), decide_eq_true (by rw [o1]; exact i1), tz i2, fun x hx => by cases hx⟩) hf) (by simp only [List.forall_mem_cons]; exact ⟨ho, ho2, hg, hg2, fun x hx => by cases hx⟩)) (fp2Squares_runA f o g)
  · by_cases zb : fpEv R bB % fpQ = 0
    · have cb := cg_zero.2 zb
      have cT : Cg (fpEv R tT) 0 := by rw [eT]; exact (add0l _ (mul0r _ cb)).trans (mul0r _ cb)
      have cS : Cg (fpEv R sS) (fpEv R aA * fpEv R aA) := ss.trans (by rw [fpEv_sub, fpEv_mul, fpEv_mul]; exact sub0 (mul0l _ cb))
      obtain ⟨q2, q3⟩ := root_sq hR cS
      have zx : ¬ fpEv R xN % fpQ = 0 := fun h => za ((fp_norm0 _ _).1 h).1
      obtain ⟨i1, i2⟩ := inv_parts hR zx
      obtain ⟨f, hf⟩ := rootF_ok (R := R) (s := sE sS) (a := aA) (y := lE 0) (b := bB) (by rw [fpEv_sqr]; exact q3) (fun _ => by rw [z]; exact cb.symm) (fun _ => by rw [z]; exact (neg0 cb).symm)
      obtain ⟨o, ho⟩ := fl 0 aA
      obtain ⟨g, hg⟩ := fl 1 aA
      have ho2 := flag_odd (R := R) za
      have hg2 := flag_large (R := R) za
      rw [ho] at ho2
      rw [hg] at hg2
      exact go (sqB f o g) (tell (facts_app (by unfold FpFacts; simp only [List.forall_mem_cons]; exact ⟨tz cT, t1 (by rw [eS]; exact q2), tn za, tn (by rw [fpEv_neg]; exact nz_neg za), tz cb, tz (by rw [fpEv_neg]; exact neg0 cb), decide_eq_true (by rw [o1]; exact i1), tz i2, fun x hx => by cases hx⟩) hf) (by simp only [List.forall_mem_cons]; exact ⟨ho, ho2, hg, hg2, fun x hx => by cases hx⟩)) (fp2Squares_runB f o g)
    · have zx : ¬ fpEv R xN % fpQ = 0 := fun h => za ((fp_norm0 _ _).1 h).1
      obtain ⟨i1, i2⟩ := inv_parts hR zx
      have nT : ¬ fpEv R tT % fpQ = 0 := by
        have hab := eul_prod fpPrime fpSS fpHH fpHo za zb
        have h2 := eul_prod fpPrime fpSS fpHH fpHo (a := 2) (by decide) hab
        rw [eT, ← Nat.two_mul]
        exact h2
      have cN : Cg (fpEv R nN) (fpEv R xN * fpEv R xN) := ringR R (x := nN) (y := mE xN xN) (by kernel_rfl)
      obtain ⟨q1, q2⟩ := root_sq hR cN
      have ehH : fpEv R hH = R.inv 2 := by rw [fpEv_inv, fpEv_lit]
      have eu : ∀ w : E, fpEv R (mE (pE sS w) hH) = (fpEv R sS + fpEv R w) * R.inv 2 := fun w => by rw [fpEv_mul, ehH, fpEv_add]
      have hM : ∀ w : E, Cg (fpEv R w) (fpEv R xN) → Cg (fpEv R (mE (pE sS w) hH)) (fpEv R aA * fpEv R aA) := fun w hw => by
        rw [eu]
        exact half_of hR (((Cg.rfl' (fpEv R sS)).add hw).trans (ringR R (x := pE sS xN) (y := pE (mE aA aA) (mE aA aA)) (by kernel_rfl)))
      have hY : ∀ u : E, fpEv R (yB u) = fpEv R tT * R.inv 2 * R.inv (R.sqr (fpEv R u)) := fun u => by rw [fpEv_mul, fpEv_mul, ehH, fpEv_inv, fpEv_sqr]
      have cTh : Cg (fpEv R tT * R.inv 2) (fpEv R aA * fpEv R bB) := half_of hR (by rw [eT]; exact Cg.rfl' _)
      have fin : ∀ u : E, Cg (fpEv R u) (fpEv R aA * fpEv R aA) → Cg (fpEv R (qE u)) (fpEv R u) ∧ ¬ fpEv R (sE u) % fpQ = 0 ∧ ∃ f, FpFacts R (rootF (sE u) aA (yB u) bB f) := fun u hu => by
        obtain ⟨r1, r2⟩ := root_sq hR hu
        have hs : ¬ R.sqr (fpEv R u) % fpQ = 0 := fun h0 => by
          rcases r2 with h | h
          · exact za (by rw [← h]; exact h0)
          · exact nz_neg za (by rw [← h]; exact h0)
        refine ⟨by rw [eS]; exact r1, by rw [fpEv_sqr]; exact hs, rootF_ok (by rw [fpEv_sqr]; exact r2) (fun h => ?_) (fun h => ?_)⟩
        · rw [fpEv_sqr] at h
          rw [hY]
          exact (cTh.mul (Cg.rfl' _)).trans (div_c hR hs h)
        · rw [fpEv_sqr] at h
          rw [hY]
          exact (cTh.mul (Cg.rfl' _)).trans (div_n hR hs h)
      have hG : ∃ r f, FpFacts R (rootG f r) := by
        rcases q2 with h | h
        · have hu := hM (sE nN) (by rw [fpEv_sqr]; exact h)
          obtain ⟨g1, g2, f, hf⟩ := fin u1 hu
          refine ⟨true, f, ?_⟩
          intro x hx
          simp only [rootG, List.mem_cons] at hx
          rcases hx with rfl | rfl | hx
          · exact t1 g1
          · exact tn g2
          · exact hf x hx
        · have hn : Cg (fpEv R (nE (sE nN))) (fpEv R xN) := by
            rw [fpEv_neg, fpEv_sqr]
            exact h.neg.trans (negneg _)
          have hu := hM (nE (sE nN)) hn
          obtain ⟨g1, g2, f, hf⟩ := fin u2 hu
          have hu1 : Cg (fpEv R u1) (fpQ - fpEv R bB * fpEv R bB % fpQ) := by
            rw [eu, fpEv_sqr]
            refine half_of hR (((Cg.rfl' (fpEv R sS)).add h).trans ?_)
            exact ringR R (x := dE sS xN) (y := pE (nE (mE bB bB)) (nE (mE bB bB))) (by kernel_rfl)
          have g3 := no_root hR hu1 zb
          refine ⟨false, f, ?_⟩
          intro x hx
          simp only [rootG, List.mem_cons] at hx
          rcases hx with rfl | rfl | rfl | hx
          · exact decide_eq_false (by rw [eS]; exact g3)
          · exact t1 g1
          · exact tn g2
          · exact hf x hx
      obtain ⟨r, f, hf⟩ := hG
      obtain ⟨o, ho⟩ := fl 0 aA
      obtain ⟨g, hg⟩ := fl 1 bB
      have ho2 := flag_odd (R := R) za
      have hg2 := flag_large (R := R) zb
      rw [ho] at ho2
      rw [hg] at hg2
      exact go (sqG r f o g) (tell (facts_app (by unfold FpFacts; simp only [List.forall_mem_cons]; exact ⟨tn nT, t1 (by rw [eS]; exact q1), tn za, tn (by rw [fpEv_neg]; exact nz_neg za), tn zb, tn (by rw [fpEv_neg]; exact nz_neg zb), decide_eq_true (by rw [o1]; exact i1), tz i2, fun x hx => by cases hx⟩) hf) (by simp only [List.forall_mem_cons]; exact ⟨ho, ho2, hg, hg2, fun x hx => by cases hx⟩)) (fp2Squares_runG r f o g)

end Go.Proofs.YtkeommkcjigioaaDoor
