/- The tower: the walk of TowerRules. Conditions: those of each theorem. -/
import Derived.Test.YtdconlmpjehohaaDoorTwS4
namespace Go.Proofs.YtdconlmpjehohaaDoor
open Go.RowKit Sx
set_option linter.unusedVariables false

def ruX (F : List (E × E × Bool)) : Fx := { eqs := ((numF 0 0 ++ numF 1 1) ++ numF 2 2) ++ F, longs := [(0, false), (1, false), (2, false)], lim := 2000 }
def ruY : Tx := [(0, dts (tupI 0 ++ tupI 1), dts (tupI 3)), (0, dts (tupI 1 ++ tupI 0), dts (tupI 3)), (0, dts (tupI 3 ++ tupI 2), dts (tupI 5)), (0, dts (tupI 1 ++ tupI 2), dts (tupI 4)), (0, dts (tupI 0 ++ tupI 4), dts (tupI 5)), (1, dts (tupI 0), dts (tupI 6)), (0, dts (tupI 0 ++ tupI 0), dts (tupI 6)), (0, dts (tupI 0) ++ oneI, dts (tupI 0)), (2, dts (tupI 3), dts (tupI 9)), (2, dts (tupI 0), dts (tupI 7)), (2, dts (tupI 1), dts (tupI 8)), (0, dts (tupI 7 ++ tupI 8), dts (tupI 9))]
def ruYN : Tx := (0, dts (tupI 0 ++ tupI 10), oneI) :: ruY
def ruI : Tx := [(9, dts (tupI 0), dts (tupI 10))]
def ruT (x y z : T) : List T := [x, y, z, x.mul y, y.mul z, (x.mul y).mul z, x.mul x, x.conj, y.conj, (x.mul y).conj, tInv x]

section
set_option maxRecDepth 100000
theorem ru_run0 : runFn Tryd.prog (fpTable { longs := [(0, true)], lim := 2000 } (twAll Tryd.prog { longs := [(0, true)], lim := 2000 })) 400 Tryd.f8 [hArg 0, hArg 1, hArg 2] = some (boolR true) := by kernel_rfl
theorem ru_run1 : runFn Tryd.prog (fpTable { longs := [(0, false), (1, true)], lim := 2000 } (twAll Tryd.prog { longs := [(0, false), (1, true)], lim := 2000 })) 400 Tryd.f8 [hArg 0, hArg 1, hArg 2] = some (boolR true) := by kernel_rfl
theorem ru_run2 : runFn Tryd.prog (fpTable { longs := [(0, false), (1, false), (2, true)], lim := 2000 } (twAll Tryd.prog { longs := [(0, false), (1, false), (2, true)], lim := 2000 })) 400 Tryd.f8 [hArg 0, hArg 1, hArg 2] = some (boolR true) := by kernel_rfl
theorem ru_runz : runFn Tryd.prog (fpTable (ruX (zeroF 0 12 ++ sameF 10 0 12)) (twZ Tryd.prog (ruX (zeroF 0 12 ++ sameF 10 0 12)) [(0, 0), (1, 1), (2, 2)] ruY ruI)) 400 Tryd.f8 [hArg 0, hArg 1, hArg 2] = some (boolR true) := by kernel_rfl
theorem ru_runn0 : runFn Tryd.prog (fpTable (ruX (firstF 0 0)) (twZ Tryd.prog (ruX (firstF 0 0)) [(0, 0), (1, 1), (2, 2)] ruYN ruI)) 400 Tryd.f8 [hArg 0, hArg 1, hArg 2] = some (boolR true) := by kernel_rfl
theorem ru_runn1 : runFn Tryd.prog (fpTable (ruX (firstF 0 1)) (twZ Tryd.prog (ruX (firstF 0 1)) [(0, 0), (1, 1), (2, 2)] ruYN ruI)) 400 Tryd.f8 [hArg 0, hArg 1, hArg 2] = some (boolR true) := by kernel_rfl
theorem ru_runn2 : runFn Tryd.prog (fpTable (ruX (firstF 0 2)) (twZ Tryd.prog (ruX (firstF 0 2)) [(0, 0), (1, 1), (2, 2)] ruYN ruI)) 400 Tryd.f8 [hArg 0, hArg 1, hArg 2] = some (boolR true) := by kernel_rfl
theorem ru_runn3 : runFn Tryd.prog (fpTable (ruX (firstF 0 3)) (twZ Tryd.prog (ruX (firstF 0 3)) [(0, 0), (1, 1), (2, 2)] ruYN ruI)) 400 Tryd.f8 [hArg 0, hArg 1, hArg 2] = some (boolR true) := by kernel_rfl
theorem ru_runn4 : runFn Tryd.prog (fpTable (ruX (firstF 0 4)) (twZ Tryd.prog (ruX (firstF 0 4)) [(0, 0), (1, 1), (2, 2)] ruYN ruI)) 400 Tryd.f8 [hArg 0, hArg 1, hArg 2] = some (boolR true) := by kernel_rfl
theorem ru_runn5 : runFn Tryd.prog (fpTable (ruX (firstF 0 5)) (twZ Tryd.prog (ruX (firstF 0 5)) [(0, 0), (1, 1), (2, 2)] ruYN ruI)) 400 Tryd.f8 [hArg 0, hArg 1, hArg 2] = some (boolR true) := by kernel_rfl
theorem ru_runn6 : runFn Tryd.prog (fpTable (ruX (firstF 0 6)) (twZ Tryd.prog (ruX (firstF 0 6)) [(0, 0), (1, 1), (2, 2)] ruYN ruI)) 400 Tryd.f8 [hArg 0, hArg 1, hArg 2] = some (boolR true) := by kernel_rfl
theorem ru_runn7 : runFn Tryd.prog (fpTable (ruX (firstF 0 7)) (twZ Tryd.prog (ruX (firstF 0 7)) [(0, 0), (1, 1), (2, 2)] ruYN ruI)) 400 Tryd.f8 [hArg 0, hArg 1, hArg 2] = some (boolR true) := by kernel_rfl
theorem ru_runn8 : runFn Tryd.prog (fpTable (ruX (firstF 0 8)) (twZ Tryd.prog (ruX (firstF 0 8)) [(0, 0), (1, 1), (2, 2)] ruYN ruI)) 400 Tryd.f8 [hArg 0, hArg 1, hArg 2] = some (boolR true) := by kernel_rfl
theorem ru_runn9 : runFn Tryd.prog (fpTable (ruX (firstF 0 9)) (twZ Tryd.prog (ruX (firstF 0 9)) [(0, 0), (1, 1), (2, 2)] ruYN ruI)) 400 Tryd.f8 [hArg 0, hArg 1, hArg 2] = some (boolR true) := by kernel_rfl
theorem ru_runn10 : runFn Tryd.prog (fpTable (ruX (firstF 0 10)) (twZ Tryd.prog (ruX (firstF 0 10)) [(0, 0), (1, 1), (2, 2)] ruYN ruI)) 400 Tryd.f8 [hArg 0, hArg 1, hArg 2] = some (boolR true) := by kernel_rfl
theorem ru_runn11 : runFn Tryd.prog (fpTable (ruX (firstF 0 11)) (twZ Tryd.prog (ruX (firstF 0 11)) [(0, 0), (1, 1), (2, 2)] ruYN ruI)) 400 Tryd.f8 [hArg 0, hArg 1, hArg 2] = some (boolR true) := by kernel_rfl
end

theorem ru_calls (A0 A1 A2 : Option Addr) (n0 n1 n2 c0 c1 c2 : Nat) (l0 l1 l2 : List Nat) (w : World) (ht : FpTab w)
    (hr0 : Rd w A0 (nums .u8 l0)) (hl0 : l0.length = n0) (hc0 : n0 ≤ c0) (hn0 : n0 ≤ 140737488355328) (hb0 : ∀ x ∈ l0, x < 256) (hk0 : ∀ g, blk A0 = some g → g < w.heap.size)
    (hr1 : Rd w A1 (nums .u8 l1)) (hl1 : l1.length = n1) (hc1 : n1 ≤ c1) (hn1 : n1 ≤ 140737488355328) (hb1 : ∀ x ∈ l1, x < 256) (hk1 : ∀ g, blk A1 = some g → g < w.heap.size)
    (hr2 : Rd w A2 (nums .u8 l2)) (hl2 : l2.length = n2) (hc2 : n2 ≤ c2) (hn2 : n2 ≤ 140737488355328) (hb2 : ∀ x ∈ l2, x < 256) (hk2 : ∀ g, blk A2 = some g → g < w.heap.size) :
    Calls Tryd.prog 8 #[.slice A0 n0 c0, .slice A1 n1 c1, .slice A2 n2 c2] w fun e w' => e = .returned (.bool true) ∧ Below w.heap.size w w' := by
  obtain ⟨inv, hinv⟩ := inv_ex
  obtain ⟨sqr_, hsqr⟩ := sqr_ex
  let R : Ev := ⟨numOf (ruT (numT l0) (numT l1) (numT l2)), rows [l0, l1, l2], inv, sqr_⟩
  have hR : R.Ok := ⟨rows_ok (by simp only [List.forall_mem_cons]; exact ⟨⟨hl0 ▸ hn0, hb0⟩, ⟨hl1 ▸ hn1, hb1⟩, ⟨hl2 ▸ hn2, hb2⟩, fun x hx => by cases hx⟩), hinv, hsqr⟩
  have hin : RVsIs (fpDenS R) 0 w [hArg 0, hArg 1, hArg 2] [.slice A0 n0 c0, .slice A1 n1 c1, .slice A2 n2 c2] :=
    ⟨_, _, rfl, hArg_ok (R := R) (i := 0) hr0 hl0 hc0 hk0, _, _, rfl, hArg_ok (R := R) (i := 1) hr1 hl1 hc1 hk1, _, _, rfl, hArg_ok (R := R) (i := 2) hr2 hl2 hc2 hk2, rfl⟩
  have go : ∀ X, FpTold R X → runFn Tryd.prog (fpTable X (twAll Tryd.prog X)) 400 Tryd.f8 [hArg 0, hArg 1, hArg 2] = some (boolR true) → _ := fun X hX hrun => tw_law Tryd.func8 hR hX hrun ht hin
  by_cases h0 : 2000 < l0.length
  · exact go _ (toldT (by intro x hx; simp at hx; subst hx; exact decide_eq_true h0)) ru_run0
  by_cases h1 : 2000 < l1.length
  · exact go _ (toldT (by intro x hx; simp at hx; rcases hx with rfl | rfl; exact decide_eq_false h0; exact decide_eq_true h1)) ru_run1
  by_cases h2 : 2000 < l2.length
  · exact go _ (toldT (by intro x hx; simp at hx; rcases hx with rfl | rfl | rfl; exact decide_eq_false h0; exact decide_eq_false h1; exact decide_eq_true h2)) ru_run2
  have hn : R.num = numOf (ruT (numT l0) (numT l1) (numT l2)) := rfl
  have tX : ∀ F, FpFacts R F → FpTold R (ruX F) := fun F hF => toldTE (facts_app (facts_app (facts_app (numF_ok hn (j := 0) (t := 0) rfl) (numF_ok hn (j := 1) (t := 1) rfl)) (numF_ok hn (j := 2) (t := 2) rfl)) hF) (by intro x hx; simp at hx; rcases hx with rfl | rfl | rfl; exact decide_eq_false h0; exact decide_eq_false h1; exact decide_eq_false h2)
  have tY : Told R allTgt2 ruY := by
    intro c hc
    simp only [ruY, List.mem_cons, List.not_mem_nil, or_false] at hc
    rcases hc with rfl | rfl | rfl | rfl | rfl | rfl | rfl | rfl | rfl | rfl | rfl | rfl
    · exact told2_mul hn (a := 0) (b := 1) (c := 3) (Cg.refl _)
    · exact told2_mul hn (a := 1) (b := 0) (c := 3) (Cg.of_eq (T.mul_comm _ _))
    · exact told2_mul hn (a := 3) (b := 2) (c := 5) (Cg.refl _)
    · exact told2_mul hn (a := 1) (b := 2) (c := 4) (Cg.refl _)
    · exact told2_mul hn (a := 0) (b := 4) (c := 5) (Cg.of_eq (T.mul_assoc _ _ _))
    · exact told2_sq hn (a := 0) (c := 6) (Cg.refl _)
    · exact told2_mul hn (a := 0) (b := 0) (c := 6) (Cg.refl _)
    · exact told2_mulOne hn (a := 0)
    · exact told2_conj hn (a := 3) (c := 9) (Cg.refl _)
    · exact told2_conj hn (a := 0) (c := 7) (Cg.refl _)
    · exact told2_conj hn (a := 1) (c := 8) (Cg.refl _)
    · exact told2_mul hn (a := 7) (b := 8) (c := 9) (Cg.of_eq (T.conj_mul _ _))
  have tI : ToldI R ruI := by
    constructor
    · intro c hc h; simp only [ruI, List.mem_singleton] at hc; subst hc; cases h
    · intro c hc h; simp only [ruI, List.mem_singleton] at hc; subst hc; exact elInv_told hR hn (a := 0) (c := 10) (Cg.refl _)
  have lw : ∀ F Y, FpFacts R F → Told R allTgt2 Y → runFn Tryd.prog (fpTable (ruX F) (twZ Tryd.prog (ruX F) [(0, 0), (1, 1), (2, 2)] Y ruI)) 400 Tryd.f8 [hArg 0, hArg 1, hArg 2] = some (boolR true) → _ := fun F Y hF hY hrun => twZ_law Tryd.func8 hR (tX F hF) hY tI hrun ht hin
  rcases first_of (p := fun k => R.num (12 * 0 + k) % fpQ = 0) 12 with hz | ⟨j, hj, hz, hnz⟩
  · have hx : Cg (numT l0) T.zero := Cg.of_get fun k hk => by
      exact ((num_get hn 0 hk).1 (hz k hk)).trans (by rw [T.zero_get]; rfl)
    exact lw _ _ (facts_app (zeroF_ok hz) (sameF_ok fun k hk => num_same hn (s := 10) (t := 0) ((tInv_zero hx).trans hx.symm) hk)) tY ru_runz
  · have hx : ¬ Cg (numT l0) T.zero := fun h => hnz ((num_get hn 0 hj).2 ((h.get j).trans (by rw [T.zero_get]; rfl)))
    have tN : Told R allTgt2 ruYN := by
      intro c hc
      rcases List.mem_cons.1 hc with rfl | hc
      · exact told2_mulInv hn (a := 0) (b := 10) (tInv_one hx)
      · exact tY c hc
    have hF := firstF_ok hz hnz
    match j, hj, hF with
    | 0, _, hF => exact lw _ _ hF tN ru_runn0
    | 1, _, hF => exact lw _ _ hF tN ru_runn1
    | 2, _, hF => exact lw _ _ hF tN ru_runn2
    | 3, _, hF => exact lw _ _ hF tN ru_runn3
    | 4, _, hF => exact lw _ _ hF tN ru_runn4
    | 5, _, hF => exact lw _ _ hF tN ru_runn5
    | 6, _, hF => exact lw _ _ hF tN ru_runn6
    | 7, _, hF => exact lw _ _ hF tN ru_runn7
    | 8, _, hF => exact lw _ _ hF tN ru_runn8
    | 9, _, hF => exact lw _ _ hF tN ru_runn9
    | 10, _, hF => exact lw _ _ hF tN ru_runn10
    | 11, _, hF => exact lw _ _ hF tN ru_runn11
end Go.Proofs.YtdconlmpjehohaaDoor
