/- The tower: the walk of TowerCubics. Conditions: those of each theorem. -/
import Derived.Test.YtdconlmpjehohaaDoorTwS4
namespace Go.Proofs.YtdconlmpjehohaaDoor
open Go.RowKit Sx
set_option linter.unusedVariables false

def cuX (F : List (E × E × Bool)) : Fx := { eqs := (numF 0 0 ++ numF 1 1) ++ F, longs := [(0, false), (1, false)], lim := 2000 }
def cuY : Tx := []
def cuYN : Tx := [(7, dts (tupH 0 ++ tupH 2), oneH)]
def cuI : Tx := [(8, dts (tupH 0), dts (tupH 2))]
def cuT (x y : T) : List T := [x, y, tCub x]

section
set_option maxRecDepth 100000
theorem cu_run0 : runFn Tryd.prog (fpTable { longs := [(0, true)], lim := 2000 } (twAll Tryd.prog { longs := [(0, true)], lim := 2000 })) 400 Tryd.f5 [hArg 0, hArg 1] = some (boolR true) := by kernel_rfl
theorem cu_run1 : runFn Tryd.prog (fpTable { longs := [(0, false), (1, true)], lim := 2000 } (twAll Tryd.prog { longs := [(0, false), (1, true)], lim := 2000 })) 400 Tryd.f5 [hArg 0, hArg 1] = some (boolR true) := by kernel_rfl
theorem cu_runz : runFn Tryd.prog (fpTable (cuX (zeroF 0 6 ++ sameF 2 0 6)) (twZ Tryd.prog (cuX (zeroF 0 6 ++ sameF 2 0 6)) [(0, 0), (1, 1)] cuY cuI)) 400 Tryd.f5 [hArg 0, hArg 1] = some (boolR true) := by kernel_rfl
theorem cu_runn0 : runFn Tryd.prog (fpTable (cuX (firstF 0 0)) (twZ Tryd.prog (cuX (firstF 0 0)) [(0, 0), (1, 1)] cuYN cuI)) 400 Tryd.f5 [hArg 0, hArg 1] = some (boolR true) := by kernel_rfl
theorem cu_runn1 : runFn Tryd.prog (fpTable (cuX (firstF 0 1)) (twZ Tryd.prog (cuX (firstF 0 1)) [(0, 0), (1, 1)] cuYN cuI)) 400 Tryd.f5 [hArg 0, hArg 1] = some (boolR true) := by kernel_rfl
theorem cu_runn2 : runFn Tryd.prog (fpTable (cuX (firstF 0 2)) (twZ Tryd.prog (cuX (firstF 0 2)) [(0, 0), (1, 1)] cuYN cuI)) 400 Tryd.f5 [hArg 0, hArg 1] = some (boolR true) := by kernel_rfl
theorem cu_runn3 : runFn Tryd.prog (fpTable (cuX (firstF 0 3)) (twZ Tryd.prog (cuX (firstF 0 3)) [(0, 0), (1, 1)] cuYN cuI)) 400 Tryd.f5 [hArg 0, hArg 1] = some (boolR true) := by kernel_rfl
theorem cu_runn4 : runFn Tryd.prog (fpTable (cuX (firstF 0 4)) (twZ Tryd.prog (cuX (firstF 0 4)) [(0, 0), (1, 1)] cuYN cuI)) 400 Tryd.f5 [hArg 0, hArg 1] = some (boolR true) := by kernel_rfl
theorem cu_runn5 : runFn Tryd.prog (fpTable (cuX (firstF 0 5)) (twZ Tryd.prog (cuX (firstF 0 5)) [(0, 0), (1, 1)] cuYN cuI)) 400 Tryd.f5 [hArg 0, hArg 1] = some (boolR true) := by kernel_rfl
end

theorem cu_calls (A0 A1 : Option Addr) (n0 n1 c0 c1 : Nat) (l0 l1 : List Nat) (w : World) (ht : FpTab w)
    (hr0 : Rd w A0 (nums .u8 l0)) (hl0 : l0.length = n0) (hc0 : n0 ≤ c0) (hn0 : n0 ≤ 140737488355328) (hb0 : ∀ x ∈ l0, x < 256) (hk0 : ∀ g, blk A0 = some g → g < w.heap.size)
    (hr1 : Rd w A1 (nums .u8 l1)) (hl1 : l1.length = n1) (hc1 : n1 ≤ c1) (hn1 : n1 ≤ 140737488355328) (hb1 : ∀ x ∈ l1, x < 256) (hk1 : ∀ g, blk A1 = some g → g < w.heap.size) :
    Calls Tryd.prog 5 #[.slice A0 n0 c0, .slice A1 n1 c1] w fun e w' => e = .returned (.bool true) ∧ Below w.heap.size w w' := by
  obtain ⟨inv, hinv⟩ := inv_ex
  obtain ⟨sqr_, hsqr⟩ := sqr_ex
  let R : Ev := ⟨numOf (cuT (numT l0) (numT l1)), rows [l0, l1], inv, sqr_⟩
  have hR : R.Ok := ⟨rows_ok (by simp only [List.forall_mem_cons]; exact ⟨⟨hl0 ▸ hn0, hb0⟩, ⟨hl1 ▸ hn1, hb1⟩, fun x hx => by cases hx⟩), hinv, hsqr⟩
  have hin : RVsIs (fpDenS R) 0 w [hArg 0, hArg 1] [.slice A0 n0 c0, .slice A1 n1 c1] :=
    ⟨_, _, rfl, hArg_ok (R := R) (i := 0) hr0 hl0 hc0 hk0, _, _, rfl, hArg_ok (R := R) (i := 1) hr1 hl1 hc1 hk1, rfl⟩
  have go : ∀ X, FpTold R X → runFn Tryd.prog (fpTable X (twAll Tryd.prog X)) 400 Tryd.f5 [hArg 0, hArg 1] = some (boolR true) → _ := fun X hX hrun => tw_law Tryd.func5 hR hX hrun ht hin
  by_cases h0 : 2000 < l0.length
  · exact go _ (toldT (by intro x hx; simp at hx; subst hx; exact decide_eq_true h0)) cu_run0
  by_cases h1 : 2000 < l1.length
  · exact go _ (toldT (by intro x hx; simp at hx; rcases hx with rfl | rfl; exact decide_eq_false h0; exact decide_eq_true h1)) cu_run1
  have hn : R.num = numOf (cuT (numT l0) (numT l1)) := rfl
  have tX : ∀ F, FpFacts R F → FpTold R (cuX F) := fun F hF => toldTE (facts_app (facts_app (numF_ok hn (j := 0) (t := 0) rfl) (numF_ok hn (j := 1) (t := 1) rfl)) hF) (by intro x hx; simp at hx; rcases hx with rfl | rfl; exact decide_eq_false h0; exact decide_eq_false h1)
  have tI : ToldI R cuI := by
    constructor
    · intro c hc h; simp only [cuI, List.mem_singleton] at hc; subst hc; exact cubInv_told hR hn (a := 0) (c := 2) (Cg.refl _)
    · intro c hc h; simp only [cuI, List.mem_singleton] at hc; subst hc; cases h
  have lw : ∀ F Y, FpFacts R F → Told R allTgt2 Y → runFn Tryd.prog (fpTable (cuX F) (twZ Tryd.prog (cuX F) [(0, 0), (1, 1)] Y cuI)) 400 Tryd.f5 [hArg 0, hArg 1] = some (boolR true) → _ := fun F Y hF hY hrun => twZ_law Tryd.func5 hR (tX F hF) hY tI hrun ht hin
  rcases first_of (p := fun k => R.num (12 * 0 + k) % fpQ = 0) 6 with hz | ⟨j, hj, hz, hnz⟩
  · have hd : ∀ k, k < 6 → Dv ((numT l0).get k) := fun k hk => Int.dvd_of_emod_eq_zero ((num_get hn 0 (show k < 12 by omega)).1 (hz k hk))
    have e : tCub (numT l0) = T.zero := tCub_zero ⟨hd 0 (by decide), hd 1 (by decide)⟩ ⟨hd 2 (by decide), hd 3 (by decide)⟩ ⟨hd 4 (by decide), hd 5 (by decide)⟩
    exact lw _ _ (facts_app (zeroF_ok hz) (sameF_ok fun k hk => by rw [hz k hk]; exact (num_get hn 2 (show k < 12 by omega)).2 (by show (tCub (numT l0)).get k % (fpQ : Int) = 0; rw [e, T.zero_get]; rfl))) (fun c hc => by cases hc) cu_runz
  · have hx : ¬ ((g0 (numT l0)).Dv ∧ (g1 (numT l0)).Dv ∧ (g2 (numT l0)).Dv) := fun ⟨a0, a1, a2⟩ => hnz ((num_get hn 0 (show j < 12 by omega)).2 (dv_emod (by
      match j, hj with
      | 0, _ => exact a0.1
      | 1, _ => exact a0.2
      | 2, _ => exact a1.1
      | 3, _ => exact a1.2
      | 4, _ => exact a2.1
      | 5, _ => exact a2.2)))
    have tN : Told R allTgt2 cuYN := by
      intro c hc
      simp only [cuYN, List.mem_singleton] at hc
      subst hc
      exact told2_cubInv hn (a := 0) (b := 2) (tCub_one hx)
    have hF := firstF_ok hz hnz
    match j, hj, hF with
    | 0, _, hF => exact lw _ _ hF tN cu_runn0
    | 1, _, hF => exact lw _ _ hF tN cu_runn1
    | 2, _, hF => exact lw _ _ hF tN cu_runn2
    | 3, _, hF => exact lw _ _ hF tN cu_runn3
    | 4, _, hF => exact lw _ _ hF tN cu_runn4
    | 5, _, hF => exact lw _ _ hF tN cu_runn5
end Go.Proofs.YtdconlmpjehohaaDoor
