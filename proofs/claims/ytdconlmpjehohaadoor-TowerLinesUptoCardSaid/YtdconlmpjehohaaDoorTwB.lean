/- The tower: the walk of TowerLines. Conditions: those of each theorem. -/
import Derived.Test.YtdconlmpjehohaaDoorTwH
namespace Go.Proofs.YtdconlmpjehohaaDoor
open Go.RowKit Sx
set_option linter.unusedVariables false

section
set_option maxRecDepth 100000
theorem towerLines_run0 : runFn Tryd.prog (fpTable { longs := [(0, true)], lim := 2000 } (twAll Tryd.prog { longs := [(0, true)], lim := 2000 })) 400 Tryd.f4 [hArg 0, hArg 1] = some (boolR true) := by kernel_rfl
theorem towerLines_run1 : runFn Tryd.prog (fpTable { longs := [(0, false), (1, true)], lim := 2000 } (twAll Tryd.prog { longs := [(0, false), (1, true)], lim := 2000 })) 400 Tryd.f4 [hArg 0, hArg 1] = some (boolR true) := by kernel_rfl
theorem towerLines_run2 : runFn Tryd.prog (fpTable { longs := [(0, false), (1, false)], lim := 2000 } (twAll Tryd.prog { longs := [(0, false), (1, false)], lim := 2000 })) 400 Tryd.f4 [hArg 0, hArg 1] = some (boolR true) := by kernel_rfl
end

theorem towerLines_calls (A0 A1 : Option Addr) (n0 n1 c0 c1 : Nat) (l0 l1 : List Nat) (w : World) (ht : FpTab w)
    (hr0 : Rd w A0 (nums .u8 l0)) (hl0 : l0.length = n0) (hc0 : n0 ≤ c0) (hn0 : n0 ≤ 140737488355328) (hb0 : ∀ x ∈ l0, x < 256) (hk0 : ∀ g, blk A0 = some g → g < w.heap.size)
    (hr1 : Rd w A1 (nums .u8 l1)) (hl1 : l1.length = n1) (hc1 : n1 ≤ c1) (hn1 : n1 ≤ 140737488355328) (hb1 : ∀ x ∈ l1, x < 256) (hk1 : ∀ g, blk A1 = some g → g < w.heap.size) :
    Calls Tryd.prog 4 #[.slice A0 n0 c0, .slice A1 n1 c1] w fun e w' => e = .returned (.bool true) ∧ Below w.heap.size w w' := by
  obtain ⟨inv, hinv⟩ := inv_ex
  obtain ⟨sqr_, hsqr⟩ := sqr_ex
  let R : Ev := ⟨fun _ => 0, rows [l0, l1], inv, sqr_⟩
  have hR : R.Ok := ⟨rows_ok (by simp only [List.forall_mem_cons]; exact ⟨⟨hl0 ▸ hn0, hb0⟩, ⟨hl1 ▸ hn1, hb1⟩, fun x hx => by cases hx⟩), hinv, hsqr⟩
  have hin : RVsIs (fpDenS R) 0 w [hArg 0, hArg 1] [.slice A0 n0 c0, .slice A1 n1 c1] :=
    ⟨_, _, rfl, hArg_ok (R := R) (i := 0) hr0 hl0 hc0 hk0, _, _, rfl, hArg_ok (R := R) (i := 1) hr1 hl1 hc1 hk1, rfl⟩
  have go : ∀ X, FpTold R X → runFn Tryd.prog (fpTable X (twAll Tryd.prog X)) 400 Tryd.f4 [hArg 0, hArg 1] = some (boolR true) → _ := fun X hX hrun => tw_law Tryd.func4 hR hX hrun ht hin
  by_cases h0 : 2000 < l0.length
  · exact go _ (toldT (by intro x hx; simp at hx; subst hx; exact decide_eq_true h0)) towerLines_run0
  by_cases h1 : 2000 < l1.length
  · exact go _ (toldT (by intro x hx; simp at hx; rcases hx with rfl | rfl; exact decide_eq_false h0; exact decide_eq_true h1)) towerLines_run1
  exact go _ (toldT (by intro x hx; simp at hx; rcases hx with rfl | rfl; exact decide_eq_false h0; exact decide_eq_false h1)) towerLines_run2

end Go.Proofs.YtdconlmpjehohaaDoor
