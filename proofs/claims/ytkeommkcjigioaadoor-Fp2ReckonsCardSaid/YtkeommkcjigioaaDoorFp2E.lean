/- Package fp2 against the reference: the walk of Fp2Reckons. Conditions: those of each theorem. -/
import Derived.Test.YtkeommkcjigioaaDoorFp2N
namespace Go.Proofs.YtkeommkcjigioaaDoor
open Go.RowKit Sx
set_option linter.unusedVariables false

section
set_option maxRecDepth 100000
theorem fp2Reckons_run0 : runFn Tryd.prog (fpTable { longs := [(0, true)], lim := 64 } (fp2nAll Tryd.prog { longs := [(0, true)], lim := 64 })) 400 Tryd.f6 [hArg 0, hArg 1, hArg 2, hArg 3] = some (boolR true) := by kernel_rfl
theorem fp2Reckons_run1 : runFn Tryd.prog (fpTable { longs := [(0, false), (1, true)], lim := 64 } (fp2nAll Tryd.prog { longs := [(0, false), (1, true)], lim := 64 })) 400 Tryd.f6 [hArg 0, hArg 1, hArg 2, hArg 3] = some (boolR true) := by kernel_rfl
theorem fp2Reckons_run2 : runFn Tryd.prog (fpTable { longs := [(0, false), (1, false), (2, true)], lim := 64 } (fp2nAll Tryd.prog { longs := [(0, false), (1, false), (2, true)], lim := 64 })) 400 Tryd.f6 [hArg 0, hArg 1, hArg 2, hArg 3] = some (boolR true) := by kernel_rfl
theorem fp2Reckons_run3 : runFn Tryd.prog (fpTable { longs := [(0, false), (1, false), (2, false), (3, true)], lim := 64 } (fp2nAll Tryd.prog { longs := [(0, false), (1, false), (2, false), (3, true)], lim := 64 })) 400 Tryd.f6 [hArg 0, hArg 1, hArg 2, hArg 3] = some (boolR true) := by kernel_rfl
theorem fp2Reckons_run4 : runFn Tryd.prog (fpTable { longs := [(0, false), (1, false), (2, false), (3, false)], lim := 64 } (fp2nAll Tryd.prog { longs := [(0, false), (1, false), (2, false), (3, false)], lim := 64 })) 400 Tryd.f6 [hArg 0, hArg 1, hArg 2, hArg 3] = some (boolR true) := by kernel_rfl
end

theorem fp2Reckons_calls (A0 A1 A2 A3 : Option Addr) (n0 n1 n2 n3 c0 c1 c2 c3 : Nat) (l0 l1 l2 l3 : List Nat) (w : World) (ht : FpTab w)
    (hr0 : Rd w A0 (nums .u8 l0)) (hl0 : l0.length = n0) (hc0 : n0 ≤ c0) (hn0 : n0 ≤ 140737488355328) (hb0 : ∀ x ∈ l0, x < 256) (hk0 : ∀ g, blk A0 = some g → g < w.heap.size)
    (hr1 : Rd w A1 (nums .u8 l1)) (hl1 : l1.length = n1) (hc1 : n1 ≤ c1) (hn1 : n1 ≤ 140737488355328) (hb1 : ∀ x ∈ l1, x < 256) (hk1 : ∀ g, blk A1 = some g → g < w.heap.size)
    (hr2 : Rd w A2 (nums .u8 l2)) (hl2 : l2.length = n2) (hc2 : n2 ≤ c2) (hn2 : n2 ≤ 140737488355328) (hb2 : ∀ x ∈ l2, x < 256) (hk2 : ∀ g, blk A2 = some g → g < w.heap.size)
    (hr3 : Rd w A3 (nums .u8 l3)) (hl3 : l3.length = n3) (hc3 : n3 ≤ c3) (hn3 : n3 ≤ 140737488355328) (hb3 : ∀ x ∈ l3, x < 256) (hk3 : ∀ g, blk A3 = some g → g < w.heap.size) :
    Calls Tryd.prog 6 #[.slice A0 n0 c0, .slice A1 n1 c1, .slice A2 n2 c2, .slice A3 n3 c3] w fun e w' => e = .returned (.bool true) ∧ Below w.heap.size w w' := by
  obtain ⟨inv, hinv⟩ := inv_ex
  obtain ⟨sqr_, hsqr⟩ := sqr_ex
  let R : Ev := ⟨fun _ => 0, rows [l0, l1, l2, l3], inv, sqr_⟩
  have hR : R.Ok := ⟨rows_ok (by simp only [List.forall_mem_cons]; exact ⟨⟨hl0 ▸ hn0, hb0⟩, ⟨hl1 ▸ hn1, hb1⟩, ⟨hl2 ▸ hn2, hb2⟩, ⟨hl3 ▸ hn3, hb3⟩, fun x hx => by cases hx⟩), hinv, hsqr⟩
  have hin : RVsIs (fpDenS R) 0 w [hArg 0, hArg 1, hArg 2, hArg 3] [.slice A0 n0 c0, .slice A1 n1 c1, .slice A2 n2 c2, .slice A3 n3 c3] :=
    ⟨_, _, rfl, hArg_ok (R := R) (i := 0) hr0 hl0 hc0 hk0, _, _, rfl, hArg_ok (R := R) (i := 1) hr1 hl1 hc1 hk1, _, _, rfl, hArg_ok (R := R) (i := 2) hr2 hl2 hc2 hk2, _, _, rfl, hArg_ok (R := R) (i := 3) hr3 hl3 hc3 hk3, rfl⟩
  have go : ∀ X, FpTold R X → runFn Tryd.prog (fpTable X (fp2nAll Tryd.prog X)) 400 Tryd.f6 [hArg 0, hArg 1, hArg 2, hArg 3] = some (boolR true) → _ := fun X hX hrun => fp2n_law Tryd.func6 hR hX hrun ht hin
  by_cases h0 : 64 < l0.length
  · exact go _ (told64L (by intro x hx; simp at hx; subst hx; exact decide_eq_true h0)) fp2Reckons_run0
  by_cases h1 : 64 < l1.length
  · exact go _ (told64L (by intro x hx; simp at hx; rcases hx with rfl | rfl; exact decide_eq_false h0; exact decide_eq_true h1)) fp2Reckons_run1
  by_cases h2 : 64 < l2.length
  · exact go _ (told64L (by intro x hx; simp at hx; rcases hx with rfl | rfl | rfl; exact decide_eq_false h0; exact decide_eq_false h1; exact decide_eq_true h2)) fp2Reckons_run2
  by_cases h3 : 64 < l3.length
  · exact go _ (told64L (by intro x hx; simp at hx; rcases hx with rfl | rfl | rfl | rfl; exact decide_eq_false h0; exact decide_eq_false h1; exact decide_eq_false h2; exact decide_eq_true h3)) fp2Reckons_run3
  exact go _ (told64L (by intro x hx; simp at hx; rcases hx with rfl | rfl | rfl | rfl; exact decide_eq_false h0; exact decide_eq_false h1; exact decide_eq_false h2; exact decide_eq_false h3)) fp2Reckons_run4

end Go.Proofs.YtkeommkcjigioaaDoor
