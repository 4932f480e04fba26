/- The tower: the walk of TowerReckons. Conditions: those of each theorem. -/
import Derived.Test.YtdconlmpjehohaaDoorTwS2
namespace Go.Proofs.YtdconlmpjehohaaDoor
open Go.RowKit Sx
set_option linter.unusedVariables false

def lineI (b : Nat) : List Nat := [12 * b, 12 * b + 1, 12 * b + 2, 12 * b + 3, 12 * b + 8, 12 * b + 9]
def reckX : Fx := { eqs := numF 0 0 ++ numF 1 1, longs := [(0, false), (1, false)], lim := 2000 }
def reckY : Tx := [(0, dts (tupI 0 ++ tupI 1), dts (tupI 2)), (5, dts (tupI 0 ++ tupI 1), dts (tupI 2)), (1, dts (tupI 0), dts (tupI 3)), (5, dts (tupI 0 ++ tupI 0), dts (tupI 3)), (3, dts (tupI 0 ++ lineI 1), dts (tupI 4)), (6, dts (tupI 0 ++ lineI 1), dts (tupI 4))]
def reckT (x y : T) : List T := [x, y, x.mul y, x.mul x, x.mul (lineOf y)]

section
set_option maxRecDepth 100000
theorem towerReckons_run0 : runFn Tryd.prog (fpTable { longs := [(0, true)], lim := 2000 } (twAll Tryd.prog { longs := [(0, true)], lim := 2000 })) 400 Tryd.f7 [hArg 0, hArg 1] = some (boolR true) := by kernel_rfl
theorem towerReckons_run1 : runFn Tryd.prog (fpTable { longs := [(0, false), (1, true)], lim := 2000 } (twAll Tryd.prog { longs := [(0, false), (1, true)], lim := 2000 })) 400 Tryd.f7 [hArg 0, hArg 1] = some (boolR true) := by kernel_rfl
theorem towerReckons_run2 : runFn Tryd.prog (fpTable reckX (twY Tryd.prog reckX [(0, 0), (1, 1)] reckY)) 400 Tryd.f7 [hArg 0, hArg 1] = some (boolR true) := by kernel_rfl
end

theorem towerReckons_calls (A0 A1 : Option Addr) (n0 n1 c0 c1 : Nat) (l0 l1 : List Nat) (w : World) (ht : FpTab w)
    (hr0 : Rd w A0 (nums .u8 l0)) (hl0 : l0.length = n0) (hc0 : n0 ≤ c0) (hn0 : n0 ≤ 140737488355328) (hb0 : ∀ x ∈ l0, x < 256) (hk0 : ∀ g, blk A0 = some g → g < w.heap.size)
    (hr1 : Rd w A1 (nums .u8 l1)) (hl1 : l1.length = n1) (hc1 : n1 ≤ c1) (hn1 : n1 ≤ 140737488355328) (hb1 : ∀ x ∈ l1, x < 256) (hk1 : ∀ g, blk A1 = some g → g < w.heap.size) :
    Calls Tryd.prog 7 #[.slice A0 n0 c0, .slice A1 n1 c1] w fun e w' => e = .returned (.bool true) ∧ Below w.heap.size w w' := by
  obtain ⟨inv, hinv⟩ := inv_ex
  obtain ⟨sqr_, hsqr⟩ := sqr_ex
  let R : Ev := ⟨numOf (reckT (numT l0) (numT l1)), rows [l0, l1], inv, sqr_⟩
  have hR : R.Ok := ⟨rows_ok (by simp only [List.forall_mem_cons]; exact ⟨⟨hl0 ▸ hn0, hb0⟩, ⟨hl1 ▸ hn1, hb1⟩, fun x hx => by cases hx⟩), hinv, hsqr⟩
  have hin : RVsIs (fpDenS R) 0 w [hArg 0, hArg 1] [.slice A0 n0 c0, .slice A1 n1 c1] :=
    ⟨_, _, rfl, hArg_ok (R := R) (i := 0) hr0 hl0 hc0 hk0, _, _, rfl, hArg_ok (R := R) (i := 1) hr1 hl1 hc1 hk1, rfl⟩
  have go : ∀ X, FpTold R X → runFn Tryd.prog (fpTable X (twAll Tryd.prog X)) 400 Tryd.f7 [hArg 0, hArg 1] = some (boolR true) → _ := fun X hX hrun => tw_law Tryd.func7 hR hX hrun ht hin
  by_cases h0 : 2000 < l0.length
  · exact go _ (toldT (by intro x hx; simp at hx; subst hx; exact decide_eq_true h0)) towerReckons_run0
  by_cases h1 : 2000 < l1.length
  · exact go _ (toldT (by intro x hx; simp at hx; rcases hx with rfl | rfl; exact decide_eq_false h0; exact decide_eq_true h1)) towerReckons_run1
  have hn : R.num = numOf (reckT (numT l0) (numT l1)) := rfl
  refine twY_law Tryd.func7 hR ?_ ?_ towerReckons_run2 ht hin
  · exact toldTE (by
      intro x hx
      rcases List.mem_append.1 hx with hx | hx
      · exact numF_ok hn (j := 0) (t := 0) rfl x hx
      · exact numF_ok hn (j := 1) (t := 1) rfl x hx) (by intro x hx; simp at hx; rcases hx with rfl | rfl; exact decide_eq_false h0; exact decide_eq_false h1)
  · intro c hc
    simp only [reckY, List.mem_cons, List.not_mem_nil, or_false] at hc
    rcases hc with rfl | rfl | rfl | rfl | rfl | rfl
    · exact told_mul hn (a := 0) (b := 1) (c := 2) (Cg.refl _)
    · exact told_ref hn (a := 0) (b := 1) (c := 2) (Cg.refl _)
    · exact told_sq hn (a := 0) (c := 3) (Cg.refl _)
    · exact told_ref hn (a := 0) (b := 0) (c := 3) (Cg.refl _)
    · exact told_line hn (a := 0) (b := 1) (c := 4) (Cg.refl _)
    · exact told_refL hn (a := 0) (b := 1) (c := 4) (Cg.refl _)

end Go.Proofs.YtdconlmpjehohaaDoor
