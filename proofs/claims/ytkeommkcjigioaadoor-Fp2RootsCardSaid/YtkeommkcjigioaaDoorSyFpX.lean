/- Package fp: the reference's Half, Power, Sqrt, Large as entries of the table. Conditions: those of each theorem. -/
import Derived.Test.YtkeommkcjigioaaDoorSyFpW
import Derived.Test.YtkeommkcjigioaaDoorRefK
namespace Go.Proofs.YtkeommkcjigioaaDoor
open Go.RowKit Sx
set_option linter.unusedVariables false

def halfE : Entry
  | [x] => match wArg x with
    | some a => match Nat.ble (wMax a) 25 with
      | true => some (.one (.h (.op 21 (.op 48 a (.dt 0)) (.dt 0))))
      | false => none
    | none => none
  | _ => none

theorem halfE_ok {R : Ev} : EntryOk (fpDenS R) FpTab 71 halfE := by
  refine ⟨by kernel_rfl, fun cs r hr σ w vs hv hI => ?_⟩
  unfold halfE at hr
  split at hr
  · rename_i x
    split at hr
    · rename_i a ha
      split at hr
      · rename_i hm
        have hm := Nat.le_of_ble_eq_true hm
        injection hr with hr; subst hr
        obtain ⟨u, us, rfl, h1, h3⟩ := hv
        have h3 : us = [] := h3
        subst h3
        obtain ⟨A, c, xs, rfl, a1, a2, a3, a4, a5, a6, a7⟩ := wArg_ok ha h1
        refine (half_calls A xs _ c w a1 rfl a4 (by omega)).mono fun x w' h => ?_
        obtain ⟨A', c', ws, h1, h2, h5, h6, h7, h8⟩ := h
        exact ⟨_, h1, h5, wRes0 rfl A' c' ws (by rw [h7]) h2.rd (by rw [h7]; exact h2.cap.1) (fun g hg => h2.lt g hg) h6 (by rw [h8, a5, wdE_half]) (by rw [h7]; show _ ≤ 25; omega)⟩
      · cases hr
    · cases hr
  · cases hr

/-- (p + 1) / 4, as a code -/
def isS : E → Bool
  | .op 48 (.op 48 (.op 42 p (.op 40 (.dt 1) _)) _) _ => isQ p
  | _ => false

theorem isS_ok (R : Ev) {e : E} (h : isS e = true) : wdE R e = fpS ∧ wMax e ≤ 25 := by
  unfold isS at h
  split at h
  · obtain ⟨q1, _, _⟩ := isQ_ok R h
    refine ⟨?_, Nat.le_refl _⟩
    rw [wdE_half, wdE_half, wdE_add, q1, wdE_lit]
    decide +kernel
  · cases h

def powerE : Entry
  | [x, y, z] => match wArg x, wArg y, wArg z with
    | some a, some b, some m => match Nat.ble (wMax a) 25, isS b, isQ m with
      | true, true, true => some (.one (.h (.op 21 (.op 46 a (.dt 0)) (.dt 0))))
      | _, _, _ => none
    | _, _, _ => none
  | _ => none

theorem powerE_ok {R : Ev} (hR : R.Ok) : EntryOk (fpDenS R) FpTab 70 powerE := by
  refine ⟨by kernel_rfl, fun cs r hr σ w vs hv hI => ?_⟩
  unfold powerE at hr
  split at hr
  · rename_i x y z
    split at hr
    · rename_i a b m ha hb hm
      split at hr
      · rename_i h1 h2 h3
        have h1 := Nat.le_of_ble_eq_true h1
        injection hr with hr; subst hr
        obtain ⟨s1, s2⟩ := isS_ok R h2
        obtain ⟨q1, q2, q3⟩ := isQ_ok R h3
        obtain ⟨u1, us, rfl, g1, u2, us, rfl, g2, u3, us, rfl, g3, g4⟩ := hv
        have g4 : us = [] := g4
        subst g4
        obtain ⟨A, c, xs, rfl, a1, a2, a3, a4, a5, a6, a7⟩ := wArg_ok ha g1
        obtain ⟨B, d, ys, rfl, b1, b2, b3, b4, b5, b6, b7⟩ := wArg_ok hb g2
        obtain ⟨M, f, ms, rfl, m1, m2, m3, m4, m5, m6, m7⟩ := wArg_ok hm g3
        refine (power_calls A B M xs ys ms _ _ _ c d f w a1 b1 m1 rfl rfl rfl a4 b4 m4 (by omega) (by omega) (by omega) m2 (by rw [m5, q1]; decide)).mono fun x w' h => ?_
        obtain ⟨A', c', ws, h1, h2, h3, h4, h5, h6, h7, h8⟩ := h
        refine ⟨_, h1, h5, wRes0 rfl A' c' ws (by rw [h7]) h2 (by rw [h7]; exact h3) h4 h6 ?_ (by rw [h7]; exact Nat.le_trans m6 q2)⟩
        rw [h8, a5, b5, m5, q1, s1, wdE_sqr, hR.sqr]
      · cases hr
    · cases hr
  · cases hr

/-- the reference's functions, powers as well -/
noncomputable def fpRefP (P : Program) (X : Fx) : List (Nat × Entry) :=
  (71, halfE) :: (70, powerE) ::
  (63, inlE P X (fpRef X) Tryd.f63) ::
  (64, inlE P X (fpRef X) Tryd.f64) ::
  (65, inlE P X (fpRef X) Tryd.f65) ::
  (48, inlE P X (fpRef X) Tryd.f48) :: fpRef X

theorem fpRefP_ok {R : Ev} {X : Fx} (hR : R.Ok) (hX : FpTold R X) : ∀ x ∈ fpRefP Tryd.prog X, EntryOk (fpDenS R) FpTab x.1 x.2 := by
  unfold fpRefP
  have h := fpRef_ok hR hX
  simp only [List.forall_mem_cons]
  exact ⟨halfE_ok, powerE_ok hR, inlE_ok hX h (by kernel_rfl) Tryd.func63, inlE_ok hX h (by kernel_rfl) Tryd.func64, inlE_ok hX h (by kernel_rfl) Tryd.func65, inlE_ok hX h (by kernel_rfl) Tryd.func48, h⟩

noncomputable def fpRefS (P : Program) (X : Fx) : List (Nat × Entry) := (46, inlE P X (fpRefP P X) Tryd.f46) :: fpRefP P X

theorem fpRefS_ok {R : Ev} {X : Fx} (hR : R.Ok) (hX : FpTold R X) : ∀ x ∈ fpRefS Tryd.prog X, EntryOk (fpDenS R) FpTab x.1 x.2 := by
  unfold fpRefS
  have h := fpRefP_ok hR hX
  rw [List.forall_mem_cons]
  exact ⟨inlE_ok hX h (by kernel_rfl) Tryd.func46, h⟩

end Go.Proofs.YtkeommkcjigioaaDoor
