/- Package fp2 and the reference's pairs as entries of the table. Conditions: those of each theorem. -/
import Derived.Test.YtkeommkcjigioaaDoorSyFpX
import Derived.Test.YtkeommkcjigioaaDoorFp2A
namespace Go.Proofs.YtkeommkcjigioaaDoor
open Go.RowKit Sx
set_option linter.unusedVariables false

/-- are the bytes of pairs alike? -/
def sameNE (X : Fx) : Entry := fun cs => match cs with
  | [.view [.el (.op 10 p _), .el (.op 10 q _)], .held (.op 20 (.op 25 a b) _)] => match isFp p && (isFp q && (below X a && below X b)), toFp X a, toFp X b with
    | true, some x, some y => match fpSameL X.eqs [p, q] [x, y] with
      | some r => some (boolR r)
      | none => none
    | _, _, _ => none
  | _ => sameBE X cs

theorem sameNE_ok {R : Ev} (hR : R.Ok) {X : Fx} (hX : FpTold R X) : EntryOk (fpDenS R) FpTab 26 (sameNE X) := by
  refine ⟨by kernel_rfl, fun cs r hr σ w vs hv hI => ?_⟩
  unfold sameNE at hr
  split at hr
  · rename_i p p' q q' a b b'
    split at hr
    · rename_i x y hb hx hy
      simp only [Bool.and_eq_true] at hb
      obtain ⟨ip, iq, ba, bb⟩ := hb
      split at hr
      · rename_i s hs
        injection hr with hr; subst hr
        obtain ⟨u, us, rfl, ⟨bk, o, c, l, rfl, hlc, h1, h2, h3⟩, v, ws, rfl, h4, h5⟩ := hv
        have h5 : ws = [] := h5
        subst h5
        obtain ⟨B, d, rfl, b1, b2, b3⟩ := hold20 h4
        have er : R.row (.op 25 a b) = digs 48 (wdE R a) ++ digs 48 (wdE R b) := by simp only [Ev.row]
        rw [er] at b1 ⊢
        have h1 : some (nums .u8 (digs 48 (fpEv R p % fpQ)) ++ (nums .u8 (digs 48 (fpEv R q % fpQ)) ++ [])) = some l := h1
        injection h1 with h1
        rw [List.append_nil, ← nums_append] at h1
        subst h1
        have la : ∀ z, (digs 48 z).length = 48 := fun z => digs_length 48 z
        have hlen : (nums .u8 (digs 48 (fpEv R p % fpQ) ++ digs 48 (fpEv R q % fpQ))).length = (digs 48 (fpEv R p % fpQ) ++ digs 48 (fpEv R q % fpQ)).length := nums_length _ _
        rw [hlen]
        have hl := same_calls (some ⟨bk, o, none⟩) B (digs 48 (fpEv R p % fpQ) ++ digs 48 (fpEv R q % fpQ)) (digs 48 (wdE R a) ++ digs 48 (wdE R b)) c d w (.inr ⟨bk, o, rfl, h2, h3⟩) b1 (by rw [List.length_append, la, la]; decide) (by rw [List.length_append, la, la]; decide)
        have hq : fpQ < 256 ^ 48 := by decide
        have e : SameB (digs 48 (fpEv R p % fpQ) ++ digs 48 (fpEv R q % fpQ)) (digs 48 (wdE R a) ++ digs 48 (wdE R b)) = s := by
          have hs := fpSameL_ok hX.eqs hs
          unfold SameB
          rw [← hs, decide_eq_decide]
          have ea := toFp_ok hR hX hx
          have eb := toFp_ok hR hX hy
          have la' := below_ok hX ba
          have lb' := below_ok hX bb
          rw [Nat.mod_eq_of_lt la'] at ea
          rw [Nat.mod_eq_of_lt lb'] at eb
          rw [← ea, ← eb]
          simp only [List.map_cons, List.map_nil]
          have lt : ∀ z, z % fpQ < 256 ^ 48 := fun z => Nat.lt_trans (Nat.mod_lt _ (by decide)) hq
          constructor
          · intro h
            obtain ⟨g1, g2⟩ := List.append_inj h (by rw [la, la])
            rw [digs_inj (lt _) (lt _) g1, digs_inj (lt _) (lt _) g2]
          · intro h
            injection h with g1 g2
            injection g2 with g2 _
            rw [g1, g2]
        rw [e] at hl
        exact calls_bool (hl.mono fun y w' ⟨h1, h2⟩ => ⟨h1, below_ex h2⟩)
      · cases hr
    · cases hr
  · exact (sameBE_ok hR hX).2 cs r hr σ w vs hv hI

noncomputable def fp2N0 (P : Program) (X : Fx) : List (Nat × Entry) := (26, sameNE X) :: fpRefS P X

theorem fp2N0_ok {R : Ev} {X : Fx} (hR : R.Ok) (hX : FpTold R X) : ∀ x ∈ fp2N0 Tryd.prog X, EntryOk (fpDenS R) FpTab x.1 x.2 := by
  unfold fp2N0
  rw [List.forall_mem_cons]
  exact ⟨sameNE_ok hR hX, fpRefS_ok hR hX⟩

/-- functions that call those -/
noncomputable def fp2N1 (P : Program) (X : Fx) : List (Nat × Entry) :=
  (24, inlE P X (fp2N0 P X) Tryd.f24) ::
  (13, inlE P X (fp2N0 P X) Tryd.f13) ::
  (19, inlE P X (fp2N0 P X) Tryd.f19) ::
  (20, inlE P X (fp2N0 P X) Tryd.f20) ::
  (21, inlE P X (fp2N0 P X) Tryd.f21) ::
  (16, inlE P X (fp2N0 P X) Tryd.f16) ::
  (22, inlE P X (fp2N0 P X) Tryd.f22) ::
  (14, inlE P X (fp2N0 P X) Tryd.f14) ::
  (37, inlE P X (fp2N0 P X) Tryd.f37) ::
  (41, inlE P X (fp2N0 P X) Tryd.f41) ::
  (17, inlE P X (fp2N0 P X) Tryd.f17) ::
  (43, inlE P X (fp2N0 P X) Tryd.f43) ::
  (44, inlE P X (fp2N0 P X) Tryd.f44) ::
  (25, inlE P X (fp2N0 P X) Tryd.f25) ::
  (30, inlE P X (fp2N0 P X) Tryd.f30) ::
  (61, inlE P X (fp2N0 P X) Tryd.f61) ::
  (62, inlE P X (fp2N0 P X) Tryd.f62) ::
  (34, inlE P X (fp2N0 P X) Tryd.f34) ::
  (35, inlE P X (fp2N0 P X) Tryd.f35) ::
  (36, inlE P X (fp2N0 P X) Tryd.f36) ::
  (40, inlE P X (fp2N0 P X) Tryd.f40) :: fp2N0 P X

theorem fp2N1_ok {R : Ev} {X : Fx} (hR : R.Ok) (hX : FpTold R X) : ∀ x ∈ fp2N1 Tryd.prog X, EntryOk (fpDenS R) FpTab x.1 x.2 := by
  unfold fp2N1
  simp only [List.forall_mem_cons]
  have h := fp2N0_ok hR hX
  exact ⟨inlE_ok hX h (by kernel_rfl) Tryd.func24, inlE_ok hX h (by kernel_rfl) Tryd.func13, inlE_ok hX h (by kernel_rfl) Tryd.func19, inlE_ok hX h (by kernel_rfl) Tryd.func20, inlE_ok hX h (by kernel_rfl) Tryd.func21, inlE_ok hX h (by kernel_rfl) Tryd.func16, inlE_ok hX h (by kernel_rfl) Tryd.func22, inlE_ok hX h (by kernel_rfl) Tryd.func14, inlE_ok hX h (by kernel_rfl) Tryd.func37, inlE_ok hX h (by kernel_rfl) Tryd.func41, inlE_ok hX h (by kernel_rfl) Tryd.func17, inlE_ok hX h (by kernel_rfl) Tryd.func43, inlE_ok hX h (by kernel_rfl) Tryd.func44, inlE_ok hX h (by kernel_rfl) Tryd.func25, inlE_ok hX h (by kernel_rfl) Tryd.func30, inlE_ok hX h (by kernel_rfl) Tryd.func61, inlE_ok hX h (by kernel_rfl) Tryd.func62, inlE_ok hX h (by kernel_rfl) Tryd.func34, inlE_ok hX h (by kernel_rfl) Tryd.func35, inlE_ok hX h (by kernel_rfl) Tryd.func36, inlE_ok hX h (by kernel_rfl) Tryd.func40, h⟩

/-- functions that call those -/
noncomputable def fp2N2 (P : Program) (X : Fx) : List (Nat × Entry) :=
  (38, inlE P X (fp2N1 P X) Tryd.f38) ::
  (45, inlE P X (fp2N1 P X) Tryd.f45) ::
  (42, inlE P X (fp2N1 P X) Tryd.f42) :: fp2N1 P X

theorem fp2N2_ok {R : Ev} {X : Fx} (hR : R.Ok) (hX : FpTold R X) : ∀ x ∈ fp2N2 Tryd.prog X, EntryOk (fpDenS R) FpTab x.1 x.2 := by
  unfold fp2N2
  simp only [List.forall_mem_cons]
  have h := fp2N1_ok hR hX
  exact ⟨inlE_ok hX h (by kernel_rfl) Tryd.func38, inlE_ok hX h (by kernel_rfl) Tryd.func45, inlE_ok hX h (by kernel_rfl) Tryd.func42, h⟩

/-- all functions -/
noncomputable def fp2nAll (P : Program) (X : Fx) : List (Nat × Entry) :=
  (9, head2E) ::
  (33, inlE P X (fp2N2 P X) Tryd.f33) ::
  (32, inlE P X (fp2N2 P X) Tryd.f32) ::
  (10, inlE P X (fp2N2 P X) Tryd.f10) :: fp2N2 P X

theorem fp2nAll_ok {R : Ev} {X : Fx} (hR : R.Ok) (hX : FpTold R X) : ∀ x ∈ fp2nAll Tryd.prog X, EntryOk (fpDenS R) FpTab x.1 x.2 := by
  unfold fp2nAll
  simp only [List.forall_mem_cons]
  have h := fp2N2_ok hR hX
  exact ⟨head2E_ok R, inlE_ok hX h (by kernel_rfl) Tryd.func33, inlE_ok hX h (by kernel_rfl) Tryd.func32, inlE_ok hX h (by kernel_rfl) Tryd.func10, h⟩

/-- a statement over rows of bytes and the reference, run -/
theorem fp2n_law {R : Ev} {X : Fx} {f : FuncId} {fn : Func} (hf : Tryd.prog.funcs[f]? = some fn) {ins : List RV} (hR : R.Ok) (hX : FpTold R X) (hrun : runFn Tryd.prog (fpTable X (fp2nAll Tryd.prog X)) 400 fn ins = some (boolR true))
    {vs : List Value} {w : World} (ht : FpTab w) (hin : RVsIs (fpDenS R) 0 w ins vs) : Calls Tryd.prog f vs.toArray w fun e w' => e = .returned (.bool true) ∧ Below w.heap.size w w' :=
  bool_post (calls_run (fpRight hX (fp2nAll_ok hR hX)) mixed hf hrun hin fun w' hb => ht.below hb)

end Go.Proofs.YtkeommkcjigioaaDoor
