/- The tower's functions are run where they are called; the head of its statements. Conditions: those of each theorem. -/
import Derived.Test.YtdconlmpjehohaaDoorSyFpW
import Derived.Test.YtdconlmpjehohaaDoorPart
namespace Go.Proofs.YtdconlmpjehohaaDoor
open Go.RowKit Sx
set_option linter.unusedVariables false

/-- are the bytes of pairs alike? -/
def sameNE (X : Fx) : Entry := fun cs => match cs with
  | [.view [.el (.op 10 p _), .el (.op 10 q _)], .held (.op 20 (.op 25 a b) _)] => match isFp p && (isFp q && (below X a && below X b)), toFp X a, toFp X b with
    | true, some x, some y => match fpSameL X.eqs [p, q] [x, y] with
      | some r => some (boolR r)
      | none => none
    | _, _, _ => none
  | _ => sameBE X cs

theorem sameNE_ok {R : Ev} (hR : R.Ok) {X : Fx} (hX : FpTold R X) : EntryOk (fpDenS R) FpTab 52 (sameNE X) := by
  refine ⟨by kernel_rfl, fun cs r hr σ w vs hv hI => ?_⟩
  unfold sameNE at hr
  split at hr
  · rename_i p p' q q' a b b'
    split at hr
    · rename_i x y hb hx hy
      simp only [Bool.and_eq_true] at hb
      obtain ⟨ip, iq, ba, bb⟩ := hb
      split at hr
      · rename_i s hs
        injection hr with hr; subst hr
        obtain ⟨u, us, rfl, ⟨bk, o, c, l, rfl, hlc, h1, h2, h3⟩, v, ws, rfl, h4, h5⟩ := hv
        have h5 : ws = [] := h5
        subst h5
        obtain ⟨B, d, rfl, b1, b2, b3⟩ := hold20 h4
        have er : R.row (.op 25 a b) = digs 48 (wdE R a) ++ digs 48 (wdE R b) := by simp only [Ev.row]
        rw [er] at b1 ⊢
        have h1 : some (nums .u8 (digs 48 (fpEv R p % fpQ)) ++ (nums .u8 (digs 48 (fpEv R q % fpQ)) ++ [])) = some l := h1
        injection h1 with h1
        rw [List.append_nil, ← nums_append] at h1
        subst h1
        have la : ∀ z, (digs 48 z).length = 48 := fun z => digs_length 48 z
        have hlen : (nums .u8 (digs 48 (fpEv R p % fpQ) ++ digs 48 (fpEv R q % fpQ))).length = (digs 48 (fpEv R p % fpQ) ++ digs 48 (fpEv R q % fpQ)).length := nums_length _ _
        rw [hlen]
        have hl := same_calls (some ⟨bk, o, none⟩) B (digs 48 (fpEv R p % fpQ) ++ digs 48 (fpEv R q % fpQ)) (digs 48 (wdE R a) ++ digs 48 (wdE R b)) c d w (.inr ⟨bk, o, rfl, h2, h3⟩) b1 (by rw [List.length_append, la, la]; decide) (by rw [List.length_append, la, la]; decide)
        have hq : fpQ < 256 ^ 48 := by decide
        have e : SameB (digs 48 (fpEv R p % fpQ) ++ digs 48 (fpEv R q % fpQ)) (digs 48 (wdE R a) ++ digs 48 (wdE R b)) = s := by
          have hs := fpSameL_ok hX.eqs hs
          unfold SameB
          rw [← hs, decide_eq_decide]
          have ea := toFp_ok hR hX hx
          have eb := toFp_ok hR hX hy
          have la' := below_ok hX ba
          have lb' := below_ok hX bb
          rw [Nat.mod_eq_of_lt la'] at ea
          rw [Nat.mod_eq_of_lt lb'] at eb
          rw [← ea, ← eb]
          simp only [List.map_cons, List.map_nil]
          have lt : ∀ z, z % fpQ < 256 ^ 48 := fun z => Nat.lt_trans (Nat.mod_lt _ (by decide)) hq
          constructor
          · intro h
            obtain ⟨g1, g2⟩ := List.append_inj h (by rw [la, la])
            rw [digs_inj (lt _) (lt _) g1, digs_inj (lt _) (lt _) g2]
          · intro h
            injection h with g1 g2
            injection g2 with g2 _
            rw [g1, g2]
        rw [e] at hl
        exact calls_bool (hl.mono fun y w' ⟨h1, h2⟩ => ⟨h1, below_ex h2⟩)
      · cases hr
    · cases hr
  · exact (sameBE_ok hR hX).2 cs r hr σ w vs hv hI

/-- a number that is known -/
def litOf : E → Option Nat
  | .op 0 (.dt n) _ => some n
  | _ => none

theorem litOf_ok {R : Ev} {e : E} {n : Nat} (h : litOf e = some n) : fpEv R e = n := by
  unfold litOf at h
  split at h
  · have h := Option.some.inj h
    rw [fpEv_lit]
    exact h
  · cases h

/-- sums and products of known numbers are reckoned -/
def addS (a b : E) : E := match litOf a, litOf b with
  | some m, some n => .op 0 (.dt ((m + n) % fpQ)) (.dt 0)
  | some 0, none => b
  | none, some 0 => a
  | _, _ => .op 1 a b
def subS (a b : E) : E := match litOf a, litOf b with
  | some m, some n => .op 0 (.dt ((m + (fpQ - n % fpQ)) % fpQ)) (.dt 0)
  | none, some 0 => a
  | _, _ => .op 3 a b
def mulS (a b : E) : E := match litOf a, litOf b with
  | some m, some n => .op 0 (.dt (m * n % fpQ)) (.dt 0)
  | some 0, none => .op 0 (.dt 0) (.dt 0)
  | some 1, none => b
  | none, some 0 => .op 0 (.dt 0) (.dt 0)
  | none, some 1 => a
  | _, _ => .op 2 a b
def negS (a : E) : E := match litOf a with
  | some m => .op 0 (.dt ((fpQ - m % fpQ) % fpQ)) (.dt 0)
  | none => .op 4 a (.dt 0)

theorem addS_ok {R : Ev} {a b : E} (ha : isFp a = true) (hb : isFp b = true) : isFp (addS a b) = true ∧ fpEv R (addS a b) % fpQ = (fpEv R a + fpEv R b) % fpQ := by
  unfold addS
  split
  · rename_i m n h1 h2
    exact ⟨rfl, by rw [fpEv_lit, litOf_ok h1, litOf_ok h2, Nat.mod_mod]⟩
  · rename_i h1 h2
    exact ⟨hb, by rw [litOf_ok h1, Nat.zero_add]⟩
  · rename_i h1 h2
    exact ⟨ha, by rw [litOf_ok h2, Nat.add_zero]⟩
  · exact ⟨rfl, by rw [fpEv_add]⟩

theorem subS_ok {R : Ev} {a b : E} (ha : isFp a = true) (hb : isFp b = true) : isFp (subS a b) = true ∧ fpEv R (subS a b) % fpQ = (fpEv R a + (fpQ - fpEv R b % fpQ)) % fpQ := by
  unfold subS
  split
  · rename_i m n h1 h2
    exact ⟨rfl, by rw [fpEv_lit, litOf_ok h1, litOf_ok h2, Nat.mod_mod]⟩
  · rename_i h1 h2
    exact ⟨ha, by rw [litOf_ok h2, Nat.zero_mod, Nat.sub_zero, Nat.add_mod_right]⟩
  · exact ⟨rfl, by rw [fpEv_sub]⟩

theorem mulS_ok {R : Ev} {a b : E} (ha : isFp a = true) (hb : isFp b = true) : isFp (mulS a b) = true ∧ fpEv R (mulS a b) % fpQ = (fpEv R a * fpEv R b) % fpQ := by
  unfold mulS
  split
  · rename_i m n h1 h2
    exact ⟨rfl, by rw [fpEv_lit, litOf_ok h1, litOf_ok h2, Nat.mod_mod]⟩
  · rename_i h1 h2
    exact ⟨rfl, by rw [fpEv_lit, litOf_ok h1, Nat.zero_mul]⟩
  · rename_i h1 h2
    exact ⟨hb, by rw [litOf_ok h1, Nat.one_mul]⟩
  · rename_i h1 h2
    exact ⟨rfl, by rw [fpEv_lit, litOf_ok h2, Nat.mul_zero]⟩
  · rename_i h1 h2
    exact ⟨ha, by rw [litOf_ok h2, Nat.mul_one]⟩
  · exact ⟨rfl, by rw [fpEv_mul]⟩

theorem negS_ok {R : Ev} {a : E} (ha : isFp a = true) : isFp (negS a) = true ∧ fpEv R (negS a) % fpQ = (fpQ - fpEv R a % fpQ) % fpQ := by
  unfold negS
  split
  · rename_i m h1
    exact ⟨rfl, by rw [fpEv_lit, litOf_ok h1, Nat.mod_mod]⟩
  · exact ⟨rfl, by rw [fpEv_neg]⟩

theorem fpEl_is {xs : List Atom} {e : E} (h : fpEl xs = some e) : isFp e = true := by
  unfold fpEl at h
  split at h
  · split at h
    · rename_i h2
      injection h with h; subst h; exact h2
    · cases h
  · injection h with h; subst h; rfl
  · cases h

theorem fp1_is {cs : List CArg} {a : E} (h : fp1 cs = some a) : isFp a = true := by
  unfold fp1 at h
  split at h
  · exact fpEl_is h
  · cases h

theorem fp2_is {cs : List CArg} {a b : E} (h : fp2 cs = some (a, b)) : isFp a = true ∧ isFp b = true := by
  unfold fp2 at h
  split at h
  · split at h
    · rename_i h3 h4
      injection h with h; injection h with e1 e2; subst e1 e2
      exact ⟨fpEl_is h3, fpEl_is h4⟩
    · cases h
  · cases h

/-- two numbers in, one out -/
def fpBinS (s : E → E → E) : Entry := fun cs => match fp2 cs with
  | some (a, b) => some (.one (.dt (.agg [.el (s a b)])))
  | none => none
def fpUnS (s : E → E) : Entry := fun cs => match fp1 cs with
  | some a => some (.one (.dt (.agg [.el (s a)])))
  | none => none

theorem fpBinS_ok {R : Ev} {f : FuncId} (hf : isGo Tryd.prog f = true) (s : E → E → E) (c : Nat → Nat → Nat) (hs : ∀ {a b}, isFp a = true → isFp b = true → isFp (s a b) = true ∧ fpEv R (s a b) % fpQ = c (fpEv R a) (fpEv R b) % fpQ)
    (h : ∀ a b w, FpTab w → Calls Tryd.prog f #[fpE a, fpE b] w fun x w' => x = .returned (fpE (c a b)) ∧ Below w.heap.size w w') :
    EntryOk (fpDenS R) FpTab f (fpBinS s) := by
  refine ⟨hf, fun cs r hr σ w vs hv hI => ?_⟩
  unfold fpBinS at hr
  split at hr
  · rename_i a b hc'
    injection hr with hr; subst hr
    obtain ⟨ia, ib⟩ := fp2_is hc'
    obtain ⟨h1, h2⟩ := hs ia ib
    rw [fp2_ok hc' hv]
    refine calls_el h1 ?_
    have := h (fpEv R a) (fpEv R b) w hI
    rw [← fpE_mod (fpEv R (s a b)), h2, fpE_mod]
    exact this
  · cases hr

theorem fpUnS_ok {R : Ev} {f : FuncId} (hf : isGo Tryd.prog f = true) (s : E → E) (c : Nat → Nat) (hs : ∀ {a}, isFp a = true → isFp (s a) = true ∧ fpEv R (s a) % fpQ = c (fpEv R a) % fpQ)
    (h : ∀ a w, FpTab w → Calls Tryd.prog f #[fpE a] w fun x w' => x = .returned (fpE (c a)) ∧ Below w.heap.size w w') :
    EntryOk (fpDenS R) FpTab f (fpUnS s) := by
  refine ⟨hf, fun cs r hr σ w vs hv hI => ?_⟩
  unfold fpUnS at hr
  split at hr
  · rename_i a hc'
    injection hr with hr; subst hr
    obtain ⟨h1, h2⟩ := hs (fp1_is hc')
    rw [fp1_ok hc' hv]
    refine calls_el h1 ?_
    have := h (fpEv R a) w hI
    rw [← fpE_mod (fpEv R (s a)), h2, fpE_mod]
    exact this
  · cases hr

/-- 48 bytes of a row -/
def partE : Entry
  | [.held (.op 20 a _), .dt (.one (.int .i64 (.ofNat k)))] => match Nat.blt k 64 with
    | true => some (.one (.h (.op 20 (.op 28 a (.dt k)) (.dt 0))))
    | false => none
  | _ => none

theorem partE_ok {R : Ev} (hR : R.Ok) : EntryOk (fpDenS R) FpTab 37 partE := by
  refine ⟨by kernel_rfl, fun cs r hr σ w vs hv hI => ?_⟩
  unfold partE at hr
  split at hr
  · rename_i a b k
    split at hr
    · rename_i hk
      have hk : k < 64 := Nat.le_of_ble_eq_true hk
      injection hr with hr; subst hr
      obtain ⟨u, us, rfl, h1, v, ws, rfl, h2, h3⟩ := hv
      have h3 : ws = [] := h3
      subst h3
      injection h2 with h2; injection h2 with h2; subst h2
      obtain ⟨A, c, rfl, a1, a2, a3⟩ := hold20 h1
      have hl := hR.rows a
      have er : R.row (.op 28 a (.dt k)) = partL (R.row a) k := by simp only [Ev.row]
      refine (part_calls A (R.row a) _ c k w a1 rfl hl.2 hl.1 hk).mono fun x w' h => ?_
      obtain ⟨A', c', h5, h6, h7⟩ := h
      refine ⟨_, h5, h7, .inl ⟨_, _, rfl, ⟨A', c', by rw [er], by rw [er]; exact h6.rd, by rw [er]; exact h6.cap.1, fun g hg => (h6.lt g hg).2⟩, fun h => (by injection h with h; cases h)⟩, fun g hg => ?_⟩
      rw [ownBlock_slice] at hg
      exact (h6.lt g hg).1
    · cases hr
  · cases hr

/-- Read of bytes that are known -/
def fpReadLE (X : Fx) : Entry := fun cs => match cs with
  | [.view xs] => match bytesOf xs with
    | some l => match Nat.beq l.length 48, Nat.blt (be l) fpQ with
      | true, true => some (.tup [.dt (.agg [.el (.op 0 (.dt (be l)) (.dt 0))]), .dt (.one (.int .i64 0))])
      | _, _ => none
    | none => fpReadWE X cs
  | _ => fpReadWE X cs

theorem fpReadLE_ok {R : Ev} (hR : R.Ok) {X : Fx} (hX : FpTold R X) : EntryOk (fpDenS R) FpTab 50 (fpReadLE X) := by
  refine ⟨by kernel_rfl, fun cs r hr σ w vs hv hI => ?_⟩
  unfold fpReadLE at hr
  split at hr
  · rename_i xs
    split at hr
    · rename_i l hl
      split at hr
      · rename_i h48 hlt
        have h48 := Nat.eq_of_beq_eq_true h48
        have hlt : be l < fpQ := Nat.le_of_ble_eq_true hlt
        injection hr with hr; subst hr
        obtain ⟨v, ws, rfl, ⟨bk, o, c, m, rfl, hlc, h1, h2, h3⟩, h4⟩ := hv
        have h4 : ws = [] := h4
        subst h4
        obtain ⟨rfl, hb⟩ := bytesOf_ok hl h1
        have hlen : (nums .u8 l).length = l.length := nums_length _ _
        rw [hlen] at hlc ⊢
        have hc := fp_read_calls (some ⟨bk, o, none⟩) l _ c w hI (.inr ⟨bk, o, rfl, h2, h3⟩) rfl hlc (by omega) hb (fun g hg => (by injection hg with hg; subst hg; exact h2))
        have e2 : fpReadN l = (be l, 0) := by unfold fpReadN; rw [if_pos h48, if_pos hlt]
        rw [e2] at hc
        refine hc.mono fun x w' ⟨h5, h6⟩ => ⟨_, h5, h6, _, rfl, _, _, rfl, ⟨_, rfl, ?_⟩, _, _, rfl, rfl, rfl⟩
        show fpE (be l) = .agg (fpDen R (.op 0 (.dt (be l)) (.dt 0)) ++ []).toArray
        rw [List.append_nil, isFp_den rfl, ← fpCells_ok, fpEv_lit]
      · cases hr
    · exact (fpReadWE_ok hR hX).2 _ r hr σ w vs hv hI
  · exact (fpReadWE_ok hR hX).2 cs r hr σ w vs hv hI

/-- the base of the tower's table -/
noncomputable def tw0 (P : Program) (X : Fx) : List (Nat × Entry) :=
  (52, sameNE X) :: (50, fpReadLE X) :: (37, partE) ::
  (49, fpBinS addS) :: (46, fpBinS subS) :: (45, fpBinS mulS) :: (23, fpUnS negS) :: (75, fpUnS (fun a => mulS a a)) ::
  (70, inlE P X (fpRef X) Tryd.f70) :: (56, inlE P X (fpRef X) Tryd.f56) :: (69, inlE P X (fpRef X) Tryd.f69) :: fpRef X

theorem tw0_ok {R : Ev} {X : Fx} (hR : R.Ok) (hX : FpTold R X) : ∀ x ∈ tw0 Tryd.prog X, EntryOk (fpDenS R) FpTab x.1 x.2 := by
  unfold tw0
  simp only [List.forall_mem_cons]
  have h := fpRef_ok hR hX
  exact ⟨sameNE_ok hR hX, fpReadLE_ok hR hX, partE_ok hR, fpBinS_ok (by kernel_rfl) addS (fun a b => a + b) addS_ok fp_addE, fpBinS_ok (by kernel_rfl) subS (fun a b => a + (fpQ - b % fpQ)) subS_ok fp_subE, fpBinS_ok (by kernel_rfl) mulS (fun a b => a * b) mulS_ok fp_mulE,
    fpUnS_ok (by kernel_rfl) negS (fun a => fpQ - a % fpQ) negS_ok fp_neg_calls, fpUnS_ok (by kernel_rfl) (fun a => mulS a a) (fun a => a * a) (fun ha => mulS_ok ha ha) fp_square_calls,
    inlE_ok hX h (by kernel_rfl) Tryd.func70, inlE_ok hX h (by kernel_rfl) Tryd.func56, inlE_ok hX h (by kernel_rfl) Tryd.func69, h⟩

/-- functions that call those -/
noncomputable def tw1 (P : Program) (X : Fx) : List (Nat × Entry) :=
  (16, inlE P X (tw0 P X) Tryd.f16) ::
  (38, inlE P X (tw0 P X) Tryd.f38) ::
  (26, inlE P X (tw0 P X) Tryd.f26) ::
  (28, inlE P X (tw0 P X) Tryd.f28) ::
  (40, inlE P X (tw0 P X) Tryd.f40) ::
  (42, inlE P X (tw0 P X) Tryd.f42) ::
  (43, inlE P X (tw0 P X) Tryd.f43) ::
  (51, inlE P X (tw0 P X) Tryd.f51) ::
  (60, inlE P X (tw0 P X) Tryd.f60) ::
  (61, inlE P X (tw0 P X) Tryd.f61) ::
  (36, inlE P X (tw0 P X) Tryd.f36) ::
  (39, inlE P X (tw0 P X) Tryd.f39) ::
  (33, inlE P X (tw0 P X) Tryd.f33) ::
  (53, inlE P X (tw0 P X) Tryd.f53) ::
  (54, inlE P X (tw0 P X) Tryd.f54) :: tw0 P X

theorem tw1_ok {R : Ev} {X : Fx} (hR : R.Ok) (hX : FpTold R X) : ∀ x ∈ tw1 Tryd.prog X, EntryOk (fpDenS R) FpTab x.1 x.2 := by
  unfold tw1
  simp only [List.forall_mem_cons]
  have h := tw0_ok hR hX
  exact ⟨inlE_ok hX h (by kernel_rfl) Tryd.func16, inlE_ok hX h (by kernel_rfl) Tryd.func38, inlE_ok hX h (by kernel_rfl) Tryd.func26, inlE_ok hX h (by kernel_rfl) Tryd.func28, inlE_ok hX h (by kernel_rfl) Tryd.func40, inlE_ok hX h (by kernel_rfl) Tryd.func42, inlE_ok hX h (by kernel_rfl) Tryd.func43, inlE_ok hX h (by kernel_rfl) Tryd.func51, inlE_ok hX h (by kernel_rfl) Tryd.func60, inlE_ok hX h (by kernel_rfl) Tryd.func61, inlE_ok hX h (by kernel_rfl) Tryd.func36, inlE_ok hX h (by kernel_rfl) Tryd.func39, inlE_ok hX h (by kernel_rfl) Tryd.func33, inlE_ok hX h (by kernel_rfl) Tryd.func53, inlE_ok hX h (by kernel_rfl) Tryd.func54, h⟩

/-- functions that call those -/
noncomputable def tw2 (P : Program) (X : Fx) : List (Nat × Entry) :=
  (44, inlE P X (tw1 P X) Tryd.f44) ::
  (41, inlE P X (tw1 P X) Tryd.f41) :: tw1 P X

theorem tw2_ok {R : Ev} {X : Fx} (hR : R.Ok) (hX : FpTold R X) : ∀ x ∈ tw2 Tryd.prog X, EntryOk (fpDenS R) FpTab x.1 x.2 := by
  unfold tw2
  simp only [List.forall_mem_cons]
  have h := tw1_ok hR hX
  exact ⟨inlE_ok hX h (by kernel_rfl) Tryd.func44, inlE_ok hX h (by kernel_rfl) Tryd.func41, h⟩

/-- functions that call those -/
noncomputable def tw3 (P : Program) (X : Fx) : List (Nat × Entry) :=
  (14, inlE P X (tw2 P X) Tryd.f14) ::
  (27, inlE P X (tw2 P X) Tryd.f27) ::
  (11, inlE P X (tw2 P X) Tryd.f11) ::
  (31, inlE P X (tw2 P X) Tryd.f31) ::
  (17, inlE P X (tw2 P X) Tryd.f17) ::
  (18, inlE P X (tw2 P X) Tryd.f18) ::
  (19, inlE P X (tw2 P X) Tryd.f19) ::
  (20, inlE P X (tw2 P X) Tryd.f20) ::
  (21, inlE P X (tw2 P X) Tryd.f21) :: tw2 P X

theorem tw3_ok {R : Ev} {X : Fx} (hR : R.Ok) (hX : FpTold R X) : ∀ x ∈ tw3 Tryd.prog X, EntryOk (fpDenS R) FpTab x.1 x.2 := by
  unfold tw3
  simp only [List.forall_mem_cons]
  have h := tw2_ok hR hX
  exact ⟨inlE_ok hX h (by kernel_rfl) Tryd.func14, inlE_ok hX h (by kernel_rfl) Tryd.func27, inlE_ok hX h (by kernel_rfl) Tryd.func11, inlE_ok hX h (by kernel_rfl) Tryd.func31, inlE_ok hX h (by kernel_rfl) Tryd.func17, inlE_ok hX h (by kernel_rfl) Tryd.func18, inlE_ok hX h (by kernel_rfl) Tryd.func19, inlE_ok hX h (by kernel_rfl) Tryd.func20, inlE_ok hX h (by kernel_rfl) Tryd.func21, h⟩

/-- functions that call those -/
noncomputable def tw4 (P : Program) (X : Fx) : List (Nat × Entry) :=
  (13, inlE P X (tw3 P X) Tryd.f13) ::
  (15, inlE P X (tw3 P X) Tryd.f15) ::
  (29, inlE P X (tw3 P X) Tryd.f29) ::
  (25, inlE P X (tw3 P X) Tryd.f25) ::
  (32, inlE P X (tw3 P X) Tryd.f32) ::
  (34, inlE P X (tw3 P X) Tryd.f34) :: tw3 P X

theorem tw4_ok {R : Ev} {X : Fx} (hR : R.Ok) (hX : FpTold R X) : ∀ x ∈ tw4 Tryd.prog X, EntryOk (fpDenS R) FpTab x.1 x.2 := by
  unfold tw4
  simp only [List.forall_mem_cons]
  have h := tw3_ok hR hX
  exact ⟨inlE_ok hX h (by kernel_rfl) Tryd.func13, inlE_ok hX h (by kernel_rfl) Tryd.func15, inlE_ok hX h (by kernel_rfl) Tryd.func29, inlE_ok hX h (by kernel_rfl) Tryd.func25, inlE_ok hX h (by kernel_rfl) Tryd.func32, inlE_ok hX h (by kernel_rfl) Tryd.func34, h⟩

/-- functions that call those -/
noncomputable def tw5 (P : Program) (X : Fx) : List (Nat × Entry) :=
  (12, inlE P X (tw4 P X) Tryd.f12) ::
  (30, inlE P X (tw4 P X) Tryd.f30) ::
  (35, inlE P X (tw4 P X) Tryd.f35) ::
  (10, inlE P X (tw4 P X) Tryd.f10) :: tw4 P X

theorem tw5_ok {R : Ev} {X : Fx} (hR : R.Ok) (hX : FpTold R X) : ∀ x ∈ tw5 Tryd.prog X, EntryOk (fpDenS R) FpTab x.1 x.2 := by
  unfold tw5
  simp only [List.forall_mem_cons]
  have h := tw4_ok hR hX
  exact ⟨inlE_ok hX h (by kernel_rfl) Tryd.func12, inlE_ok hX h (by kernel_rfl) Tryd.func30, inlE_ok hX h (by kernel_rfl) Tryd.func35, inlE_ok hX h (by kernel_rfl) Tryd.func10, h⟩

end Go.Proofs.YtdconlmpjehohaaDoor
