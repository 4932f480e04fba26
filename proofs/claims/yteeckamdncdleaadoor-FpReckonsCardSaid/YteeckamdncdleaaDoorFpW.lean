/- Package fp against the reference: the walks of FpWide, FpReads, FpReckons. Conditions: those of each theorem. -/
import Derived.Test.YteeckamdncdleaaDoorSyFpW
import Derived.Test.YteeckamdncdleaaDoorSyFpD
namespace Go.Proofs.YteeckamdncdleaaDoor
open Go.RowKit Sx
set_option linter.unusedVariables false

/-- the reference's functions that call those -/
noncomputable def fpRef2 (P : Program) (X : Fx) : List (Nat × Entry) :=
  (36, inlE P X (fpRef X) Tryd.f36) ::
  (37, inlE P X (fpRef X) Tryd.f37) ::
  (38, inlE P X (fpRef X) Tryd.f38) ::
  (25, inlE P X (fpRef X) Tryd.f25) ::
  (33, inlE P X (fpRef X) Tryd.f33) ::
  (11, headE) :: fpRef X

theorem fpRef2_ok {R : Ev} {X : Fx} (hR : R.Ok) (hX : FpTold R X) : ∀ x ∈ fpRef2 Tryd.prog X, EntryOk (fpDenS R) FpTab x.1 x.2 := by
  unfold fpRef2
  have h := fpRef_ok hR hX
  simp only [List.forall_mem_cons]
  exact ⟨inlE_ok hX h (by kernel_rfl) Tryd.func36, inlE_ok hX h (by kernel_rfl) Tryd.func37, inlE_ok hX h (by kernel_rfl) Tryd.func38, inlE_ok hX h (by kernel_rfl) Tryd.func25, inlE_ok hX h (by kernel_rfl) Tryd.func33, fpHeadE_ok R, h⟩

/-- a statement over rows of bytes and the reference, run -/
theorem fpr_law {R : Ev} {X : Fx} {f : FuncId} {fn : Func} (hf : Tryd.prog.funcs[f]? = some fn) {ins : List RV} (hR : R.Ok) (hX : FpTold R X) (hrun : runFn Tryd.prog (fpTable X (fpRef2 Tryd.prog X)) 400 fn ins = some (boolR true))
    {vs : List Value} {w : World} (ht : FpTab w) (hin : RVsIs (fpDenS R) 0 w ins vs) : Calls Tryd.prog f vs.toArray w fun e w' => e = .returned (.bool true) ∧ Below w.heap.size w w' :=
  bool_post (calls_run (fpRight hX (fpRef2_ok hR hX)) mixed hf hrun hin fun w' hb => ht.below hb)

abbrev wE (i : Nat) : E := .op 7 (.dt i) (.dt 0)
/-- an argument: a number of 64 bits -/
def nArg (i : Nat) : RV := .dt (.one (.el (.op 17 (.dt i) (.dt 0))))

theorem told_longs {R : Ev} {m : Nat} {L : List (Nat × Bool)} (h : ∀ x ∈ L, decide (m < (R.bys x.1).length) = x.2) : FpTold R { longs := L, lim := m } :=
  ⟨fun x hx => (by cases hx), h, fun x hx => (by cases hx), fun x hx => (by cases hx), fun x hx => (by cases hx), fun x hx => (by cases hx), fun x hx => (by cases hx)⟩

section
set_option maxRecDepth 100000
theorem fpWide_run0 : runFn Tryd.prog (fpTable { longs := [(0, false)], lim := 400 } (fpRef2 Tryd.prog { longs := [(0, false)], lim := 400 })) 400 Tryd.f6 [hArg 0] = some (boolR true) := by kernel_rfl
theorem fpWide_run1 : runFn Tryd.prog (fpTable { longs := [(0, true)], lim := 400 } (fpRef2 Tryd.prog { longs := [(0, true)], lim := 400 })) 400 Tryd.f6 [hArg 0] = some (boolR true) := by kernel_rfl
theorem fpReckons_run0 : runFn Tryd.prog (fpTable { longs := [(0, true)], lim := 64 } (fpRef2 Tryd.prog { longs := [(0, true)], lim := 64 })) 400 Tryd.f9 [hArg 0, hArg 1] = some (boolR true) := by kernel_rfl
theorem fpReckons_run1 : runFn Tryd.prog (fpTable { longs := [(0, false), (1, true)], lim := 64 } (fpRef2 Tryd.prog { longs := [(0, false), (1, true)], lim := 64 })) 400 Tryd.f9 [hArg 0, hArg 1] = some (boolR true) := by kernel_rfl
theorem fpReckons_run2 : runFn Tryd.prog (fpTable { longs := [(0, false), (1, false)], lim := 64 } (fpRef2 Tryd.prog { longs := [(0, false), (1, false)], lim := 64 })) 400 Tryd.f9 [hArg 0, hArg 1] = some (boolR true) := by kernel_rfl
def readsN : Fx := { nlens := [(0, 48)], small := [0] }
def readsA (z : Bool) : Fx := { lens := [(0, 48)], lts := [(.dt 0, true)], small := [0], eqs := [(wE 0, lE 0, z)] }
def readsB : Fx := { lens := [(0, 48)], lts := [(.dt 0, false)], small := [0] }
theorem fpReads_runN : runFn Tryd.prog (fpTable readsN (fpRef2 Tryd.prog readsN)) 400 Tryd.f7 [hArg 0, nArg 0] = some (boolR true) := by kernel_rfl
theorem fpReads_runB : runFn Tryd.prog (fpTable readsB (fpRef2 Tryd.prog readsB)) 400 Tryd.f7 [hArg 0, nArg 0] = some (boolR true) := by kernel_rfl
theorem fpReads_runA (z : Bool) : runFn Tryd.prog (fpTable (readsA z) (fpRef2 Tryd.prog (readsA z))) 400 Tryd.f7 [hArg 0, nArg 0] = some (boolR true) := by cases z <;> kernel_rfl
end

theorem fpWide_calls (A0 : Option Addr) (n0 c0 : Nat) (l0 : List Nat) (w : World) (ht : FpTab w)
    (hr0 : Rd w A0 (nums .u8 l0)) (hl0 : l0.length = n0) (hc0 : n0 ≤ c0) (hn0 : n0 ≤ 140737488355328) (hb0 : ∀ x ∈ l0, x < 256) (hk0 : ∀ g, blk A0 = some g → g < w.heap.size) :
    Calls Tryd.prog 6 #[.slice A0 n0 c0] w fun e w' => e = .returned (.bool true) ∧ Below w.heap.size w w' := by
  obtain ⟨inv, hinv⟩ := inv_ex
  obtain ⟨sqr_, hsqr⟩ := sqr_ex
  let R : Ev := ⟨fun _ => 0, rows [l0], inv, sqr_⟩
  have hR : R.Ok := ⟨rows_ok (by simp only [List.forall_mem_cons]; exact ⟨⟨hl0 ▸ hn0, hb0⟩, fun x hx => by cases hx⟩), hinv, hsqr⟩
  have hin : RVsIs (fpDenS R) 0 w [hArg 0] [.slice A0 n0 c0] :=
    ⟨_, _, rfl, hArg_ok (R := R) (i := 0) hr0 hl0 hc0 hk0, rfl⟩
  have go : ∀ X, FpTold R X → runFn Tryd.prog (fpTable X (fpRef2 Tryd.prog X)) 400 Tryd.f6 [hArg 0] = some (boolR true) → _ := fun X hX hrun => fpr_law Tryd.func6 hR hX hrun ht hin
  by_cases h0 : 400 < l0.length
  · exact go _ (told_longs (by intro x hx; simp at hx; subst hx; exact decide_eq_true h0)) fpWide_run1
  · exact go _ (told_longs (by intro x hx; simp at hx; subst hx; exact decide_eq_false h0)) fpWide_run0

theorem fpReckons_calls (A0 A1 : Option Addr) (n0 n1 c0 c1 : Nat) (l0 l1 : List Nat) (w : World) (ht : FpTab w)
    (hr0 : Rd w A0 (nums .u8 l0)) (hl0 : l0.length = n0) (hc0 : n0 ≤ c0) (hn0 : n0 ≤ 140737488355328) (hb0 : ∀ x ∈ l0, x < 256) (hk0 : ∀ g, blk A0 = some g → g < w.heap.size)
    (hr1 : Rd w A1 (nums .u8 l1)) (hl1 : l1.length = n1) (hc1 : n1 ≤ c1) (hn1 : n1 ≤ 140737488355328) (hb1 : ∀ x ∈ l1, x < 256) (hk1 : ∀ g, blk A1 = some g → g < w.heap.size) :
    Calls Tryd.prog 9 #[.slice A0 n0 c0, .slice A1 n1 c1] w fun e w' => e = .returned (.bool true) ∧ Below w.heap.size w w' := by
  obtain ⟨inv, hinv⟩ := inv_ex
  obtain ⟨sqr_, hsqr⟩ := sqr_ex
  let R : Ev := ⟨fun _ => 0, rows [l0, l1], inv, sqr_⟩
  have hR : R.Ok := ⟨rows_ok (by simp only [List.forall_mem_cons]; exact ⟨⟨hl0 ▸ hn0, hb0⟩, ⟨hl1 ▸ hn1, hb1⟩, fun x hx => by cases hx⟩), hinv, hsqr⟩
  have hin : RVsIs (fpDenS R) 0 w [hArg 0, hArg 1] [.slice A0 n0 c0, .slice A1 n1 c1] :=
    ⟨_, _, rfl, hArg_ok (R := R) (i := 0) hr0 hl0 hc0 hk0, _, _, rfl, hArg_ok (R := R) (i := 1) hr1 hl1 hc1 hk1, rfl⟩
  have go : ∀ X, FpTold R X → runFn Tryd.prog (fpTable X (fpRef2 Tryd.prog X)) 400 Tryd.f9 [hArg 0, hArg 1] = some (boolR true) → _ := fun X hX hrun => fpr_law Tryd.func9 hR hX hrun ht hin
  by_cases h0 : 64 < l0.length
  · exact go _ (told_longs (by intro x hx; simp at hx; subst hx; exact decide_eq_true h0)) fpReckons_run0
  by_cases h1 : 64 < l1.length
  · exact go _ (told_longs (by intro x hx; simp at hx; rcases hx with rfl | rfl; exact decide_eq_false h0; exact decide_eq_true h1)) fpReckons_run1
  exact go _ (told_longs (by intro x hx; simp at hx; rcases hx with rfl | rfl; exact decide_eq_false h0; exact decide_eq_false h1)) fpReckons_run2

theorem fpReads_calls (A0 : Option Addr) (n0 c0 : Nat) (l0 : List Nat) (w : World) (ht : FpTab w)
    (hr0 : Rd w A0 (nums .u8 l0)) (hl0 : l0.length = n0) (hc0 : n0 ≤ c0) (hn0 : n0 ≤ 140737488355328) (hb0 : ∀ x ∈ l0, x < 256) (hk0 : ∀ g, blk A0 = some g → g < w.heap.size) (y : Nat) (hy : y < 18446744073709551616) :
    Calls Tryd.prog 7 #[.slice A0 n0 c0, .int .u64 y] w fun e w' => e = .returned (.bool true) ∧ Below w.heap.size w w' := by
  obtain ⟨inv, hinv⟩ := inv_ex
  obtain ⟨sqr_, hsqr⟩ := sqr_ex
  let R : Ev := ⟨fun _ => y, rows [l0], inv, sqr_⟩
  have hR : R.Ok := ⟨rows_ok (by simp only [List.forall_mem_cons]; exact ⟨⟨hl0 ▸ hn0, hb0⟩, fun x hx => by cases hx⟩), hinv, hsqr⟩
  have hin : RVsIs (fpDenS R) 0 w [hArg 0, nArg 0] [.slice A0 n0 c0, .int .u64 y] :=
    ⟨_, _, rfl, hArg_ok (R := R) (i := 0) hr0 hl0 hc0 hk0, _, _, rfl, by
      show some [Value.int .u64 ((u64N R (.dt 0) (.dt 0) : Nat) : Int)] = some [Value.int .u64 (y : Int)]
      have e : u64N R (.dt 0) (.dt 0) = y := by unfold u64N; dsimp only; rw [Nat.pow_zero, Nat.div_one]
      rw [e], rfl⟩
  have go : ∀ X, FpTold R X → runFn Tryd.prog (fpTable X (fpRef2 Tryd.prog X)) 400 Tryd.f7 [hArg 0, nArg 0] = some (boolR true) → _ := fun X hX hrun => fpr_law Tryd.func7 hR hX hrun ht hin
  have hs : ∀ i ∈ [0], R.num i < 18446744073709551616 := fun i _ => hy
  by_cases h48 : l0.length = 48
  · have hL : ∀ x ∈ [((0 : Nat), (48 : Nat))], (R.bys x.1).length = x.2 := by intro x hx; simp at hx; subst hx; exact h48
    by_cases hq : be l0 < fpQ
    · have hz : ∃ z, decide (fpEv R (wE 0) % fpQ = fpEv R (lE 0) % fpQ) = z := ⟨_, rfl⟩
      obtain ⟨z, hz⟩ := hz
      exact go (readsA z) ⟨(by unfold FpFacts readsA; simp only [List.forall_mem_cons]; exact ⟨hz, fun x hx => by cases hx⟩), fun x hx => (by cases hx), hL, fun x hx => (by cases hx), fun x hx => (by cases hx), fun x hx => (by simp [readsA] at hx; subst hx; exact decide_eq_true hq), hs⟩ (fpReads_runA z)
    · exact go readsB ⟨fun x hx => (by cases hx), fun x hx => (by cases hx), hL, fun x hx => (by cases hx), fun x hx => (by cases hx), fun x hx => (by simp [readsB] at hx; subst hx; exact decide_eq_false hq), hs⟩ fpReads_runB
  · exact go readsN ⟨fun x hx => (by cases hx), fun x hx => (by cases hx), fun x hx => (by cases hx), fun x hx => (by simp [readsN] at hx; subst hx; exact h48), fun x hx => (by cases hx), fun x hx => (by cases hx), hs⟩ fpReads_runN

end Go.Proofs.YteeckamdncdleaaDoor
