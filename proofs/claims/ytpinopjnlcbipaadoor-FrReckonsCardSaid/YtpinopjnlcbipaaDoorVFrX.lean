/- Package fr against the reference: the walks of FrWide, FrReads, FrReckons. Conditions: those of each theorem. -/
import Derived.Test.YtpinopjnlcbipaaDoorVFrW
namespace Go.Proofs.YtpinopjnlcbipaaDoor.V
open Go.RowKit Sx
set_option linter.unusedVariables false

def headE : Entry
  | [] => some (boolR true)
  | _ => none

theorem frHeadE_ok (R : Ev) : EntryOk (frDenS R) FrTab 10 headE := by
  refine ⟨by kernel_rfl, fun cs r hr σ w vs hv hI => ?_⟩
  unfold headE at hr
  split at hr
  · injection hr with hr; subst hr
    have hv : vs = [] := hv
    subst hv
    exact calls_bool (fr_head_calls w hI)
  · cases hr

/-- the reference's functions that call those -/
noncomputable def frRef2 (P : Program) (X : Fx) : List (Nat × Entry) :=
  (30, inlE P X (frRef X) Tryd.f30) ::
  (31, inlE P X (frRef X) Tryd.f31) ::
  (32, inlE P X (frRef X) Tryd.f32) ::
  (18, inlE P X (frRef X) Tryd.f18) ::
  (29, inlE P X (frRef X) Tryd.f29) ::
  (10, headE) :: frRef X

theorem frRef2_ok {R : Ev} {X : Fx} (hR : R.Ok) (hX : FrTold R X) : ∀ x ∈ frRef2 Tryd.prog X, EntryOk (frDenS R) FrTab x.1 x.2 := by
  unfold frRef2
  have h := frRef_ok hR hX
  simp only [List.forall_mem_cons]
  exact ⟨inlE_ok hX h (by kernel_rfl) Tryd.func30, inlE_ok hX h (by kernel_rfl) Tryd.func31, inlE_ok hX h (by kernel_rfl) Tryd.func32, inlE_ok hX h (by kernel_rfl) Tryd.func18, inlE_ok hX h (by kernel_rfl) Tryd.func29, frHeadE_ok R, h⟩

/-- a statement over rows of bytes and the reference, run -/
theorem fpr_law {R : Ev} {X : Fx} {f : FuncId} {fn : Func} (hf : Tryd.prog.funcs[f]? = some fn) {ins : List RV} (hR : R.Ok) (hX : FrTold R X) (hrun : runFn Tryd.prog (frTable X (frRef2 Tryd.prog X)) 400 fn ins = some (boolR true))
    {vs : List Value} {w : World} (ht : FrTab w) (hin : RVsIs (frDenS R) 0 w ins vs) : Calls Tryd.prog f vs.toArray w fun e w' => e = .returned (.bool true) ∧ Below w.heap.size w w' :=
  bool_post (calls_run (frRight hX (frRef2_ok hR hX)) mixed hf hrun hin fun w' hb => ht.below hb)

abbrev wE (i : Nat) : E := .op 7 (.dt i) (.dt 0)
/-- an argument: a number of 64 bits -/
def nArg (i : Nat) : RV := .dt (.one (.el (.op 17 (.dt i) (.dt 0))))

theorem told_longs {R : Ev} {m : Nat} {L : List (Nat × Bool)} (h : ∀ x ∈ L, decide (m < (R.bys x.1).length) = x.2) : FrTold R { longs := L, lim := m } :=
  ⟨fun x hx => (by cases hx), h, fun x hx => (by cases hx), fun x hx => (by cases hx), fun x hx => (by cases hx), fun x hx => (by cases hx), fun x hx => (by cases hx)⟩

section
set_option maxRecDepth 100000
theorem frWide_run0 : runFn Tryd.prog (frTable { longs := [(0, false)], lim := 400 } (frRef2 Tryd.prog { longs := [(0, false)], lim := 400 })) 400 Tryd.f4 [hArg 0] = some (boolR true) := by kernel_rfl
theorem frWide_run1 : runFn Tryd.prog (frTable { longs := [(0, true)], lim := 400 } (frRef2 Tryd.prog { longs := [(0, true)], lim := 400 })) 400 Tryd.f4 [hArg 0] = some (boolR true) := by kernel_rfl
theorem frReckons_run0 : runFn Tryd.prog (frTable { longs := [(0, true)], lim := 64 } (frRef2 Tryd.prog { longs := [(0, true)], lim := 64 })) 400 Tryd.f8 [hArg 0, hArg 1] = some (boolR true) := by kernel_rfl
theorem frReckons_run1 : runFn Tryd.prog (frTable { longs := [(0, false), (1, true)], lim := 64 } (frRef2 Tryd.prog { longs := [(0, false), (1, true)], lim := 64 })) 400 Tryd.f8 [hArg 0, hArg 1] = some (boolR true) := by kernel_rfl
theorem frReckons_run2 : runFn Tryd.prog (frTable { longs := [(0, false), (1, false)], lim := 64 } (frRef2 Tryd.prog { longs := [(0, false), (1, false)], lim := 64 })) 400 Tryd.f8 [hArg 0, hArg 1] = some (boolR true) := by kernel_rfl
def readsN : Fx := { nlens := [(0, 32)], small := [0] }
def readsA (z : Bool) : Fx := { lens := [(0, 32)], lts := [(.dt 0, true)], small := [0], eqs := [(wE 0, lE 0, z)] }
def readsB : Fx := { lens := [(0, 32)], lts := [(.dt 0, false)], small := [0] }
theorem frReads_runN : runFn Tryd.prog (frTable readsN (frRef2 Tryd.prog readsN)) 400 Tryd.f7 [hArg 0, nArg 0] = some (boolR true) := by kernel_rfl
theorem frReads_runB : runFn Tryd.prog (frTable readsB (frRef2 Tryd.prog readsB)) 400 Tryd.f7 [hArg 0, nArg 0] = some (boolR true) := by kernel_rfl
theorem frReads_runA (z : Bool) : runFn Tryd.prog (frTable (readsA z) (frRef2 Tryd.prog (readsA z))) 400 Tryd.f7 [hArg 0, nArg 0] = some (boolR true) := by cases z <;> kernel_rfl
end

theorem frWide_calls (A0 : Option Addr) (n0 c0 : Nat) (l0 : List Nat) (w : World) (ht : FrTab w)
    (hr0 : Rd w A0 (nums .u8 l0)) (hl0 : l0.length = n0) (hc0 : n0 ≤ c0) (hn0 : n0 ≤ 140737488355328) (hb0 : ∀ x ∈ l0, x < 256) (hk0 : ∀ g, blk A0 = some g → g < w.heap.size) :
    Calls Tryd.prog 4 #[.slice A0 n0 c0] w fun e w' => e = .returned (.bool true) ∧ Below w.heap.size w w' := by
  obtain ⟨inv, hinv⟩ := inv_ex
  obtain ⟨sqr_, hsqr⟩ := sqr_ex
  let R : Ev := ⟨fun _ => 0, rows [l0], inv, sqr_⟩
  have hR : R.Ok := ⟨rows_ok (by simp only [List.forall_mem_cons]; exact ⟨⟨hl0 ▸ hn0, hb0⟩, fun x hx => by cases hx⟩), hinv, hsqr⟩
  have hin : RVsIs (frDenS R) 0 w [hArg 0] [.slice A0 n0 c0] :=
    ⟨_, _, rfl, hArg_ok (R := R) (i := 0) hr0 hl0 hc0 hk0, rfl⟩
  have go : ∀ X, FrTold R X → runFn Tryd.prog (frTable X (frRef2 Tryd.prog X)) 400 Tryd.f4 [hArg 0] = some (boolR true) → _ := fun X hX hrun => fpr_law Tryd.func4 hR hX hrun ht hin
  by_cases h0 : 400 < l0.length
  · exact go _ (told_longs (by intro x hx; simp at hx; subst hx; exact decide_eq_true h0)) frWide_run1
  · exact go _ (told_longs (by intro x hx; simp at hx; subst hx; exact decide_eq_false h0)) frWide_run0

theorem frReckons_calls (A0 A1 : Option Addr) (n0 n1 c0 c1 : Nat) (l0 l1 : List Nat) (w : World) (ht : FrTab w)
    (hr0 : Rd w A0 (nums .u8 l0)) (hl0 : l0.length = n0) (hc0 : n0 ≤ c0) (hn0 : n0 ≤ 140737488355328) (hb0 : ∀ x ∈ l0, x < 256) (hk0 : ∀ g, blk A0 = some g → g < w.heap.size)
    (hr1 : Rd w A1 (nums .u8 l1)) (hl1 : l1.length = n1) (hc1 : n1 ≤ c1) (hn1 : n1 ≤ 140737488355328) (hb1 : ∀ x ∈ l1, x < 256) (hk1 : ∀ g, blk A1 = some g → g < w.heap.size) :
    Calls Tryd.prog 8 #[.slice A0 n0 c0, .slice A1 n1 c1] w fun e w' => e = .returned (.bool true) ∧ Below w.heap.size w w' := by
  obtain ⟨inv, hinv⟩ := inv_ex
  obtain ⟨sqr_, hsqr⟩ := sqr_ex
  let R : Ev := ⟨fun _ => 0, rows [l0, l1], inv, sqr_⟩
  have hR : R.Ok := ⟨rows_ok (by simp only [List.forall_mem_cons]; exact ⟨⟨hl0 ▸ hn0, hb0⟩, ⟨hl1 ▸ hn1, hb1⟩, fun x hx => by cases hx⟩), hinv, hsqr⟩
  have hin : RVsIs (frDenS R) 0 w [hArg 0, hArg 1] [.slice A0 n0 c0, .slice A1 n1 c1] :=
    ⟨_, _, rfl, hArg_ok (R := R) (i := 0) hr0 hl0 hc0 hk0, _, _, rfl, hArg_ok (R := R) (i := 1) hr1 hl1 hc1 hk1, rfl⟩
  have go : ∀ X, FrTold R X → runFn Tryd.prog (frTable X (frRef2 Tryd.prog X)) 400 Tryd.f8 [hArg 0, hArg 1] = some (boolR true) → _ := fun X hX hrun => fpr_law Tryd.func8 hR hX hrun ht hin
  by_cases h0 : 64 < l0.length
  · exact go _ (told_longs (by intro x hx; simp at hx; subst hx; exact decide_eq_true h0)) frReckons_run0
  by_cases h1 : 64 < l1.length
  · exact go _ (told_longs (by intro x hx; simp at hx; rcases hx with rfl | rfl; exact decide_eq_false h0; exact decide_eq_true h1)) frReckons_run1
  exact go _ (told_longs (by intro x hx; simp at hx; rcases hx with rfl | rfl; exact decide_eq_false h0; exact decide_eq_false h1)) frReckons_run2

theorem frReads_calls (A0 : Option Addr) (n0 c0 : Nat) (l0 : List Nat) (w : World) (ht : FrTab w)
    (hr0 : Rd w A0 (nums .u8 l0)) (hl0 : l0.length = n0) (hc0 : n0 ≤ c0) (hn0 : n0 ≤ 140737488355328) (hb0 : ∀ x ∈ l0, x < 256) (hk0 : ∀ g, blk A0 = some g → g < w.heap.size) (y : Nat) (hy : y < 18446744073709551616) :
    Calls Tryd.prog 7 #[.slice A0 n0 c0, .int .u64 y] w fun e w' => e = .returned (.bool true) ∧ Below w.heap.size w w' := by
  obtain ⟨inv, hinv⟩ := inv_ex
  obtain ⟨sqr_, hsqr⟩ := sqr_ex
  let R : Ev := ⟨fun _ => y, rows [l0], inv, sqr_⟩
  have hR : R.Ok := ⟨rows_ok (by simp only [List.forall_mem_cons]; exact ⟨⟨hl0 ▸ hn0, hb0⟩, fun x hx => by cases hx⟩), hinv, hsqr⟩
  have hin : RVsIs (frDenS R) 0 w [hArg 0, nArg 0] [.slice A0 n0 c0, .int .u64 y] :=
    ⟨_, _, rfl, hArg_ok (R := R) (i := 0) hr0 hl0 hc0 hk0, _, _, rfl, by
      show some [Value.int .u64 ((u64N R (.dt 0) (.dt 0) : Nat) : Int)] = some [Value.int .u64 (y : Int)]
      have e : u64N R (.dt 0) (.dt 0) = y := by unfold u64N; dsimp only; rw [Nat.pow_zero, Nat.div_one]
      rw [e], rfl⟩
  have go : ∀ X, FrTold R X → runFn Tryd.prog (frTable X (frRef2 Tryd.prog X)) 400 Tryd.f7 [hArg 0, nArg 0] = some (boolR true) → _ := fun X hX hrun => fpr_law Tryd.func7 hR hX hrun ht hin
  have hs : ∀ i ∈ [0], R.num i < 18446744073709551616 := fun i _ => hy
  by_cases h48 : l0.length = 32
  · have hL : ∀ x ∈ [((0 : Nat), (32 : Nat))], (R.bys x.1).length = x.2 := by intro x hx; simp at hx; subst hx; exact h48
    by_cases hq : be l0 < frQ
    · have hz : ∃ z, decide (frEv R (wE 0) % frQ = frEv R (lE 0) % frQ) = z := ⟨_, rfl⟩
      obtain ⟨z, hz⟩ := hz
      exact go (readsA z) ⟨(by unfold FrFacts readsA; simp only [List.forall_mem_cons]; exact ⟨hz, fun x hx => by cases hx⟩), fun x hx => (by cases hx), hL, fun x hx => (by cases hx), fun x hx => (by cases hx), fun x hx => (by simp [readsA] at hx; subst hx; exact decide_eq_true hq), hs⟩ (frReads_runA z)
    · exact go readsB ⟨fun x hx => (by cases hx), fun x hx => (by cases hx), hL, fun x hx => (by cases hx), fun x hx => (by cases hx), fun x hx => (by simp [readsB] at hx; subst hx; exact decide_eq_false hq), hs⟩ frReads_runB
  · exact go readsN ⟨fun x hx => (by cases hx), fun x hx => (by cases hx), fun x hx => (by cases hx), fun x hx => (by simp [readsN] at hx; subst hx; exact h48), fun x hx => (by cases hx), fun x hx => (by cases hx), hs⟩ frReads_runN

end Go.Proofs.YtpinopjnlcbipaaDoor.V
