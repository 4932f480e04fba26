/- Package fr: the walk of FrRules. Conditions: those of each theorem. -/
import Derived.Test.YtpinopjnlcbipaaDoorSyFrB
namespace Go.Proofs.YtpinopjnlcbipaaDoor
open Go.RowKit Sx
set_option linter.unusedVariables false

theorem mixed : Tryd.prog.follows .mixedOrders = true := by kernel_rfl

def hArg (i : Nat) : RV := .h (.op 20 (.dt i) (.dt 0))

/-- an argument: a row of bytes -/
theorem hArg_ok {R : Ev} {w : World} {A : Option Addr} {n c i : Nat} (hr : Rd w A (nums .u8 (R.bys i))) (hl : (R.bys i).length = n) (hc : n ≤ c) (hlt : ∀ g, blk A = some g → g < w.heap.size) : (hArg i).Is (frDenS R) 0 w (.slice A n c) := by
  subst hl
  exact ⟨⟨.dt i, .dt 0, rfl, A, c, rfl, hr, hc, hlt⟩, fun g _ => Nat.zero_le g⟩

theorem bool_post {D : Den} {f : FuncId} {vs : List Value} {w : World} {b : Bool} (h : Calls Tryd.prog f vs.toArray w fun e w' => ∃ v, e = .returned v ∧ Below w.heap.size w w' ∧ (boolR b).Is D w.heap.size w' v) :
    Calls Tryd.prog f vs.toArray w fun e w' => e = .returned (.bool b) ∧ Below w.heap.size w w' :=
  h.mono fun e w' ⟨v, h1, h2, h3⟩ => by
    injection h3 with h3; injection h3 with h3; subst h3
    exact ⟨h1, h2⟩

theorem inv_ex : ∃ f : Nat → Nat, ∀ a, f a = a ^ frI := ⟨fun a => a ^ frI, fun _ => rfl⟩

def rows (ls : List (List Nat)) (i : Nat) : List Nat := ls.getD i []

theorem rows_ok {ls : List (List Nat)} (h : ∀ l ∈ ls, l.length ≤ 140737488355328 ∧ ∀ x ∈ l, x < 256) (i : Nat) : (rows ls i).length ≤ 140737488355328 ∧ ∀ x ∈ rows ls i, x < 256 := by
  unfold rows
  by_cases hi : i < ls.length
  · have : ls.getD i [] = ls[i] := by simp [List.getD, hi]
    rw [this]
    exact h _ (List.getElem_mem _)
  · have : ls.getD i [] = [] := by simp [List.getD, List.getElem?_eq_none (Nat.le_of_not_lt hi)]
    rw [this]
    exact ⟨Nat.zero_le _, fun x hx => by cases hx⟩

section
set_option maxRecDepth 100000
theorem frRules_run0 : runFn Tryd.prog (frTable [] [(0, false), (1, false), (2, false)] (frEntries [])) 200 Tryd.f6 [hArg 0, hArg 1, hArg 2] = some (boolR true) := by kernel_rfl
theorem frRules_run1 : runFn Tryd.prog (frTable [] [(0, true)] (frEntries [])) 200 Tryd.f6 [hArg 0, hArg 1, hArg 2] = some (boolR true) := by kernel_rfl
theorem frRules_run2 : runFn Tryd.prog (frTable [] [(0, false), (1, true)] (frEntries [])) 200 Tryd.f6 [hArg 0, hArg 1, hArg 2] = some (boolR true) := by kernel_rfl
theorem frRules_run3 : runFn Tryd.prog (frTable [] [(0, false), (1, false), (2, true)] (frEntries [])) 200 Tryd.f6 [hArg 0, hArg 1, hArg 2] = some (boolR true) := by kernel_rfl
end

theorem facts_nil (R : Ev) : FrFacts R [] := fun x hx => by cases hx

theorem frRules_calls (A0 A1 A2 : Option Addr) (n0 n1 n2 c0 c1 c2 : Nat) (l0 l1 l2 : List Nat) (w : World) (ht : FrTab w)
    (hr0 : Rd w A0 (nums .u8 l0)) (hl0 : l0.length = n0) (hc0 : n0 ≤ c0) (hn0 : n0 ≤ 140737488355328) (hb0 : ∀ x ∈ l0, x < 256) (hk0 : ∀ g, blk A0 = some g → g < w.heap.size)
    (hr1 : Rd w A1 (nums .u8 l1)) (hl1 : l1.length = n1) (hc1 : n1 ≤ c1) (hn1 : n1 ≤ 140737488355328) (hb1 : ∀ x ∈ l1, x < 256) (hk1 : ∀ g, blk A1 = some g → g < w.heap.size)
    (hr2 : Rd w A2 (nums .u8 l2)) (hl2 : l2.length = n2) (hc2 : n2 ≤ c2) (hn2 : n2 ≤ 140737488355328) (hb2 : ∀ x ∈ l2, x < 256) (hk2 : ∀ g, blk A2 = some g → g < w.heap.size) :
    Calls Tryd.prog 6 #[.slice A0 n0 c0, .slice A1 n1 c1, .slice A2 n2 c2] w fun e w' => e = .returned (.bool true) ∧ Below w.heap.size w w' := by
  obtain ⟨inv, hinv⟩ := inv_ex
  let R : Ev := ⟨fun _ => 0, rows [l0, l1, l2], inv⟩
  have hR : R.Ok := ⟨rows_ok (by simp only [List.forall_mem_cons]; exact ⟨⟨hl0 ▸ hn0, hb0⟩, ⟨hl1 ▸ hn1, hb1⟩, ⟨hl2 ▸ hn2, hb2⟩, fun x hx => by cases hx⟩), hinv⟩
  have hin : RVsIs (frDenS R) 0 w [hArg 0, hArg 1, hArg 2] [.slice A0 n0 c0, .slice A1 n1 c1, .slice A2 n2 c2] :=
    ⟨_, _, rfl, hArg_ok (R := R) (i := 0) hr0 hl0 hc0 hk0, _, _, rfl, hArg_ok (R := R) (i := 1) hr1 hl1 hc1 hk1, _, _, rfl, hArg_ok (R := R) (i := 2) hr2 hl2 hc2 hk2, rfl⟩
  have go : ∀ L, FrLongs R L → runFn Tryd.prog (frTable [] L (frEntries [])) 200 Tryd.f6 [hArg 0, hArg 1, hArg 2] = some (boolR true) → _ := fun L hL hrun =>
    bool_post (calls_run (frRight hR (facts_nil R) hL (frEntries_ok hR (facts_nil R))) mixed Tryd.func6 hrun hin fun w' hb => ht.below hb)
  by_cases h0 : 400 < l0.length
  · exact go _ (by intro x hx; simp at hx; subst hx; exact decide_eq_true h0) frRules_run1
  by_cases h1 : 400 < l1.length
  · exact go _ (by intro x hx; simp at hx; rcases hx with rfl | rfl; exact decide_eq_false h0; exact decide_eq_true h1) frRules_run2
  by_cases h2 : 400 < l2.length
  · exact go _ (by intro x hx; simp at hx; rcases hx with rfl | rfl | rfl; exact decide_eq_false h0; exact decide_eq_false h1; exact decide_eq_true h2) frRules_run3
  exact go _ (by intro x hx; simp at hx; rcases hx with rfl | rfl | rfl; exact decide_eq_false h0; exact decide_eq_false h1; exact decide_eq_false h2) frRules_run0

end Go.Proofs.YtpinopjnlcbipaaDoor
