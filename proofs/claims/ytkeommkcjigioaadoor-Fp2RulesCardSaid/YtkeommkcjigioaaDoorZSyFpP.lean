/- Package fp without powers: functions that are run where they are called. Conditions: those of each theorem. -/
import Derived.Test.YtkeommkcjigioaaDoorZSyFpB
namespace Go.Proofs.YtkeommkcjigioaaDoor
open Go.RowKit Sx
set_option linter.unusedVariables false

theorem mixed : Tryd.prog.follows .mixedOrders = true := by kernel_rfl
theorem inv_ex : ∃ f : Nat → Nat, ∀ a, f a = a ^ fpI := ⟨fun a => a ^ fpI, fun _ => rfl⟩
theorem sqr_ex : ∃ f : Nat → Nat, ∀ a, f a = a ^ fpS := ⟨fun a => a ^ fpS, fun _ => rfl⟩

theorem bool_post {D : Den} {f : FuncId} {vs : List Value} {w : World} {b : Bool} (h : Calls Tryd.prog f vs.toArray w fun e w' => ∃ v, e = .returned v ∧ Below w.heap.size w w' ∧ (boolR b).Is D w.heap.size w' v) :
    Calls Tryd.prog f vs.toArray w fun e w' => e = .returned (.bool b) ∧ Below w.heap.size w w' :=
  h.mono fun e w' ⟨v, h1, h2, h3⟩ => by
    injection h3 with h3; injection h3 with h3; subst h3
    exact ⟨h1, h2⟩

/-- one number, and what powers are -/
def numR (a : Nat) (inv sqr : Nat → Nat) : Ev := ⟨fun _ => a, fun _ => [], inv, sqr⟩

theorem numR_ok {a : Nat} {inv sqr : Nat → Nat} (hi : ∀ a, inv a = a ^ fpI) (hs : ∀ a, sqr a = a ^ fpS) : (numR a inv sqr).Ok := ⟨fun _ => ⟨Nat.zero_le _, fun x hx => by cases hx⟩, hi, hs⟩

def hArg (i : Nat) : RV := .h (.op 20 (.dt i) (.dt 0))

/-- an argument: a row of bytes -/
theorem hArg_ok {R : Ev} {w : World} {A : Option Addr} {n c i : Nat} (hr : Rd w A (nums .u8 (R.bys i))) (hl : (R.bys i).length = n) (hc : n ≤ c) (hlt : ∀ g, blk A = some g → g < w.heap.size) : (hArg i).Is (fpDenS R) 0 w (.slice A n c) := by
  subst hl
  exact ⟨.inl ⟨.dt i, .dt 0, rfl, A, c, rfl, hr, hc, hlt⟩, fun g _ => Nat.zero_le g⟩

def rows (ls : List (List Nat)) (i : Nat) : List Nat := ls.getD i []

theorem rows_ok {ls : List (List Nat)} (h : ∀ l ∈ ls, l.length ≤ 140737488355328 ∧ ∀ x ∈ l, x < 256) (i : Nat) : (rows ls i).length ≤ 140737488355328 ∧ ∀ x ∈ rows ls i, x < 256 := by
  unfold rows
  by_cases hi : i < ls.length
  · have : ls.getD i [] = ls[i] := by simp [List.getD, hi]
    rw [this]
    exact h _ (List.getElem_mem _)
  · have : ls.getD i [] = [] := by simp [List.getD, List.getElem?_eq_none (Nat.le_of_not_lt hi)]
    rw [this]
    exact ⟨Nat.zero_le _, fun x hx => by cases hx⟩

abbrev lE (n : Nat) : E := .op 0 (.dt n) (.dt 0)
abbrev nE (a : E) : E := .op 4 a (.dt 0)
abbrev sE (a : E) : E := .op 6 a (.dt 0)

def caRV : CArg → Option RV
  | .dt (.one a) => match a.free with
    | true => some (.dt (.one a))
    | false => none
  | .dt (.agg xs) => match freeL xs with
    | true => some (.dt (.agg xs))
    | false => none
  | .held e => some (.h e)
  | .view _ => none

def casRV : List CArg → Option (List RV)
  | [] => some []
  | c :: cs => match caRV c, casRV cs with
    | some r, some rs => some (r :: rs)
    | _, _ => none

theorem caRV_ok {D : Den} {σ : Env} {w : World} {c : CArg} {r : RV} {v : Value} (h : caRV c = some r) (hv : c.Is D σ w v) : r.Is D 0 w v := by
  unfold caRV at h
  split at h
  · split at h
    · rename_i hf
      injection h with h; subst h
      exact Atom.free_ok hf hv
    · cases h
  · split at h
    · rename_i hf
      injection h with h; subst h
      obtain ⟨l, h1, h2⟩ := hv
      exact ⟨l, freeL_ok hf h1, h2⟩
    · cases h
  · injection h with h; subst h
    exact ⟨hv, fun g _ => Nat.zero_le g⟩
  · cases h

theorem casRV_ok {D : Den} {σ : Env} {w : World} : ∀ {cs : List CArg} {rs : List RV} {vs : List Value}, casRV cs = some rs → ArgsIs D σ w cs vs → RVsIs D 0 w rs vs
  | [], rs, vs, h, hv => by injection h with h; subst h; exact hv
  | c :: cs, rs, vs, h, hv => by
    unfold casRV at h
    split at h
    · rename_i r rs' h1 h2
      injection h with h; subst h
      obtain ⟨v, ws, rfl, h3, h4⟩ := hv
      exact ⟨v, ws, rfl, caRV_ok h1 h3, casRV_ok h2 h4⟩
    · cases h

/-- a function that is run where it is called -/
def inlE (P : Program) (X : Fx) (l : List (Nat × Entry)) (fn : Func) : Entry := fun cs => match casRV cs with
  | some ins => runFn P (fpTable X l) 400 fn ins
  | none => none

theorem inlE_ok {R : Ev} {X : Fx} {l : List (Nat × Entry)} {f : FuncId} {fn : Func} (hX : FpTold R X) (hl : ∀ x ∈ l, EntryOk (fpDenS R) FpTab x.1 x.2) (hg : isGo Tryd.prog f = true) (hf : Tryd.prog.funcs[f]? = some fn) :
    EntryOk (fpDenS R) FpTab f (inlE Tryd.prog X l fn) := by
  refine ⟨hg, fun cs r hr σ w vs hv hI => ?_⟩
  unfold inlE at hr
  split at hr
  · rename_i ins hc
    exact calls_run (fpRight hX hl) mixed hf hr (casRV_ok hc hv) fun w' hb => hI.below hb
  · cases hr

end Go.Proofs.YtkeommkcjigioaaDoor
