/- Package fp: powers, Inv, Sqrt, plain, Odd, Large. Conditions: those of each theorem. -/
import Derived.Test.YtdconlmpjehohaaDoorSyFpB
namespace Go.Proofs.YtdconlmpjehohaaDoor
open Go.RowKit Sx
set_option linter.unusedVariables false

theorem mixed : Tryd.prog.follows .mixedOrders = true := by kernel_rfl
theorem inv_ex : ∃ f : Nat → Nat, ∀ a, f a = a ^ fpI := ⟨fun a => a ^ fpI, fun _ => rfl⟩
theorem sqr_ex : ∃ f : Nat → Nat, ∀ a, f a = a ^ fpS := ⟨fun a => a ^ fpS, fun _ => rfl⟩

theorem fpS_val : fpV fpS = .agg #[.int .u64 17185665809301629611, .int .u64 552535377879302143, .int .u64 15693976698673184137, .int .u64 15644892545385841839, .int .u64 10576397981472451381, .int .u64 468449654411884966] := by kernel_rfl

/-- which power of the number 0 -/
def powN : E → Option Nat
  | .dt 0 => some 1
  | .op 0 (.dt 1) _ => some 0
  | .op 8 (.dt 0) (.dt n) => some n
  | _ => none

theorem powN_ok {R : Ev} {e : E} {n : Nat} (h : powN e = some n) : fpEv R e = R.num 0 ^ n := by
  unfold powN at h
  split at h
  · injection h with h; subst h; rw [Nat.pow_one]; rfl
  · injection h with h; subst h; rw [fpEv_lit, Nat.pow_zero]
  · injection h with h; subst h; rw [fpEv_pow]; rfl
  · cases h

def powMulE : Entry := fun cs => match fp2 cs with
  | some (a, b) => match powN a, powN b with
    | some n, some m => some (.one (.dt (.agg [.el (.op 8 (.dt 0) (.dt (n + m)))])))
    | _, _ => none
  | none => none

theorem powMulE_ok (R : Ev) : EntryOk (fpDenS R) FpTab 45 powMulE := by
  refine ⟨by kernel_rfl, fun cs r hr σ w vs hv hI => ?_⟩
  unfold powMulE at hr
  split at hr
  · rename_i a b hc
    split at hr
    · rename_i n m hn hm
      injection hr with hr; subst hr
      rw [fp2_ok hc hv]
      refine calls_el (e := .op 8 (.dt 0) (.dt (n + m))) rfl ?_
      rw [fpEv_pow, Nat.pow_add, show fpEv R (.dt 0) = R.num 0 from rfl, ← powN_ok hn, ← powN_ok hm]
      exact fp_mulE _ _ w hI
    · cases hr
  · cases hr

def powSquareE : Entry := fun cs => match fp1 cs with
  | some a => match powN a with
    | some n => some (.one (.dt (.agg [.el (.op 8 (.dt 0) (.dt (n + n)))])))
    | _ => none
  | none => none

theorem powSquareE_ok (R : Ev) : EntryOk (fpDenS R) FpTab 75 powSquareE := by
  refine ⟨by kernel_rfl, fun cs r hr σ w vs hv hI => ?_⟩
  unfold powSquareE at hr
  split at hr
  · rename_i a hc
    split at hr
    · rename_i n hn
      injection hr with hr; subst hr
      rw [fp1_ok hc hv]
      refine calls_el (e := .op 8 (.dt 0) (.dt (n + n))) rfl ?_
      rw [fpEv_pow, Nat.pow_add, show fpEv R (.dt 0) = R.num 0 from rfl, ← powN_ok hn]
      exact fp_square_calls _ w hI
    · cases hr
  · cases hr

def powEntries : List (Nat × Entry) := [(45, powMulE), (75, powSquareE), (22, fpOfE)]

def wordsI : List Nat := [13402431016077863593, 2210141511517208575, 7435674573564081700, 7239337960414712511, 5412103778470702295, 1873798617647539866]
def wordsS : List Nat := [17185665809301629611, 552535377879302143, 15693976698673184137, 15644892545385841839, 10576397981472451381, 468449654411884966]

section
set_option maxRecDepth 100000
theorem fpPower_runI : runFn Tryd.prog (fpTable {} powEntries) 2000 Tryd.f76 [.dt (.agg [.el (.dt 0)]), .dt (.agg (u64s wordsI))] = some (.one (.dt (.agg [.el (.op 8 (.dt 0) (.dt fpI))]))) := by kernel_rfl
theorem fpPower_runS : runFn Tryd.prog (fpTable {} powEntries) 2000 Tryd.f76 [.dt (.agg [.el (.dt 0)]), .dt (.agg (u64s wordsS))] = some (.one (.dt (.agg [.el (.op 8 (.dt 0) (.dt fpS))]))) := by kernel_rfl
end
end Go.Proofs.YtdconlmpjehohaaDoor
