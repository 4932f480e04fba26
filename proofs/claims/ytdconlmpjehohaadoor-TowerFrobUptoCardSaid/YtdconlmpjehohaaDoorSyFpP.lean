/- Package fp: the table with powers, for other packages; functions that are run where they are called. Conditions: those of each theorem. -/
import Derived.Test.YtdconlmpjehohaaDoorSyFpQ
namespace Go.Proofs.YtdconlmpjehohaaDoor
open Go.RowKit Sx
set_option linter.unusedVariables false

/-- a word that is known -/
def wordOf : List Atom → Option Nat
  | [.int .u32 (.ofNat n)] => match Nat.blt n 65536 with
    | true => some n
    | false => none
  | _ => none

/-- a struct's parts for the callee -/
def mixRV : List MA → Option (List MA)
  | [] => some []
  | .at_ a :: ms => match a.free, mixRV ms with
    | true, some rs => some (.at_ a :: rs)
    | _, _ => none
  | .hd e :: ms => match mixRV ms with
    | some rs => some (.hd e :: rs)
    | none => none
  | .vw xs :: ms => match wordOf xs, mixRV ms with
    | some n, some rs => some (.hd (.op 21 (.op 40 (.dt n) (.dt 0)) (.dt 0)) :: rs)
    | _, _ => none

theorem wordOf_ok {R : Ev} {σ : Env} {w : World} {xs : List Atom} {n : Nat} {v : Value} (h : wordOf xs = some n) (hv : ViewIs (fpDenS R) σ w xs v) : fpHold R (.op 21 (.op 40 (.dt n) (.dt 0)) (.dt 0)) v w := by
  unfold wordOf at h
  split at h
  · rename_i m
    split at h
    · rename_i hn
      have h := Option.some.inj h
      subst h
      have hn : m < 65536 := Nat.le_of_ble_eq_true hn
      obtain ⟨bk, o, c, l, rfl, hlc, h1, h2, h3⟩ := hv
      injection h1 with h1; subst h1
      have hmin : wMin (.op 40 (.dt m) (.dt 0)) = 0 := by
        show (match Nat.beq m fpQ with
          | true => 24
          | false => 0) = 0
        cases hb : Nat.beq m fpQ with
        | false => rfl
        | true =>
          have e := Nat.eq_of_beq_eq_true hb
          exact absurd hn (by rw [e]; decide +kernel)
      refine .inr ⟨_, _, rfl, some ⟨bk, o, none⟩, c, [m], rfl, .inr ⟨bk, o, rfl, h2, fun j hj => ?_⟩, hlc, fun g hg => (by injection hg with hg; subst hg; exact h2), fun x hx => (by simp at hx; subst hx; exact hn), (by rw [wdE_lit]; simp [le]), (by show 1 ≤ 24; omega), (by rw [hmin]; exact Nat.zero_le _)⟩
      exact h3 j hj
    · cases h
  · cases h

theorem mixRV_ok {R : Ev} {σ : Env} {w : World} : ∀ {ms rs : List MA} {l : List Value}, mixRV ms = some rs → MAsIs (fpDenS R) σ w (fun _ => True) ms l → noVw rs = true ∧ MAsIs (fpDenS R) Env.empty w (fun v => ∀ g, v.ownBlock = some g → 0 ≤ g) rs l
  | [], rs, l, h, hl => by
    have h := Option.some.inj h
    subst h
    exact ⟨rfl, hl⟩
  | .at_ a :: ms, rs, l, h, hl => by
    obtain ⟨x, y, rfl, h1, h2⟩ := hl
    simp only [mixRV] at h
    split at h
    · rename_i rs' hf hr
      have h := Option.some.inj h
      subst h
      obtain ⟨i1, i2⟩ := mixRV_ok hr h2
      exact ⟨i1, x, y, rfl, Atom.free_ok hf h1, i2⟩
    · cases h
  | .hd e :: ms, rs, l, h, hl => by
    obtain ⟨v, y, rfl, h1, _, h2⟩ := hl
    simp only [mixRV] at h
    split at h
    · rename_i rs' hr
      have h := Option.some.inj h
      subst h
      obtain ⟨i1, i2⟩ := mixRV_ok hr h2
      exact ⟨i1, v, y, rfl, h1, fun g _ => Nat.zero_le g, i2⟩
    · cases h
  | .vw xs :: ms, rs, l, h, hl => by
    obtain ⟨v, y, rfl, h1, h2⟩ := hl
    simp only [mixRV] at h
    split at h
    · rename_i n rs' hn hr
      have h := Option.some.inj h
      subst h
      obtain ⟨i1, i2⟩ := mixRV_ok hr h2
      exact ⟨i1, v, y, rfl, wordOf_ok hn h1, fun g _ => Nat.zero_le g, i2⟩
    · cases h

/-- bytes that are known -/
def bytesOf : List Atom → Option (List Nat)
  | [] => some []
  | .int .u8 (.ofNat n) :: r => match Nat.blt n 256, bytesOf r with
    | true, some l => some (n :: l)
    | _, _ => none
  | _ => none

theorem bytesOf_ok {D : Den} {σ : Env} : ∀ {xs : List Atom} {l : List Nat} {m : List Value}, bytesOf xs = some l → cellsL D σ xs = some m → m = nums .u8 l ∧ ∀ x ∈ l, x < 256
  | [], l, m, h, hm => by
    have h := Option.some.inj h
    have hm := Option.some.inj hm
    subst h hm
    exact ⟨rfl, fun x hx => by cases hx⟩
  | .int .u8 (.ofNat n) :: r, l, m, h, hm => by
    simp only [bytesOf] at h
    obtain ⟨y, z, h1, h2, rfl⟩ := cellsL_cons hm
    have h1 := Option.some.inj h1
    subst h1
    split at h
    · rename_i l' hn hl
      have h := Option.some.inj h
      subst h
      obtain ⟨i1, i2⟩ := bytesOf_ok hl h2
      refine ⟨by rw [i1]; rfl, fun x hx => ?_⟩
      rcases List.mem_cons.1 hx with e | e
      · subst e; exact Nat.le_of_ble_eq_true hn
      · exact i2 x e
    · cases h

def caRV : CArg → Option RV
  | .dt (.one a) => match a.free with
    | true => some (.dt (.one a))
    | false => none
  | .dt (.agg xs) => match freeL xs with
    | true => some (.dt (.agg xs))
    | false => none
  | .held e => some (.h e)
  | .view xs => match bytesOf xs with
    | some l => match Nat.ble l.length 96 with
      | true => some (.h (.op 20 (.op 24 (.op 40 (.dt (be l)) (.dt 0)) (.dt l.length)) (.dt 0)))
      | false => none
    | none => none
  | .mix ms => match mixRV ms with
    | some rs => some (.mix rs)
    | none => none

def casRV : List CArg → Option (List RV)
  | [] => some []
  | c :: cs => match caRV c, casRV cs with
    | some r, some rs => some (r :: rs)
    | _, _ => none

theorem caRV_ok {R : Ev} {σ : Env} {w : World} {c : CArg} {r : RV} {v : Value} (h : caRV c = some r) (hv : c.Is (fpDenS R) σ w v) : r.Is (fpDenS R) 0 w v := by
  unfold caRV at h
  split at h
  · split at h
    · rename_i hf
      injection h with h; subst h
      exact Atom.free_ok hf hv
    · cases h
  · split at h
    · rename_i hf
      injection h with h; subst h
      obtain ⟨l, h1, h2⟩ := hv
      exact ⟨l, freeL_ok hf h1, h2⟩
    · cases h
  · injection h with h; subst h
    exact ⟨hv, fun g _ => Nat.zero_le g⟩
  · rename_i xs
    split at h
    · rename_i l hl
      split at h
      · rename_i hn
        have hn := Nat.le_of_ble_eq_true hn
        injection h with h; subst h
        obtain ⟨bk, o, c, m, rfl, hlc, h1, h2, h3⟩ := hv
        obtain ⟨rfl, hb⟩ := bytesOf_ok hl h1
        have e : R.row (.op 24 (.op 40 (.dt (be l)) (.dt 0)) (.dt l.length)) = l := by
          simp only [Ev.row]
          rw [show Nat.min l.length 96 = l.length from Nat.min_eq_left hn, wdE_lit, digs_be l hb]
        have hlen : (nums .u8 l).length = l.length := nums_length _ _
        rw [hlen] at hlc ⊢
        refine ⟨.inl ⟨_, _, rfl, ⟨some ⟨bk, o, none⟩, c, by rw [e], by rw [e]; exact .inr ⟨bk, o, rfl, h2, h3⟩, by rw [e]; exact hlc, fun g hg => (by injection hg with hg; subst hg; exact h2)⟩, fun h => (by injection h with h; cases h)⟩, fun g _ => Nat.zero_le g⟩
      · cases h
    · cases h
  · split at h
    · rename_i rs hf
      injection h with h; subst h
      obtain ⟨l, h1, h2⟩ := hv
      obtain ⟨i1, i2⟩ := mixRV_ok hf h2
      exact ⟨l, h1, i1, i2⟩
    · cases h

theorem casRV_ok {R : Ev} {σ : Env} {w : World} : ∀ {cs : List CArg} {rs : List RV} {vs : List Value}, casRV cs = some rs → ArgsIs (fpDenS R) σ w cs vs → RVsIs (fpDenS R) 0 w rs vs
  | [], rs, vs, h, hv => by injection h with h; subst h; exact hv
  | c :: cs, rs, vs, h, hv => by
    unfold casRV at h
    split at h
    · rename_i r rs' h1 h2
      injection h with h; subst h
      obtain ⟨v, ws, rfl, h3, h4⟩ := hv
      exact ⟨v, ws, rfl, caRV_ok h1 h3, casRV_ok h2 h4⟩
    · cases h

/-- a function that is run where it is called -/
def inlE (P : Program) (X : Fx) (l : List (Nat × Entry)) (fn : Func) : Entry := fun cs => match casRV cs with
  | some ins => runFn P (fpTable X l) 400 fn ins
  | none => none

theorem inlE_ok {R : Ev} {X : Fx} {l : List (Nat × Entry)} {f : FuncId} {fn : Func} (hX : FpTold R X) (hl : ∀ x ∈ l, EntryOk (fpDenS R) FpTab x.1 x.2) (hg : isGo Tryd.prog f = true) (hf : Tryd.prog.funcs[f]? = some fn) :
    EntryOk (fpDenS R) FpTab f (inlE Tryd.prog X l fn) := by
  refine ⟨hg, fun cs r hr σ w vs hv hI => ?_⟩
  unfold inlE at hr
  split at hr
  · rename_i ins hc
    exact calls_run (fpRight hX hl) mixed hf hr (casRV_ok hc hv) fun w' hb => hI.below hb
  · cases hr

end Go.Proofs.YtdconlmpjehohaaDoor
