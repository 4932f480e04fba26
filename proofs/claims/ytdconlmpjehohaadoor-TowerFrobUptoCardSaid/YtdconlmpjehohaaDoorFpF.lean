/- Package fr: powers; a call in a walk. Conditions: those of each theorem. -/
import Derived.Test.YtdconlmpjehohaaDoorFpE
namespace Go.Proofs.YtdconlmpjehohaaDoor
open Go.RowKit
set_option linter.unusedVariables false

/-- powers by squaring -/
def powM (b m : Nat) : Nat → Nat → Nat
  | 0, _ => 1 % m
  | f + 1, e => if e % 2 = 1 then powM b m f (e / 2) * powM b m f (e / 2) % m * b % m else powM b m f (e / 2) * powM b m f (e / 2) % m

theorem powM_eq (b m : Nat) : ∀ (f e : Nat), e < 2 ^ f → powM b m f e = b ^ e % m
  | 0, e, h => by
    have : e = 0 := by simpa using h
    subst this
    rfl
  | f + 1, e, h => by
    have h2 : e / 2 < 2 ^ f := by rw [Nat.pow_succ] at h; omega
    have ih := powM_eq b m f (e / 2) h2
    unfold powM
    rw [ih]
    have hs : b ^ (e / 2) % m * (b ^ (e / 2) % m) % m = b ^ (e / 2 + e / 2) % m := by rw [← Nat.mul_mod, ← Nat.pow_add]
    by_cases ho : e % 2 = 1
    · rw [if_pos ho, hs, Nat.mod_mul_mod, ← Nat.pow_succ, show (e / 2 + e / 2).succ = e by omega]
    · rw [if_neg ho, hs, show e / 2 + e / 2 = e by omega]

/-- what follows a call that leaves the world below as it was -/
theorem fpTab_of {w W : World} (ht : Hid (FpTab w)) (hb : Below w.heap.size w W) : FpTab W := ht.out.below hb

/-- a call that leaves the world below as it was -/
theorem calls_on {f : FuncId} {args : Array Value} {v : Value} {w W : World} {post : Ending → World → Prop}
    (H : Hid (∀ W, FpTab W → Calls Tryd.prog f args W fun e w' => e = .returned v ∧ Below W.heap.size W w')) (HT : Hid (FpTab w)) (hb : Below w.heap.size w W)
    (hK : ∀ w', Below W.heap.size W w' → Below w.heap.size w w' → post (.returned v) w') : Calls Tryd.prog f args W post := by
  refine (H.out W (fpTab_of HT hb)).mono ?_
  rintro e w' ⟨rfl, h⟩
  exact hK w' h (hb.trans (h.mono hb.size))

end Go.Proofs.YtdconlmpjehohaaDoor
