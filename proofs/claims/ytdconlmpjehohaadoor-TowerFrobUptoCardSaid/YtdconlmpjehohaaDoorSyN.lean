/- Numbers that are known: what an operator answers. Conditions: those of each theorem. -/
import Derived.Test.YtdconlmpjehohaaDoorSyQ
namespace Go.Proofs.YtdconlmpjehohaaDoor.Sx
open Go.RowKit
set_option linter.unusedVariables false

def kn : IntKind → Nat
  | .i8 => 0 | .i16 => 1 | .i32 => 2 | .i64 => 3 | .u8 => 4 | .u16 => 5 | .u32 => 6 | .u64 => 7

theorem kn_inj {a b : IntKind} (h : Nat.beq (kn a) (kn b) = true) : a = b := by
  cases a <;> cases b <;> first | rfl | cases h

/-- an operator on two numbers -/
def numO (op : BinOp) (k : IntKind) (a : Int) (k' : IntKind) (b : Int) : Option V := match op with
  | .shl => match b with
    | .ofNat n => some (.one (.int k (k.wrap (a * 2 ^ (min n k.bits)))))
    | _ => none
  | .shr => match b with
    | .ofNat n => some (.one (.int k (a.fdiv (2 ^ (min n k.bits)))))
    | _ => none
  | op => match Nat.beq (kn k) (kn k') with
    | false => none
    | true => match op with
      | .add => some (.one (.int k (k.wrap (a + b))))
      | .sub => some (.one (.int k (k.wrap (a - b))))
      | .mul => some (.one (.int k (k.wrap (a * b))))
      | .quo => match b with
        | .ofNat (m + 1) => some (.one (.int k (k.wrap (a.tdiv (.ofNat (m + 1))))))
        | _ => none
      | .rem => match b with
        | .ofNat (m + 1) => some (.one (.int k (a.tmod (.ofNat (m + 1)))))
        | _ => none
      | .and => some (.one (.int k (k.wrap (BitVec.ofInt k.bits a &&& BitVec.ofInt k.bits b).toNat)))
      | .or => some (.one (.int k (k.wrap (BitVec.ofInt k.bits a ||| BitVec.ofInt k.bits b).toNat)))
      | .xor => some (.one (.int k (k.wrap (BitVec.ofInt k.bits a ^^^ BitVec.ofInt k.bits b).toNat)))
      | .eql => some (.one (.bool (eqbI a b)))
      | .neq => some (.one (.bool (!eqbI a b)))
      | .lss => some (.one (.bool (decide (a < b))))
      | .leq => some (.one (.bool (decide (a ≤ b))))
      | .gtr => some (.one (.bool (decide (a > b))))
      | .geq => some (.one (.bool (decide (a ≥ b))))
      | _ => none

theorem eqbI_beq (a b : Int) : eqbI a b = (a == b) := by
  cases h : eqbI a b with
  | true => rw [eqbI_eq h]; simp
  | false =>
    have : a ≠ b := by
      intro e
      subst e
      cases a <;> simp [eqbI] at h
    simp [this]

theorem guard_int {P : Program} (op : BinOp) (ty : TypeId) (X Y : Operand) (k k' : IntKind) (a b : Int) (w : World) : (eqGuard op ty X Y (.int k a) (.int k' b)).run P w = .ok () w := by
  cases op <;> rfl

theorem bin_int (op : BinOp) (ty : TypeId) (k : IntKind) (a b : Int) (h1 : op ≠ .shl) (h2 : op ≠ .shr) : binOp op ty (.int k a) (.int k b) = (match op with
    | .add | .sub | .mul => Op.intArith op k a b
    | .quo | .rem => Op.intDiv op k a b
    | .and | .or | .xor | .andNot => Op.intBits op k a b
    | _ => Op.intCmp op a b) := by
  cases op <;> first | exact absurd rfl h1 | exact absurd rfl h2 | simp [binOp]

theorem numO_ok {P : Program} {op : BinOp} {k k' : IntKind} {a b : Int} {r : V} (h : numO op k a k' b = some r) (ty : TypeId) (X Y : Operand) (D : Den) (σ : Env) (w : World) :
    ∃ v, (do eqGuard op ty X Y (.int k a) (.int k' b); binOp op ty (.int k a) (.int k' b) : Sem Value).run P w = .ok v w ∧ r.Is D σ v := by
  simp only [Sem.run_bind, guard_int, Result.andThen_ok]
  by_cases h1 : op = .shl
  · subst h1
    cases b with
    | ofNat n =>
      injection h with h; subst h
      refine ⟨_, ?_, rfl⟩
      show (Op.shift .shl k a k' (n : Int)).run P w = _
      unfold Op.shift
      rw [if_neg (by omega)]
      rfl
    | negSucc n => cases h
  by_cases h2 : op = .shr
  · subst h2
    cases b with
    | ofNat n =>
      injection h with h; subst h
      refine ⟨_, ?_, rfl⟩
      show (Op.shift .shr k a k' (n : Int)).run P w = _
      unfold Op.shift
      rw [if_neg (by omega)]
      rfl
    | negSucc n => cases h
  unfold numO at h
  split at h
  · exact absurd rfl h1
  · exact absurd rfl h2
  · cases hk : Nat.beq (kn k) (kn k') with
    | false => rw [hk] at h; cases h
    | true =>
      rw [hk] at h
      have e := kn_inj hk
      subst e
      rw [bin_int op ty k a b h1 h2]
      dsimp only at h
      split at h
      · injection h with h; subst h; exact ⟨_, rfl, rfl⟩
      · injection h with h; subst h; exact ⟨_, rfl, rfl⟩
      · injection h with h; subst h; exact ⟨_, rfl, rfl⟩
      · split at h
        · rename_i m
          injection h with h; subst h
          refine ⟨_, ?_, rfl⟩
          show (Op.intDiv .quo k a (Int.ofNat (m + 1))).run P w = _
          unfold Op.intDiv
          rw [if_neg (by simp; omega)]
          rfl
        · cases h
      · split at h
        · rename_i m
          injection h with h; subst h
          refine ⟨_, ?_, rfl⟩
          show (Op.intDiv .rem k a (Int.ofNat (m + 1))).run P w = _
          unfold Op.intDiv
          rw [if_neg (by simp; omega)]
          rfl
        · cases h
      · injection h with h; subst h; exact ⟨_, rfl, rfl⟩
      · injection h with h; subst h; exact ⟨_, rfl, rfl⟩
      · injection h with h; subst h; exact ⟨_, rfl, rfl⟩
      · injection h with h; subst h; rw [eqbI_beq]; exact ⟨_, rfl, rfl⟩
      · injection h with h; subst h; rw [eqbI_beq]; exact ⟨_, rfl, rfl⟩
      · injection h with h; subst h; exact ⟨_, rfl, rfl⟩
      · injection h with h; subst h; exact ⟨_, rfl, rfl⟩
      · injection h with h; subst h; exact ⟨_, rfl, rfl⟩
      · injection h with h; subst h; exact ⟨_, rfl, rfl⟩
      · cases h

end Go.Proofs.YtdconlmpjehohaaDoor.Sx
