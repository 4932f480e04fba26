/- The walks of wire.Check: which messages are right. Conditions: those of each theorem. -/
import Derived.Test.YtkdimoijfkikoaaGpwire
namespace Go.Proofs.Ytkdimoijfkikoaa
open Go.RowKit
set_option linter.unusedVariables false

/-- which messages are right -/
def MsgOk (k ep fr wh tp rd : Int) (n : Nat) : Prop :=
  0 ≤ ep ∧ ep ≤ 1048576 ∧ 1 ≤ fr ∧ fr ≤ 9 ∧
    ((1 ≤ k ∧ k ≤ 3 ∧ 1 ≤ wh ∧ wh ≤ 9 ∧ 1 ≤ tp ∧ tp ≤ 3 ∧ rd = 0 ∧ 1 ≤ n ∧ n ≤ 4096 ∧ (k ≠ 1 ∨ wh = fr)) ∨
     (wh = 0 ∧ tp = 0 ∧ ((4 ≤ k ∧ k ≤ 5 ∧ rd = 0 ∧ n = 32) ∨
       (1 ≤ rd ∧ rd ≤ 1099511627776 ∧ (k = 6 ∧ n = 96 ∨ k = 7 ∧ n = 0 ∨ k = 8 ∧ 96 ≤ n ∧ n ≤ 768 ∧ n % 96 = 0)))))

instance (k ep fr wh tp rd : Int) (n : Nat) : Decidable (MsgOk k ep fr wh tp rd n) := by unfold MsgOk; infer_instance

/-- the message as a value -/
def msgV (k ep fr wh tp rd : Int) (A : Option Addr) (n c : Nat) : Value := .agg #[.int .i64 k, .int .i64 ep, .int .i64 fr, .int .i64 wh, .int .i64 tp, .int .i64 rd, .slice A n c]

set_option maxHeartbeats 4000000 in
set_option maxRecDepth 100000 in
theorem check_yes (k ep fr wh tp rd : Int) (A : Option Addr) (n c : Nat) (w : World) (h : MsgOk k ep fr wh tp rd n) :
    Calls Try.prog 10 #[.agg #[.int .i64 k, .int .i64 ep, .int .i64 fr, .int .i64 wh, .int .i64 tp, .int .i64 rd, .slice A n c]] w fun e w' => e = .returned (.int .i64 0) ∧ Below w.heap.size w w' := by
  obtain ⟨h1, h2, h3, h4, h⟩ := h
  rcases h with ⟨a1, a2, a3, a4, a5, a6, rfl, a8, a9, a10⟩ | ⟨rfl, rfl, h⟩
  · have hk : k = 1 ∨ k = 2 ∨ k = 3 := by omega
    rcases hk with rfl | rfl | rfl
    · obtain rfl : wh = fr := by omega
      clear a10
      have b1 : (1 : Int) ≤ n := by omega
      have b2 : (n : Int) ≤ 4096 := by omega
      go_enter Try.func10, Try.ntmps10
      go_wp2
      all_goals (go_ret; exact ⟨rfl, (Below.refl _ _).alloc (Nat.le_refl _) _⟩)
    all_goals
      clear a10
      have b1 : (1 : Int) ≤ n := by omega
      have b2 : (n : Int) ≤ 4096 := by omega
      go_enter Try.func10, Try.ntmps10
      go_wp2
      all_goals (go_ret; exact ⟨rfl, (Below.refl _ _).alloc (Nat.le_refl _) _⟩)
  · rcases h with ⟨a1, a2, rfl, rfl⟩ | ⟨a1, a2, ⟨rfl, rfl⟩ | ⟨rfl, rfl⟩ | ⟨rfl, a3, a4, a5⟩⟩
    · have hk : k = 4 ∨ k = 5 := by omega
      rcases hk with rfl | rfl
      all_goals
        go_enter Try.func10, Try.ntmps10
        go_wp2
        all_goals (go_ret; exact ⟨rfl, (Below.refl _ _).alloc (Nat.le_refl _) _⟩)
    · go_enter Try.func10, Try.ntmps10
      go_wp2
      all_goals (go_ret; exact ⟨rfl, (Below.refl _ _).alloc (Nat.le_refl _) _⟩)
    · go_enter Try.func10, Try.ntmps10
      go_wp2
      all_goals (go_ret; exact ⟨rfl, (Below.refl _ _).alloc (Nat.le_refl _) _⟩)
    · have b1 : (96 : Int) ≤ n := by omega
      have b2 : (n : Int) ≤ 768 := by omega
      have b3 : (n : Int) % 96 = 0 := by omega
      go_enter Try.func10, Try.ntmps10
      go_wp2
      all_goals (go_ret; exact ⟨rfl, (Below.refl _ _).alloc (Nat.le_refl _) _⟩)

set_option maxHeartbeats 8000000 in
set_option maxRecDepth 100000 in
theorem check_no (k ep fr wh tp rd : Int) (A : Option Addr) (n c : Nat) (w : World) (h : ¬ MsgOk k ep fr wh tp rd n) :
    Calls Try.prog 10 #[.agg #[.int .i64 k, .int .i64 ep, .int .i64 fr, .int .i64 wh, .int .i64 tp, .int .i64 rd, .slice A n c]] w fun e w' => e = .returned (.int .i64 60) ∧ Below w.heap.size w w' := by
  have H : Hid (¬ MsgOk k ep fr wh tp rd n) := h
  clear h
  go_enter Try.func10, Try.ntmps10
  go_wp2
  all_goals (go_ret; first | exact ⟨rfl, (Below.refl _ _).alloc (Nat.le_refl _) _⟩ | (exfalso; refine H.out ?_; simp at *; unfold MsgOk; omega))
end Go.Proofs.Ytkdimoijfkikoaa
