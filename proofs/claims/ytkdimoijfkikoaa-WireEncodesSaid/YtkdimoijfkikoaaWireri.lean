/- The walk of cressetref16.Right: which messages are right. Conditions: those of each theorem. -/
import Derived.Test.YtkdimoijfkikoaaWireck
namespace Go.Proofs.Ytkdimoijfkikoaa
open Go.RowKit
set_option linter.unusedVariables false

set_option maxHeartbeats 4000000 in
set_option maxRecDepth 100000 in
theorem right_yes (k ep fr wh tp rd : Int) (A : Option Addr) (n c : Nat) (w : World) (h : MsgOk k ep fr wh tp rd n) :
    Calls Try.prog 12 #[.agg #[.int .i64 k, .int .i64 ep, .int .i64 fr, .int .i64 wh, .int .i64 tp, .int .i64 rd, .slice A n c]] w fun e w' => e = .returned (.bool true) ∧ Below w.heap.size w w' := by
  obtain ⟨h1, h2, h3, h4, h⟩ := h
  rcases h with ⟨a1, a2, a3, a4, a5, a6, rfl, a8, a9, a10⟩ | ⟨rfl, rfl, h⟩
  · have hk : k = 1 ∨ k = 2 ∨ k = 3 := by omega
    rcases hk with rfl | rfl | rfl
    · obtain rfl : wh = fr := by omega
      clear a10
      have b1 : (1 : Int) ≤ n := by omega
      have b2 : (n : Int) ≤ 4096 := by omega
      go_enter Try.func12, Try.ntmps12
      go_wp2
      all_goals (go_ret; exact ⟨rfl, (Below.refl _ _).alloc (Nat.le_refl _) _⟩)
    all_goals
      clear a10
      have b1 : (1 : Int) ≤ n := by omega
      have b2 : (n : Int) ≤ 4096 := by omega
      go_enter Try.func12, Try.ntmps12
      go_wp2
      all_goals (go_ret; exact ⟨rfl, (Below.refl _ _).alloc (Nat.le_refl _) _⟩)
  · rcases h with ⟨a1, a2, rfl, rfl⟩ | ⟨a1, a2, ⟨rfl, rfl⟩ | ⟨rfl, rfl⟩ | ⟨rfl, a3, a4, a5⟩⟩
    · have hk : k = 4 ∨ k = 5 := by omega
      rcases hk with rfl | rfl
      all_goals
        go_enter Try.func12, Try.ntmps12
        go_wp2
        all_goals (go_ret; exact ⟨rfl, (Below.refl _ _).alloc (Nat.le_refl _) _⟩)
    · go_enter Try.func12, Try.ntmps12
      go_wp2
      all_goals (go_ret; exact ⟨rfl, (Below.refl _ _).alloc (Nat.le_refl _) _⟩)
    · go_enter Try.func12, Try.ntmps12
      go_wp2
      all_goals (go_ret; exact ⟨rfl, (Below.refl _ _).alloc (Nat.le_refl _) _⟩)
    · have b1 : (96 : Int) ≤ n := by omega
      have b2 : (n : Int) ≤ 768 := by omega
      have b3 : (n : Int) % 96 = 0 := by omega
      go_enter Try.func12, Try.ntmps12
      go_wp2
      all_goals (go_ret; exact ⟨rfl, (Below.refl _ _).alloc (Nat.le_refl _) _⟩)

set_option maxHeartbeats 8000000 in
set_option maxRecDepth 100000 in
theorem right_no (k ep fr wh tp rd : Int) (A : Option Addr) (n c : Nat) (w : World) (h : ¬ MsgOk k ep fr wh tp rd n) :
    Calls Try.prog 12 #[.agg #[.int .i64 k, .int .i64 ep, .int .i64 fr, .int .i64 wh, .int .i64 tp, .int .i64 rd, .slice A n c]] w fun e w' => e = .returned (.bool false) ∧ Below w.heap.size w w' := by
  have H : Hid (¬ MsgOk k ep fr wh tp rd n) := h
  clear h
  go_enter Try.func12, Try.ntmps12
  go_wp2
  all_goals
    go_ret
    first
      | exact ⟨rfl, (Below.refl _ _).alloc (Nat.le_refl _) _⟩
      | (refine ⟨ret_bool (Bool.eq_false_iff.2 fun hx => H.out ?_), (Below.refl _ _).alloc (Nat.le_refl _) _⟩; simp at *; unfold MsgOk; omega)
      | (refine ⟨ret_bool (Bool.eq_false_iff.2 fun hx => H.out ?_), (Below.refl _ _).alloc (Nat.le_refl _) _⟩; trace_state)
end Go.Proofs.Ytkdimoijfkikoaa
