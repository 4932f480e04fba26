/- The walks of the head and of WireEncodes and WireUnlike. Conditions: those of each theorem. -/
import Derived.Test.YtkdimoijfkikoaaWireck
import Derived.Test.YtkdimoijfkikoaaWirerg
import Derived.Test.YtkdimoijfkikoaaWireen
namespace Go.Proofs.Ytkdimoijfkikoaa
open Go.RowKit
set_option linter.unusedVariables false

theorem same_n (A1 A2 : Option Addr) (l m : List Nat) (n1 n2 c1 c2 : Nat) (w : World) (e1 : l.length = n1) (e2 : m.length = n2) (h1 : Rd w A1 (nums .u8 l)) (h2 : Rd w A2 (nums .u8 m)) (hl : n1 ≤ 140737488355328) (hm : n2 ≤ 140737488355328) :
    Calls Try.prog 13 #[.slice A1 n1 c1, .slice A2 n2 c2] w fun e w' => e = .returned (.bool (SameB l m)) ∧ ∃ n, w' = w.drewN n := by
  subst e1 e2
  exact same_calls A1 A2 l m c1 c2 w h1 h2 hl hm

theorem copy_n (A : Option Addr) (l : List Nat) (n c : Nat) (w : World) (hl : l.length = n) (h : Rd w A (nums .u8 l)) (hn : n ≤ 140737488355328) :
    Calls Try.prog 15 #[.slice A n c] w fun e w' => ∃ A' c', e = .returned (.slice A' n c') ∧ Own w' w.heap.size 5 A' n c' (nums .u8 l) ∧ Below w.heap.size w w' := by
  subst hl
  exact copy_calls A l c w h hn

set_option maxHeartbeats 4000000 in
theorem head_calls (w : World) : Calls Try.prog 7 #[] w fun e w' => e = .returned (.bool true) ∧ Below w.heap.size w w' := by
  go_enter Try.func7, Try.ntmps7
  go_wp2_with fail
  refine (encode_yes 7 0 2 0 0 5 none 0 0 [] _ rfl (Rd.nil _ _) (by unfold MsgOk; omega)).mono ?_
  rintro e w1 ⟨A1, c1, rfl, hown, hb⟩
  go_wp2_with fail
  refine (same_n A1 _ _ [7, 0, 0, 0, 0, 2, 0, 0, 0, 0, 0, 0, 0, 0, 0, 5, 0, 0] _ 18 c1 _ _ (by decide) (by decide) (hown.rd.alloc _) (Own.lit w1 (nums .u8 [7, 0, 0, 0, 0, 2, 0, 0, 0, 0, 0, 0, 0, 0, 0, 5, 0, 0]) _ (Nat.zero_le _) rfl (by simp [maxLen, nums])).rd (by omega) (by omega)).mono ?_
  rintro e w2 ⟨rfl, n, rfl⟩
  have hs : SameB (msgBytes 7 0 2 0 0 5 []) [7, 0, 0, 0, 0, 2, 0, 0, 0, 0, 0, 0, 0, 0, 0, 5, 0, 0] = true := by decide +kernel
  rw [hs]
  go_wp2_with fail
  go_ret
  exact ⟨rfl, below_drewN (hb.alloc hb.size _) n⟩
end Go.Proofs.Ytkdimoijfkikoaa
