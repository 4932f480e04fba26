/- The walks of cressetref01.Same and Copy: two slices of bytes are compared, one is copied into new memory. Conditions: those of each theorem. -/
import Derived.Test.YtdconlmpjehohaaDoorProg
import Derived.Test.YtdconlmpjehohaaDoorBase
import Derived.Test.YtdconlmpjehohaaDoorNum
import Derived.Outline
import Derived.Deep.QuietTactic
import Derived.BigQuiet
import Derived.Deep.DeepMust
namespace Go.Proofs.YtdconlmpjehohaaDoor
open Go.RowKit
set_option linter.unusedVariables false

theorem u8_info : (Tryd.prog.info? 5).map (fun i => (i.zero, i.size, i.bytes)) = some (some (.int .u8 0), 1, 1) := by kernel_rfl

def SameB (l m : List Nat) : Bool := decide (l = m)

set_option maxHeartbeats 400000 in
theorem same_calls (A1 A2 : Option Addr) (l m : List Nat) (c1 c2 : Nat) (w : World) (h1 : Rd w A1 (nums .u8 l)) (h2 : Rd w A2 (nums .u8 m)) (hl : l.length ≤ 140737488355328) (hm : m.length ≤ 140737488355328) :
    Calls Tryd.prog 52 #[.slice A1 l.length c1, .slice A2 m.length c2] w fun e w' => e = .returned (.bool (SameB l m)) ∧ ∃ n, w' = w.drewN n := by
  by_cases hlen : l.length = m.length
  · have hq : (((l.length : Int) != (m.length : Int)) = false) := by simp [hlen]
    go_enter Tryd.func52, Tryd.ntmps52
    have HL := Lib.hid hlen
    clear hlen
    go_wp2
    go_loopw [13] (fun i wr => ∃ k n : Nat, k ≤ l.length ∧ i = .int .i64 k ∧ l.take k = m.take k ∧ wr = w.drewN n) (fun i _ => l.length - (intOf i).toNat)
    case atStart => exact ⟨0, 0, Nat.zero_le _, rfl, rfl, rfl⟩
    case round =>
      obtain ⟨k, n, hk, rfl, htk, rfl⟩ := hrel
      have HT := Lib.hid htk
      clear htk
      by_cases hlt : k < l.length
      · have hkm : k < m.length := by have := HL.out; omega
        obtain ⟨b1, o1, rfl, _, hc1⟩ := h1.num hlt
        obtain ⟨b2, o2, rfl, _, hc2⟩ := h2.num hkm
        by_cases heq : l[k] = m[k]
        · have hb : (((l[k] : Nat) : Int) != ((m[k] : Nat) : Int)) = false := by simp [heq]
          have HE := Lib.hid heq
          clear heq
          go_wp2
          go_quiet (fail)
          go_wp2
          go_roundw
          case rel => exact ⟨k + 1, _, by omega, by go_num, by rw [take_snoc _ _ hlt, take_snoc _ _ hkm, HT.out, HE.out], rfl⟩
          case measure => simp [intOf]; omega
        · have hb : (((l[k] : Nat) : Int) != ((m[k] : Nat) : Int)) = true := by simp; omega
          have hne : ¬ l = m := fun h => heq (by subst h; rfl)
          clear heq
          go_wp2
          go_quiet (fail)
          go_wp2
          go_ret
          exact ⟨ret_bool (by unfold SameB; rw [eq_comm, decide_eq_false_iff_not]; exact hne), drew_ex _ _ _⟩
      · have hk' : k = l.length := by omega
        have hk2 : k = m.length := by have := HL.out; omega
        have HE : Hid (l = m) := by
          have h := HT.out
          rw [List.take_of_length_le (by omega), List.take_of_length_le (by omega)] at h
          exact h
        clear hk' hk2
        go_wp2
        go_ret
        exact ⟨ret_bool (by unfold SameB; rw [eq_comm, decide_eq_true_iff]; exact HE.out), _, rfl⟩
  · have hq : (((l.length : Int) != (m.length : Int)) = true) := by simp; omega
    go_enter Tryd.func52, Tryd.ntmps52
    go_wp2
    go_ret
    exact ⟨ret_bool (by unfold SameB; rw [eq_comm, decide_eq_false_iff_not]; intro h; exact hlen (by rw [h])), 0, rfl⟩

end Go.Proofs.YtdconlmpjehohaaDoor
