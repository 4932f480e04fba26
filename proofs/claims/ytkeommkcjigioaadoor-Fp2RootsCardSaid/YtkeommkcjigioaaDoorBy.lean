/- The walks of cressetref01.Same and Copy: two slices of bytes are compared, one is copied into new memory. Conditions: those of each theorem. -/
import Derived.Test.YtkeommkcjigioaaDoorProg
import Derived.Test.YtkeommkcjigioaaDoorBase
import Derived.Test.YtkeommkcjigioaaDoorNum
import Derived.Outline
import Derived.Deep.QuietTactic
import Derived.BigQuiet
import Derived.Deep.DeepMust
namespace Go.Proofs.YtkeommkcjigioaaDoor
open Go.RowKit
set_option linter.unusedVariables false

theorem u8_info : (Tryd.prog.info? 5).map (fun i => (i.zero, i.size, i.bytes)) = some (some (.int .u8 0), 1, 1) := by kernel_rfl

def SameB (l m : List Nat) : Bool := decide (l = m)

set_option maxHeartbeats 400000 in
theorem same_calls (A1 A2 : Option Addr) (l m : List Nat) (c1 c2 : Nat) (w : World) (h1 : Rd w A1 (nums .u8 l)) (h2 : Rd w A2 (nums .u8 m)) (hl : l.length ≤ 140737488355328) (hm : m.length ≤ 140737488355328) :
    Calls Tryd.prog 26 #[.slice A1 l.length c1, .slice A2 m.length c2] w fun e w' => e = .returned (.bool (SameB l m)) ∧ ∃ n, w' = w.drewN n := by
  by_cases hlen : l.length = m.length
  · have hq : (((l.length : Int) != (m.length : Int)) = false) := by simp [hlen]
    go_enter Tryd.func26, Tryd.ntmps26
    have HL := Lib.hid hlen
    clear hlen
    go_wp2
    go_loopw [13] (fun i wr => ∃ k n : Nat, k ≤ l.length ∧ i = .int .i64 k ∧ l.take k = m.take k ∧ wr = w.drewN n) (fun i _ => l.length - (intOf i).toNat)
    case atStart => exact ⟨0, 0, Nat.zero_le _, rfl, rfl, rfl⟩
    case round =>
      obtain ⟨k, n, hk, rfl, htk, rfl⟩ := hrel
      have HT := Lib.hid htk
      clear htk
      by_cases hlt : k < l.length
      · have hkm : k < m.length := by have := HL.out; omega
        obtain ⟨b1, o1, rfl, _, hc1⟩ := h1.num hlt
        obtain ⟨b2, o2, rfl, _, hc2⟩ := h2.num hkm
        by_cases heq : l[k] = m[k]
        · have hb : (((l[k] : Nat) : Int) != ((m[k] : Nat) : Int)) = false := by simp [heq]
          have HE := Lib.hid heq
          clear heq
          go_wp2
          go_quiet (fail)
          go_wp2
          go_roundw
          case rel => exact ⟨k + 1, _, by omega, by go_num, by rw [take_snoc _ _ hlt, take_snoc _ _ hkm, HT.out, HE.out], rfl⟩
          case measure => simp [intOf]; omega
        · have hb : (((l[k] : Nat) : Int) != ((m[k] : Nat) : Int)) = true := by simp; omega
          have hne : ¬ l = m := fun h => heq (by subst h; rfl)
          clear heq
          go_wp2
          go_quiet (fail)
          go_wp2
          go_ret
          exact ⟨ret_bool (by unfold SameB; rw [eq_comm, decide_eq_false_iff_not]; exact hne), drew_ex _ _ _⟩
      · have hk' : k = l.length := by omega
        have hk2 : k = m.length := by have := HL.out; omega
        have HE : Hid (l = m) := by
          have h := HT.out
          rw [List.take_of_length_le (by omega), List.take_of_length_le (by omega)] at h
          exact h
        clear hk' hk2
        go_wp2
        go_ret
        exact ⟨ret_bool (by unfold SameB; rw [eq_comm, decide_eq_true_iff]; exact HE.out), _, rfl⟩
  · have hq : (((l.length : Int) != (m.length : Int)) = true) := by simp; omega
    go_enter Tryd.func26, Tryd.ntmps26
    go_wp2
    go_ret
    exact ⟨ret_bool (by unfold SameB; rw [eq_comm, decide_eq_false_iff_not]; intro h; exact hlen (by rw [h])), 0, rfl⟩

set_option maxHeartbeats 400000 in
theorem copy_calls (A : Option Addr) (l : List Nat) (c : Nat) (w : World) (h : Rd w A (nums .u8 l)) (hl : l.length ≤ 140737488355328) :
    Calls Tryd.prog 12 #[.slice A l.length c] w fun e w' => ∃ A' c', e = .returned (.slice A' l.length c') ∧ Own w' w.heap.size 5 A' l.length c' (nums .u8 l) ∧ Below w.heap.size w w' := by
  obtain ⟨i0, hi0, hz0, hz1, hz2⟩ := info_parts u8_info
  go_enter Tryd.func12, Tryd.ntmps12
  have q1 : i0.bytes * l.length ≤ 281474976710656 := by rw [hz2]; omega
  have q2 : l.length ≤ maxLen := by simp only [maxLen]; omega
  go_wp2_with (at_make; refine wpList_make_full _ rfl _ _ 22 rfl w.heap.size 5 i0 _ 1 Tryd.underlying22 hi0 hz0 hz1 .i64 .i64 _ _ l.length rfl rfl rfl rfl q1 q2 (Nat.le_refl _) ?_; intro w1 hown hgr)
  rw [made_nums] at hown
  go_loopw [10] (fun i wr => ∃ k : Nat, k ≤ l.length ∧ i = .int .i64 k ∧ Own wr w.heap.size 5 (some ⟨w.heap.size, 0, none⟩) l.length l.length (nums .u8 (l.take k ++ List.replicate (l.length - k) 0)) ∧ Below w.heap.size w wr) (fun i _ => l.length - (intOf i).toNat)
  case atStart => exact ⟨0, Nat.zero_le _, rfl, by simp only [List.take_zero, List.nil_append, Nat.sub_zero]; exact hown, (Below.refl _ _).grown hgr (Nat.le_refl _) (by simp)⟩
  case round =>
    clear hown hgr hi0 hz0 hz1 hz2 q1 q2
    obtain ⟨k, hk, rfl, hown, hb⟩ := hrel
    by_cases hlt : k < l.length
    · obtain ⟨b, o, rfl, hbl, hc⟩ := h.num hlt
      have hcw : wr.cell? ⟨b, o + k, none⟩ = some (.int .u8 (l[k] : Nat)) := (hb.cell (p := ⟨b, o + k, none⟩) hbl).trans hc
      have hst := hown.storeNum k l[k]
      have hfr := hown.free k
      have hce := hown.cellNum k (by simp; omega)
      have hb' := hb.setCell (p := ⟨w.heap.size, k, none⟩) (Nat.le_refl _) (.int .u8 (l[k] : Nat))
      have e : (l.take k ++ List.replicate (l.length - k) 0).set k l[k] = l.take (k + 1) ++ List.replicate (l.length - (k + 1)) 0 := by
        obtain ⟨m, hm⟩ : ∃ m, l.length - k = m + 1 := ⟨l.length - k - 1, by omega⟩
        rw [hm, List.replicate_succ, List.set_append_right _ _ (by simp; omega), List.length_take, Nat.min_eq_left (by omega), Nat.sub_self, List.set_cons_zero, take_snoc _ _ hlt, List.append_assoc]
        simp; omega
      rw [e] at hst
      clear e hown hc h
      go_wp2
      go_roundw
      case rel => exact ⟨k + 1, by omega, by go_num, hst, hb'⟩
      case measure => simp [intOf]; omega
    · have hk' : k = l.length := by omega
      have hown' : Own wr w.heap.size 5 (some ⟨w.heap.size, 0, none⟩) l.length l.length (nums .u8 l) := by simpa [hk'] using hown
      clear hown
      go_wp2
      go_ret
      exact ⟨_, _, rfl, hown', hb⟩
end Go.Proofs.YtkeommkcjigioaaDoor
