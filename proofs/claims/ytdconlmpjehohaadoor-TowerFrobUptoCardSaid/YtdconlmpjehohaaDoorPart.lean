/- The tower's statements: part: 48 bytes of a row, around its end. Conditions: those of each theorem. -/
import Derived.Test.YtdconlmpjehohaaDoorSyFpB
import Derived.Test.YtdconlmpjehohaaDoorRefH
namespace Go.Proofs.YtdconlmpjehohaaDoor
open Go.RowKit
set_option linter.unusedVariables false

/-- a byte of it -/
def partB (l : List Nat) (k i : Nat) : Nat := l.getD ((48 * k + i) % l.length) 0

theorem partL_map {l : List Nat} (h : 0 < l.length) (k : Nat) : partL l k = (List.range 48).map (partB l k) := by
  cases l with
  | nil => simp at h
  | cons x r => rfl

def PtInv (l : List Nat) (k i : Nat) (out : List Nat) : Prop := out = (List.range i).map (partB l k)

theorem PtInv.step {l out : List Nat} {k i : Nat} (h : PtInv l k i out) : PtInv l k (i + 1) (out ++ [partB l k i]) := by
  unfold PtInv at *
  rw [List.range_succ, List.map_append, h]
  rfl

set_option maxHeartbeats 1000000 in
theorem part_calls (A : Option Addr) (l : List Nat) (n c k : Nat) (w : World) (hr : Rd w A (nums .u8 l)) (hl : l.length = n) (hb : ∀ x ∈ l, x < 256) (hn : n ≤ 140737488355328) (hk : k < 64) :
    Calls Tryd.prog 37 #[.slice A n c, .int .i64 k] w fun e w' => ∃ A' c', e = .returned (.slice A' (partL l k).length c') ∧ Own w' w.heap.size 5 A' (partL l k).length c' (nums .u8 (partL l k)) ∧ Below w.heap.size w w' := by
  obtain ⟨i0, hi0, hz0, hz1, hz2⟩ := info_parts u8_info
  have P0 : Hid (PtInv l k 0 []) := rfl
  have HL := Lib.hid hl
  have HB := Lib.hid hb
  clear hb
  by_cases h0 : n = 0
  · have e : partL l k = [] := by
      have : l = [] := List.eq_nil_of_length_eq_zero (by omega)
      rw [this]; rfl
    rw [e]
    subst h0
    clear hl e
    go_enter Tryd.func37, Tryd.ntmps37
    go_wp2
    go_loopw [5, 6] (fun v iv wr => iv = .int .i64 0 ∧ v = .slice (some ⟨w.heap.size, 0, none⟩) 0 0 ∧ Own wr w.heap.size 5 (some ⟨w.heap.size, 0, none⟩) 0 0 (nums .u8 []) ∧ Below w.heap.size w wr) (fun _ _ _ => 0)
    case atStart => exact ⟨rfl, rfl, Own.litAt w [] 5 rfl (Nat.le_refl _) rfl (by simp [maxLen]), below_alloc _ _⟩
    case round =>
      obtain ⟨rfl, rfl, hown, hb⟩ := hrel
      go_wp2
      go_ret
      exact ⟨_, _, rfl, hown, hb⟩
  · have hpl := partL_map (l := l) (by omega) k
    have hlen : (partL l k).length = 48 := by rw [hpl]; simp
    rw [hlen]
    have HP := Lib.hid hpl
    have hn0 : 0 < n := by omega
    have hnI : (0 : Int) < n := by omega
    clear hl hpl hlen h0
    go_enter Tryd.func37, Tryd.ntmps37
    go_wp2
    go_loopw [5, 6] (fun v iv wr => ∃ (i : Nat) (A' : Option Addr) (c' : Nat) (out : List Nat), i ≤ 48 ∧ iv = .int .i64 i ∧ v = .slice A' i c' ∧ Own wr w.heap.size 5 A' i c' (nums .u8 out) ∧ Below w.heap.size w wr ∧ Hid (PtInv l k i out)) (fun _ iv _ => 48 - (intOf iv).toNat)
    case atStart => exact ⟨0, _, _, [], by omega, rfl, rfl, Own.litAt w [] 5 rfl (Nat.le_refl _) rfl (by simp [maxLen]), below_alloc _ _, P0⟩
    case round =>
      clear P0
      obtain ⟨i, A', c', out, hi, rfl, rfl, hown, hb, HQ⟩ := hrel
      by_cases hlt : i < 48
      · have HS : Hid (PtInv l k (i + 1) (out ++ [partB l k i])) := HQ.out.step
        obtain ⟨q, hq⟩ : ∃ q, (48 * k + i) % n = q := ⟨_, rfl⟩
        have hqn : q < n := by rw [← hq]; exact Nat.mod_lt _ hn0
        have hql : q < l.length := by have := HL.out; omega
        obtain ⟨bb, oo, rfl, hbl, hcell⟩ := (hr.below hb).num hql
        have hbyte := HB.out _ (List.getElem_mem hql)
        have hpb : partB l k i = l[q] := by
          unfold partB
          rw [HL.out, hq]
          simp [List.getD, hql]
        obtain ⟨x, hx⟩ : ∃ x, l[q] = x := ⟨_, rfl⟩
        rw [hpb, hx] at HS
        rw [hx] at hcell hbyte
        have hqI : (48 * (k : Int) + i) % n = (q : Int) := by rw [← hq]; simp
        have hqI2 : (48 * (k : Int) + i).tmod n = (q : Int) := by
          rw [Int.tmod_eq_emod_of_nonneg (by omega)]; exact hqI
        have hqn' : (q : Int) < n := by omega
        clear hx hpb hql hq HQ
        have hbw : w.heap.size ≤ (wr.alloc (.cells #[.int .u8 x] 5)).heap.size := by have := hb.size; simp; omega
        go_wp2_with (first | (at_builtin; refine wpList_app _ rfl _ _ _ rfl w.heap.size 5 i0 _ 1 Tryd.underlying22 hi0 hz0 hz1 hz2 rfl (by decide) A' i c' _ rfl (hown.alloc _) _ 1 1 _ rfl (Src.lit1 _ _ _ _) (by omega) hbw ?_; intro A2 c2' w2 hown2 hgr2 hat2))
        have hown3 : Own w2 w.heap.size 5 A2 (i + 1) c2' (nums .u8 (out ++ [x])) := by rw [nums_append]; exact hown2
        have hb3 : Below w.heap.size w w2 := (hb.alloc hb.size _).grown hgr2 hbw (fun g hg => (hown.lt g hg).1)
        go_roundw
        case rel => exact ⟨i + 1, A2, c2', out ++ [x], by omega, by go_num, rfl, hown3, hb3, HS⟩
        case measure => simp [intOf]; omega
      · have hi48 : i = 48 := by omega
        subst hi48
        have HO := HQ.out
        unfold PtInv at HO
        rw [← HP.out] at HO
        have HO := Lib.hid HO
        clear HQ
        go_wp2
        go_ret
        exact ⟨_, _, rfl, HO.out ▸ hown, hb⟩

end Go.Proofs.YtdconlmpjehohaaDoor
