/- The walks of get and put of package fp: the number of n bytes, and n bytes of a number behind others, the highest first. Conditions: those of each theorem. -/
import Derived.Test.YtdconlmpjehohaaDoorBy
namespace Go.Proofs.YtdconlmpjehohaaDoor
open Go.RowKit
set_option linter.unusedVariables false

set_option maxHeartbeats 400000 in
theorem fp_get_calls (A : Option Addr) (l : List Nat) (len cap n : Nat) (w : World) (hr : Rd w A (nums .u8 l)) (hl : l.length = len) (hc : len ≤ cap) (hn : n ≤ len) (hn8 : n ≤ 8) (hb : ∀ x ∈ l, x < 256) :
    Calls Tryd.prog 67 #[.slice A len cap, .int .i64 n] w fun e w' => e = .returned (.int .u64 (be (l.take n))) ∧ w = w' := by
  have HL := Lib.hid hl
  clear hl
  go_enter Tryd.func67, Tryd.ntmps67
  go_wp2
  go_loop [5, 12] (fun x i => ∃ k : Nat, k ≤ n ∧ i = .int .i64 k ∧ x = .int .u64 (be (l.take k))) (fun _ i => n - (intOf i).toNat)
  case atStart => exact ⟨0, Nat.zero_le _, rfl, rfl⟩
  case round =>
    obtain ⟨k, hk, rfl, rfl⟩ := hrel
    by_cases hlt : k < n
    · have hkl : k < l.length := by have := HL.out; omega
      have hx : l[k] < 256 := hb _ (List.getElem_mem _)
      have h1 : be (l.take k) < 256 ^ k := by
        have := be_lt (l.take k) (fun x hx => hb x (List.mem_of_mem_take hx))
        rwa [List.length_take, Nat.min_eq_left (by omega)] at this
      have h2 : be (l.take k) < 72057594037927936 := Nat.lt_of_lt_of_le h1 ((show 256 ^ k ≤ 256 ^ 7 from Nat.pow_le_pow_right (by omega) (by omega)))
      have h3 : ((be (l.take (k + 1)) : Nat) : Int) = bits BinOp.or IntKind.u64 (IntKind.u64.wrap (((be (l.take k) : Nat) : Int) * 256)) ((l[k] : Nat) : Int) := by
        have e1 : IntKind.u64.wrap (((be (l.take k) : Nat) : Int) * 256) = ((be (l.take k) * 256 : Nat) : Int) := by
          rw [IntKind.wrap_u64]; omega
        rw [e1, u64_or_nat _ _ (by omega) (by omega), take_snoc _ _ hkl, be_snoc, mul256_or _ _ hx]
      have H3 := Lib.hid h3
      clear h1 h2 h3
      obtain ⟨b, o, rfl, _, hck⟩ := hr.num hkl
      clear hb
      go_wp2
      go_round
      case rel => exact ⟨k + 1, by omega, by go_num, by rw [H3.out]⟩
      case measure => simp [intOf]; omega
    · have : k = n := by omega
      subst this
      go_wp2
      go_ret
      exact ⟨rfl, rfl⟩

set_option maxHeartbeats 400000 in
theorem fp_put_calls (A : Option Addr) (m c x n base : Nat) (xs : List Value) (w : World) (hown : Own w base 5 A m c xs) (hbase : base ≤ w.heap.size) (hm : m ≤ 1073741824) (hn : n ≤ 8) (hx : x < 18446744073709551616) :
    Calls Tryd.prog 48 #[.slice A m c, .int .u64 x, .int .i64 n] w fun e w' => ∃ A' c', e = .returned (.slice A' (m + n) c') ∧ Own w' base 5 A' (m + n) c' (xs ++ nums .u8 (digs n x)) ∧ w.grownBy w' (blk A) ∧ (blk A' = blk A ∨ ∃ g, blk A' = some g ∧ w.heap.size ≤ g) := by
  obtain ⟨i0, hi0, hz0, hz1, hz2⟩ := info_parts u8_info
  go_enter Tryd.func48, Tryd.ntmps48
  go_wp2
  go_loopw [0, 7] (fun v i wr => ∃ (k : Nat) (A' : Option Addr) (c' : Nat), k ≤ n ∧ i = .int .i64 ((n : Int) - 1 - k) ∧ v = .slice A' (m + k) c' ∧ Own wr base 5 A' (m + k) c' (xs ++ nums .u8 ((digs n x).take k)) ∧ w.grownBy wr (blk A) ∧ (blk A' = blk A ∨ ∃ g, blk A' = some g ∧ w.heap.size ≤ g)) (fun _ i _ => (intOf i + 1).toNat)
  case atStart => exact ⟨0, A, c, Nat.zero_le _, by simp, rfl, by simpa [nums] using hown, World.grownBy.refl w _, .inl rfl⟩
  case round =>
    clear hown
    obtain ⟨k, A', c', hk, rfl, rfl, hown, hgr, hat⟩ := hrel
    by_cases hlt : k < n
    · have hpos : 0 ≤ (n : Int) - 1 - k := by omega
      have hbw : base ≤ (wr.alloc (.cells #[.int .u8 ((x : Int) / 2 ^ (8 * (n - 1 - k)) % 256)] 5)).heap.size := by have := hgr.size; simp; omega
      go_wp2_with (at_builtin; refine wpList_app _ rfl _ _ _ rfl base 5 i0 _ 1 Tryd.underlying22 hi0 hz0 hz1 hz2 rfl (by decide) A' (m + k) c' _ rfl (hown.alloc _) _ 1 1 _ rfl (Src.lit1 _ _ _ _) (by omega) hbw ?_; intro A2 c2 w2 hown2 hgr2 hat2)
      have hd : Value.int .u8 ((x : Int) / 2 ^ (8 * (n - 1 - k)) % 256) = .int .u8 (((digs n x)[k]'(by rw [digs_length]; exact hlt) : Nat) : Int) := by rw [digs_int hlt]
      rw [hd, List.append_assoc, show [Value.int .u8 (((digs n x)[k]'(by rw [digs_length]; exact hlt) : Nat) : Int)] = nums .u8 [(digs n x)[k]'(by rw [digs_length]; exact hlt)] from rfl, ← nums_append, ← digs_take hlt] at hown2
      have hg3 : w.grownBy w2 (blk A) := grown_step hgr (below_alloc _ _) hgr2 hat
      have hat3 : blk A2 = blk A ∨ ∃ g, blk A2 = some g ∧ w.heap.size ≤ g := by
        rcases hat2 with h | h
        · rw [h]; exact hat
        · exact .inr ⟨_, h, by have := hgr.size; simp; omega⟩
      clear hd hown hgr hat hat2 hgr2
      go_wp2
      go_roundw
      case rel => exact ⟨k + 1, A2, c2, by omega, by go_num, rfl, hown2, hg3, hat3⟩
      case measure => simp [intOf]; omega
    · have hneg : (n : Int) - 1 - k < 0 := by omega
      have hkn : k = n := by omega
      rw [hkn, List.take_of_length_le (by rw [digs_length]; exact Nat.le_refl _)] at hown
      rw [hkn]
      go_wp2
      go_ret
      exact ⟨_, _, rfl, hown, hgr, hat⟩
end Go.Proofs.YtdconlmpjehohaaDoor
