/- The reference's numbers: Bytes. Conditions: those of each theorem. -/
import Derived.Test.YtdconlmpjehohaaDoorRefD
namespace Go.Proofs.YtdconlmpjehohaaDoor
open Go.RowKit
set_option linter.unusedVariables false

/-- a byte of a number, from its words -/
theorem byte_word {a : List Nat} (ha : W16 a) (i : Nat) : a.getD (i / 2) 0 / 2 ^ (8 * (i % 2)) % 256 = le a / 256 ^ i % 256 := by
  have h := le_lo a (i / 2)
  have hl := lo_lt ha (i / 2)
  rw [le_drop] at h
  have hp : (256 : Nat) ^ i = 65536 ^ (i / 2) * 256 ^ (i % 2) := by
    conv => lhs; rw [← Nat.div_add_mod i 2]
    rw [Nat.pow_add, Nat.pow_mul]
  have hd : le a / 65536 ^ (i / 2) = a.getD (i / 2) 0 + 65536 * le (a.drop (i / 2 + 1)) := by
    rw [h, Nat.mul_comm, Nat.add_mul_div_right _ _ (Nat.pow_pos (by omega)), Nat.div_eq_of_lt hl, Nat.zero_add]
  rw [hp, ← Nat.div_div_eq_div_mul, hd]
  have hx := getD_lt ha (i / 2)
  generalize a.getD (i / 2) 0 = x at *
  generalize le (a.drop (i / 2 + 1)) = y
  have hr : i % 2 = 0 ∨ i % 2 = 1 := by omega
  rcases hr with h | h <;> rw [h] <;> simp <;> omega

theorem byte_high {a : List Nat} (ha : W16 a) {i : Nat} (hi : a.length ≤ i / 2) : le a / 256 ^ i % 256 = 0 := by
  rw [← byte_word ha i]
  simp [List.getD, List.getElem?_eq_none hi]

theorem set_zeros (m d : Nat) (r : List Nat) : (List.replicate (m + 1) 0 ++ r).set m d = List.replicate m 0 ++ d :: r := by
  rw [List.replicate_succ', List.append_assoc, List.set_append_right _ _ (by simp)]
  simp

set_option maxHeartbeats 1000000 in
theorem bytes_calls (A : Option Addr) (a : List Nat) (m c n : Nat) (w : World) (hr : Rd w A (nums .u32 a)) (hl : a.length = m) (ha : W16 a) (h1 : m ≤ 70368744177664) (h2 : n ≤ 1073741824) :
    Calls Tryd.prog 59 #[.slice A m c, .int .i64 n] w fun e w' => ∃ A', e = .returned (.slice A' n n) ∧ Own w' w.heap.size 5 A' n n (nums .u8 (digs n (le a))) ∧ Below w.heap.size w w' := by
  obtain ⟨i0, hi0, hz0, hz1, hz2⟩ := info_parts u8_info
  have HL := Lib.hid hl
  have HA := Lib.hid ha
  clear hl ha
  have q1 : i0.bytes * n ≤ 281474976710656 := by rw [hz2]; omega
  have q2 : n ≤ maxLen := by simp only [maxLen]; omega
  go_enter Tryd.func59, Tryd.ntmps59
  go_wp2_with (at_make; refine wpList_make_full _ rfl _ _ 22 rfl w.heap.size 5 i0 _ 1 Tryd.underlying22 hi0 hz0 hz1 .i64 .i64 _ _ n rfl rfl rfl rfl q1 q2 (Nat.le_refl _) ?_; intro w1 hown hgr)
  rw [made_nums] at hown
  clear hi0 hz0 hz1 hz2 q1 q2
  go_loopw [6] (fun i wr => ∃ k : Nat, k ≤ n ∧ i = .int .i64 k ∧ Own wr w.heap.size 5 (some ⟨w.heap.size, 0, none⟩) n n (nums .u8 (List.replicate (n - k) 0 ++ digs k (le a))) ∧ Below w.heap.size w wr) (fun i _ => n - (intOf i).toNat)
  case atStart => exact ⟨0, Nat.zero_le _, rfl, (by rw [Nat.sub_zero]; simp only [digs, List.append_nil]; exact hown), (Below.refl _ _).grown hgr (Nat.le_refl _) (by simp)⟩
  case round =>
    clear hown hgr
    obtain ⟨k, hk, rfl, hown, hb⟩ := hrel
    by_cases hlt : k < n
    · obtain ⟨p, hp⟩ : ∃ p : Nat, n - k = p + 1 := ⟨n - k - 1, by omega⟩
      have hpI : (n : Int) - 1 - k = (p : Int) := by omega
      have hpn : p < n := by omega
      have hst := fun d => hown.storeNum p d
      rw [hp] at hst hown
      obtain ⟨j, hj⟩ : ∃ j : Nat, k / 2 = j := ⟨_, rfl⟩
      have hjI : (k : Int) / 2 = (j : Int) := by omega
      have hfr := hown.free p
      have hce := hown.cellNum p (by simp; omega)
      by_cases hjm : j < m
      · have hja : j < a.length := by have := HL.out; omega
        obtain ⟨bb, oo, rfl, hbl, hcell⟩ := (hr.below hb).num hja
        have hw := byte_word HA.out k
        have hx16 := HA.out _ (List.getElem_mem hja)
        have e : a.getD j 0 = a[j] := by simp [List.getD, hja]
        rw [hj, e] at hw
        obtain ⟨x, hx⟩ : ∃ x, a[j] = x := ⟨_, rfl⟩
        rw [hx] at hw hcell hx16
        have hd := hst (le a / 256 ^ k % 256)
        rw [set_zeros, show le a / 256 ^ k % 256 :: digs k (le a) = digs (k + 1) (le a) from rfl, ← hw, show p = n - (k + 1) by omega] at hd
        clear hst hown hx e hj
        have hjmI : (j : Int) < m := by omega
        have hpar : k % 2 = 0 ∨ k % 2 = 1 := by omega
        have hb' := fun u => hb.setCell (p := ⟨w.heap.size, p, none⟩) (Nat.le_refl _) u
        obtain ⟨y, hy⟩ : ∃ y, x / 2 ^ (8 * (k % 2)) % 256 = y := ⟨_, rfl⟩
        have hb2 := hb' (.int .u8 (y : Int))
        rw [hy, show n - (k + 1) = p by omega] at hd
        have HPE : Hid (n - (k + 1) = p) := by show _ = _; omega
        rcases hpar with h2 | h2
        · have h2I : (k : Int) % 2 = 0 := by omega
          rw [h2] at hy
          have hdv : (x : Int) % 256 = (y : Int) := by simp at hy; omega
          clear hy h2 hw hb' hp
          go_wp2
          go_roundw
          case rel => exact ⟨k + 1, by omega, by go_num, (by rw [HPE.out]; exact hd), hb2⟩
          case measure => simp [intOf]; omega
        · have h2I : (k : Int) % 2 = 1 := by omega
          rw [h2] at hy
          have hdv : (x : Int) / 256 = (y : Int) := by simp at hy; omega
          clear hy h2 hw hb' hp
          go_wp2
          go_roundw
          case rel => exact ⟨k + 1, by omega, by go_num, (by rw [HPE.out]; exact hd), hb2⟩
          case measure => simp [intOf]; omega
      · have hz := byte_high HA.out (i := k) (by have := HL.out; omega)
        have hd : Own wr w.heap.size 5 (some ⟨w.heap.size, 0, none⟩) n n (nums .u8 (List.replicate (n - (k + 1)) 0 ++ digs (k + 1) (le a))) := by
          rw [show n - (k + 1) = p by omega, show digs (k + 1) (le a) = le a / 256 ^ k % 256 :: digs k (le a) from rfl, hz]
          rw [List.replicate_succ', List.append_assoc] at hown
          exact hown
        have hjmI : (m : Int) ≤ j := by omega
        clear hst hown hz hj hp
        go_wp2
        go_roundw
        case rel => exact ⟨k + 1, by omega, by go_num, hd, hb⟩
        case measure => simp [intOf]; omega
    · have hkn : k = n := by omega
      subst hkn
      have hown' : Own wr w.heap.size 5 (some ⟨w.heap.size, 0, none⟩) k k (nums .u8 (digs k (le a))) := by simpa using hown
      clear hown
      go_wp2
      go_ret
      exact ⟨_, rfl, hown', hb⟩

end Go.Proofs.YtdconlmpjehohaaDoor
