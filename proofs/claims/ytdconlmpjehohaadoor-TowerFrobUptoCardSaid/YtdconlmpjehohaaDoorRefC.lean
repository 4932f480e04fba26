/- The reference's numbers: Minus. Conditions: those of each theorem. -/
import Derived.Test.YtdconlmpjehohaaDoorRefB
namespace Go.Proofs.YtdconlmpjehohaaDoor
open Go.RowKit
set_option linter.unusedVariables false

def MinusInv (a b : List Nat) (k : Nat) (out : List Nat) (c : Nat) : Prop := out.length = k ∧ W16 out ∧ c ≤ 1 ∧ le out + lo b k = lo a k + c * 65536 ^ k

theorem MinusInv.step {a b out : List Nat} {k c s : Nat} (h : MinusInv a b k out c) (ha : W16 a) (hb : W16 b) (hs : s + b.getD k 0 + c = a.getD k 0 + 65536) : MinusInv a b (k + 1) (out ++ [s % 65536]) (1 - s / 65536) := by
  obtain ⟨h1, h2, h3, h4⟩ := h
  have l1 := getD_lt ha k
  have l2 := getD_lt hb k
  refine ⟨by simp [h1], h2.snoc (by omega), by omega, ?_⟩
  rw [le_snoc, h1]
  simp only [lo, Nat.pow_succ]
  have e : s % 65536 + b.getD k 0 + c = a.getD k 0 + (1 - s / 65536) * 65536 := by omega
  generalize s % 65536 = r at *
  generalize 1 - s / 65536 = q at *
  have e2 : (r + b.getD k 0 + c) * 65536 ^ k = (a.getD k 0 + q * 65536) * 65536 ^ k := by rw [e]
  simp only [Nat.add_mul] at e2
  have e3 : q * (65536 ^ k * 65536) = q * 65536 * 65536 ^ k := by rw [Nat.mul_comm (65536 ^ k), ← Nat.mul_assoc]
  rw [e3]
  omega

theorem minus_out {a b out : List Nat} {c : Nat} (h : MinusInv a b a.length out c) (ha : W16 a) (hb : W16 b) (hab : le b ≤ le a) : W16 out ∧ out.length = a.length ∧ le out = le a - le b := by
  obtain ⟨h1, h2, h3, h4⟩ := h
  refine ⟨h2, h1, ?_⟩
  have e1 : lo a a.length = le a := lo_all (Nat.le_refl _)
  have l1 := lo_lt ha a.length
  rw [e1] at l1 h4
  have e2 := le_lo b a.length
  have l3 : le out < 65536 ^ a.length := by
    have := lo_lt h2 out.length
    rwa [lo_all (Nat.le_refl _), h1] at this
  generalize 65536 ^ a.length = p at *
  have hz : le (b.drop a.length) = 0 := by
    rcases Nat.eq_zero_or_pos (le (b.drop a.length)) with h | h
    · exact h
    · have : p * 1 ≤ p * le (b.drop a.length) := Nat.mul_le_mul_left _ h
      omega
  rw [hz, Nat.mul_zero, Nat.add_zero] at e2
  have hc : c = 0 := by
    rcases Nat.eq_zero_or_pos c with h | h
    · exact h
    · have : 1 * p ≤ c * p := Nat.mul_le_mul_right _ h
      omega
  subst hc
  omega

set_option maxHeartbeats 1000000 in
theorem minus_calls (A B : Option Addr) (a b : List Nat) (n m c d : Nat) (w : World) (hra : Rd w A (nums .u32 a)) (hrb : Rd w B (nums .u32 b)) (hna : a.length = n) (hnb : b.length = m) (ha : W16 a) (hb : W16 b) (h1 : n ≤ 1073741824) (hab : le b ≤ le a) :
    Calls Tryd.prog 72 #[.slice A n c, .slice B m d] w fun e w' => ∃ A' c' out, e = .returned (.slice A' n c') ∧ Own w' w.heap.size 43 A' n c' (nums .u32 out) ∧ Below w.heap.size w w' ∧ W16 out ∧ out.length = n ∧ le out = le a - le b := by
  obtain ⟨i0, hi0, hz0, hz1, hz2⟩ := info_parts u32_info
  have HA := Lib.hid hna
  have HB := Lib.hid hnb
  clear hna hnb
  have HWA := Lib.hid ha
  have HWB := Lib.hid hb
  have HAB := Lib.hid hab
  clear ha hb hab
  have w2 := fun (i : Nat) (W : World) (hw : Below w.heap.size w W) => word_calls B b m d i W (hrb.below hw) HB.out
  have W2 := Lib.hid w2
  clear w2 hrb
  have P0 : Hid (MinusInv a b 0 [] 0) := ⟨rfl, fun x hx => (by cases hx), by omega, by simp [le, lo]⟩
  go_enter Tryd.func72, Tryd.ntmps72
  go_wp2
  go_loopw [5, 6, 12] (fun v cc i wr => ∃ (k : Nat) (A' : Option Addr) (c' cr : Nat) (out : List Nat), k ≤ n ∧ i = .int .i64 k ∧ cc = .int .u32 cr ∧ cr ≤ 1 ∧ v = .slice A' k c' ∧ Own wr w.heap.size 43 A' k c' (nums .u32 out) ∧ Below w.heap.size w wr ∧ Hid (MinusInv a b k out cr)) (fun _ _ i _ => n - (intOf i).toNat)
  case atStart => exact ⟨0, _, 0, 0, [], by omega, rfl, rfl, by omega, rfl, Own.litAt w [] 43 rfl (Nat.le_refl _) rfl (by simp [maxLen]), below_alloc _ _, P0⟩
  case round =>
    clear P0
    obtain ⟨k, A', c', cr, out, hk, rfl, rfl, hcr, rfl, hown, hb, HP⟩ := hrel
    by_cases hlt : k < n
    · have hka : k < a.length := by have := HA.out; omega
      obtain ⟨bb, oo, rfl, hbl, hcell⟩ := (hra.below hb).num hka
      have c2 := fun j : Nat => (W2.out k (wr.drewN j) (below_drewN hb j)).mono (R' := fun e w' => e = .returned (.int .u32 ((b.getD k 0 : Nat) : Int)) ∧ w' = wr.drewN j) fun e w' h => ⟨h.1, h.2.symm⟩
      have lx := getD_lt HWA.out k
      have ly := getD_lt HWB.out k
      have ex : a.getD k 0 = a[k] := by simp [List.getD, hka]
      rw [ex] at lx
      obtain ⟨y, hy⟩ : ∃ y, b.getD k 0 = y := ⟨_, rfl⟩
      obtain ⟨x, hx⟩ : ∃ x, a[k] = x := ⟨_, rfl⟩
      rw [hx] at lx hcell
      rw [hy] at c2 ly
      obtain ⟨s, hs, hsb⟩ : ∃ s : Nat, s + y + cr = x + 65536 ∧ s < 131072 := ⟨x + 65536 - y - cr, by omega, by omega⟩
      have HP2 : Hid (MinusInv a b (k + 1) (out ++ [s % 65536]) (1 - s / 65536)) := HP.out.step HWA.out HWB.out (by rw [hy, ex, hx]; exact hs)
      clear hx hy HP ex
      have hand : bits BinOp.and IntKind.u32 (s : Int) 65535 = ((s % 65536 : Nat) : Int) := u32_and s (by omega)
      obtain ⟨r, hr⟩ : ∃ r, s % 65536 = r := ⟨_, rfl⟩
      obtain ⟨q, hq⟩ : ∃ q, s / 65536 = q := ⟨_, rfl⟩
      have hdiv : (s : Int) / 65536 = (q : Int) := by omega
      have hq2 : q ≤ 1 := by omega
      rw [hr] at hand HP2
      rw [hq] at HP2
      clear hr hq
      have s1 : IntKind.u32.wrap ((x : Int) + 65536) = (x : Int) + 65536 := by rw [IntKind.wrap_u32]; omega
      have s2 : IntKind.u32.wrap ((x : Int) + 65536 - y) = (x : Int) + 65536 - y := by rw [IntKind.wrap_u32]; omega
      have s3 : IntKind.u32.wrap ((x : Int) + 65536 - y - cr) = (s : Int) := by rw [IntKind.wrap_u32]; omega
      go_wp2_with fail
      go_quiet ((go_at_call 78; exact Calls.quiet_of_same (c2 _)))
      clear s1 s2 s3 c2 hcell
      have hownq : Own (wr.drewN nq) w.heap.size 43 A' k c' (nums .u32 out) := hown.keep fun _ _ => rfl
      have hbq : Below w.heap.size w (wr.drewN nq) := below_drewN hb nq
      generalize wr.drewN nq = wq at *
      clear hown hb
      have hsub : IntKind.u32.wrap (1 - (q : Int)) = ((1 - q : Nat) : Int) := by rw [IntKind.wrap_u32]; omega
      have hbw : w.heap.size ≤ (wq.alloc (.cells #[.int .u32 r] 43)).heap.size := by have := hbq.size; simp; omega
      have hz1' : (1 : Int) - (q : Int) = ((1 - q : Nat) : Int) := by omega
      go_wp2_with (first | (at_builtin; refine wpList_app _ rfl _ _ _ rfl w.heap.size 43 i0 _ 4 Tryd.underlying26 hi0 hz0 hz1 hz2 rfl (by decide) A' k c' _ rfl (hownq.alloc _) _ 1 1 _ rfl (Src.lit1 _ _ _ _) (by omega) hbw ?_; intro A2 c2' w2 hown2 hgr2 hat2))
      have hown3 : Own w2 w.heap.size 43 A2 (k + 1) c2' (nums .u32 (out ++ [r])) := by rw [nums_append]; exact hown2
      have hb3 : Below w.heap.size w w2 := (hbq.alloc hbq.size _).grown hgr2 hbw (fun g hg => (hownq.lt g hg).1)
      go_roundw
      case rel => exact ⟨k + 1, A2, c2', 1 - q, out ++ [r], by omega, by go_num, rfl, by omega, rfl, hown3, hb3, HP2⟩
      case measure => simp [intOf]; omega
    · have hkn : k = a.length := by have := HA.out; omega
      have HK := minus_out (hkn ▸ HP.out) HWA.out HWB.out HAB.out
      rw [HA.out] at HK hkn
      subst hkn
      have HK := Lib.hid HK
      clear HP
      go_wp2
      go_ret
      exact ⟨_, _, out, rfl, hown, hb, HK.out⟩

end Go.Proofs.YtdconlmpjehohaaDoor
