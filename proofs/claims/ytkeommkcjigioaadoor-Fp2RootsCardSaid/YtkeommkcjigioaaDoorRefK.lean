/- The reference's numbers: Power. Conditions: those of each theorem. -/
import Derived.Test.YtkeommkcjigioaaDoorRefJ
namespace Go.Proofs.YtkeommkcjigioaaDoor
open Go.RowKit
set_option linter.unusedVariables false

/-- the power so far: the exponent's bits from t on are in -/
def PwInv (a e m : List Nat) (t : Nat) (Y : List Nat) : Prop := Y.length = m.length ∧ W16 Y ∧ le Y = le a ^ (le e / 2 ^ t) % le m

theorem PwInv.start {a e m Y : List Nat} (he : W16 e) (h1 : Y.length = m.length) (h2 : W16 Y) (h3 : le Y = 1 % le m) : PwInv a e m (16 * e.length) Y := by
  refine ⟨h1, h2, ?_⟩
  have h := le_lt he
  rw [show (65536 : Nat) = 2 ^ 16 by decide, ← Nat.pow_mul] at h
  rw [h3, Nat.div_eq_of_lt h, Nat.pow_zero]

theorem PwInv.sq {a e m Y Z : List Nat} {t : Nat} (h : PwInv a e m (t + 1) Y) (h1 : Z.length = m.length) (h2 : W16 Z) (h3 : le Z = le Y * le Y % le m) (hb : bitOf e t = 0) : PwInv a e m t Z := by
  refine ⟨h1, h2, ?_⟩
  have e1 : le e / 2 ^ t = le e / 2 ^ (t + 1) + le e / 2 ^ (t + 1) := by
    have e2 : le e / 2 ^ (t + 1) = le e / 2 ^ t / 2 := by rw [Nat.pow_succ, Nat.div_div_eq_div_mul]
    unfold bitOf at hb
    rw [e2]; omega
  rw [h3, h.2.2, e1]
  generalize le e / 2 ^ (t + 1) = E
  rw [Nat.pow_add, ← Nat.mul_mod]

theorem PwInv.sqm {a e m Y Z V : List Nat} {t : Nat} (h : PwInv a e m (t + 1) Y) (h3 : le Z = le Y * le Y % le m) (h1 : V.length = m.length) (h2 : W16 V) (h4 : le V = le Z * le a % le m) (hb : bitOf e t = 1) : PwInv a e m t V := by
  refine ⟨h1, h2, ?_⟩
  have e1 : le e / 2 ^ t = le e / 2 ^ (t + 1) + le e / 2 ^ (t + 1) + 1 := by
    have e2 : le e / 2 ^ (t + 1) = le e / 2 ^ t / 2 := by rw [Nat.pow_succ, Nat.div_div_eq_div_mul]
    unfold bitOf at hb
    rw [e2]; omega
  rw [h4, h3, h.2.2, e1]
  generalize le e / 2 ^ (t + 1) = E
  rw [Nat.pow_succ, Nat.pow_add, ← Nat.mul_mod]
  generalize le a ^ E * le a ^ E = x
  rw [Nat.mul_mod (x % le m), Nat.mod_mod, ← Nat.mul_mod]

theorem litW (w : World) : Rd (w.alloc (.cells #[.int .u32 1] 64)) (some ⟨w.heap.size, 0, none⟩) (nums .u32 [1]) := by
  refine .inr ⟨w.heap.size, 0, rfl, by simp, fun j hj => ?_⟩
  have hj : j < 1 := hj
  obtain rfl : j = 0 := by omega
  exact (cell_of_row _ w.heap.size 0 _ _ (0, 0) (heap_alloc_new w _)).trans rfl

set_option maxHeartbeats 1000000 in
theorem power_calls (A B M : Option Addr) (a b m : List Nat) (n k l c d f : Nat) (w : World) (hra : Rd w A (nums .u32 a)) (hrb : Rd w B (nums .u32 b)) (hrm : Rd w M (nums .u32 m)) (hna : a.length = n) (hnb : b.length = k) (hnm : m.length = l) (ha : W16 a) (hb : W16 b) (hm : W16 m)
    (h1 : n ≤ 1024) (h2 : k ≤ 1024) (h3 : l ≤ 1024) (hf : l ≤ f) (hM : 0 < le m) :
    Calls Tryd.prog 70 #[.slice A n c, .slice B k d, .slice M l f] w fun e w' => ∃ A' c' out, e = .returned (.slice A' l c') ∧ Rd w' A' (nums .u32 out) ∧ l ≤ c' ∧ (∀ g, blk A' = some g → w.heap.size ≤ g ∧ g < w'.heap.size) ∧ Below w.heap.size w w' ∧ W16 out ∧ out.length = l ∧ le out = le a ^ le b % le m := by
  have HA := Lib.hid hna
  have HB := Lib.hid hnb
  have HL := Lib.hid hnm
  have HWA := Lib.hid ha
  have HWB := Lib.hid hb
  have HWM := Lib.hid hm
  have HP := Lib.hid hM
  clear hna hnb hnm ha hb hm hM
  have c0 := mod_calls (some ⟨w.heap.size, 0, none⟩) M [1] m 1 l 1 f (w.alloc (.cells #[.int .u32 1] 64)) (litW w) (hrm.alloc _) rfl HL.out (fun x hx => by simp at hx; omega) HWM.out (by omega) h3 hf HP.out
  go_enter Tryd.func70, Tryd.ntmps70
  go_wp2_with (first | ((with_reducible refine c0.mono ?_); rintro e w1 ⟨A0, c0', Y0, rfl, y1, y2, y3, y4, y5, y6, y7⟩; clear c0))
  have hb0 : Below w.heap.size w w1 := (below_alloc w _).trans (y4.mono (by simp))
  have P0 : Hid (PwInv a b m (16 * k) Y0) := by
    have h := PwInv.start (a := a) (m := m) (Y := Y0) HWB.out (by rw [y6, HL.out]) y5 (by rw [y7]; simp [le])
    rw [HB.out] at h
    exact h
  have y3' : ∀ g, blk A0 = some g → w.heap.size ≤ g ∧ g < w1.heap.size := fun g hg => ⟨by have := (y3 g hg).1; simp at this; omega, (y3 g hg).2⟩
  clear y3 y4 y5 y6 y7
  go_loopw [7, 8] (fun v i wr => ∃ (t : Nat) (A' : Option Addr) (c' : Nat) (Y : List Nat), t ≤ 16 * k ∧ i = .int .i64 ((t : Int) - 1) ∧ v = .slice A' l c' ∧ Rd wr A' (nums .u32 Y) ∧ l ≤ c' ∧ (∀ g, blk A' = some g → w.heap.size ≤ g ∧ g < wr.heap.size) ∧ Below w.heap.size w wr ∧ Hid (PwInv a b m t Y)) (fun _ i _ => (intOf i + 1).toNat)
  case atStart => exact ⟨16 * k, _, _, Y0, Nat.le_refl _, by go_num, rfl, y1, y2, y3', hb0, P0⟩
  case round =>
    clear P0 y1 y2 y3' hb0
    obtain ⟨t, A', c', Y, ht, rfl, rfl, hY, hc, hfr, hb, HQ⟩ := hrel
    rcases t with _ | t
    · obtain ⟨g1, g2, g3⟩ := HQ.out
      rw [Nat.pow_zero, Nat.div_one] at g3
      have G := Lib.hid (show W16 Y ∧ Y.length = l ∧ le Y = le a ^ le b % le m from ⟨g2, by rw [g1, HL.out], g3⟩)
      clear g1 g2 g3 HQ
      go_wp2
      go_ret
      exact ⟨A', c', Y, rfl, hY, hc, hfr, hb, G.out⟩
    · rw [show (((t + 1 : Nat) : Int) - 1) = (t : Int) by omega]
      have hja : t / 16 < b.length := by have := HB.out; omega
      obtain ⟨bb, oo, rfl, hbl, hcell⟩ := (hrb.below hb).num hja
      have hbit := bit_word HWB.out t
      rw [getD_get hja] at hbit
      have hx16 := HWB.out _ (List.getElem_mem hja)
      obtain ⟨x, hx⟩ : ∃ x, b[t / 16] = x := ⟨_, rfl⟩
      obtain ⟨j, hj⟩ : ∃ j : Nat, t / 16 = j := ⟨_, rfl⟩
      obtain ⟨s, hs⟩ : ∃ s : Nat, t % 16 = s := ⟨_, rfl⟩
      have hbv' : le b / 2 ^ t % 2 = bitOf b t := rfl
      rw [hx] at hcell hx16 hbit
      rw [hj] at hcell
      rw [hs, hbv'] at hbit
      have hjI : (t : Int) / 16 = (j : Int) := by omega
      have hsI : (t : Int) % 16 = (s : Int) := by omega
      have hjn : j < k := by omega
      have hs16 : s < 16 := by omega
      have htI : (0 : Int) ≤ t := by omega
      have hand : bits BinOp.and IntKind.u32 ((x : Int) / 2 ^ s) 1 = ((bitOf b t : Nat) : Int) := by
        have e : ((x : Int) / 2 ^ s) = ((x / 2 ^ s : Nat) : Int) := by rw [Int.natCast_ediv, Int.natCast_pow]; rfl
        have h := u32_and_nat (x / 2 ^ s) 1 (Nat.lt_of_le_of_lt (Nat.div_le_self _ _) (by omega)) (by omega)
        rw [Nat.and_one_is_mod, hbit] at h
        rw [e]; exact h
      have hYl : Y.length = l := by rw [HQ.out.1, HL.out]
      have c1 := wmul_calls A' A' M Y Y m l l l c' c' f wr hY hY (hrm.below hb) hYl hYl HL.out HQ.out.2.1 HQ.out.2.1 HWM.out h3 h3 h3 hf HP.out
      have HYL := Lib.hid hYl
      clear hbit hx hj hs hja hx16 hYl hbv'
      have hb01 : bitOf b t = 0 ∨ bitOf b t = 1 := by unfold bitOf; omega
      rcases hb01 with h0 | h0
      · rw [h0] at hand
        have hand : bits BinOp.and IntKind.u32 ((x : Int) / 2 ^ s) 1 = 0 := hand
        have HB0 := Lib.hid h0
        clear h0
        go_wp2_with (first | ((with_reducible refine c1.mono ?_); rintro e w2 ⟨A2, c2', Z, rfl, z1, z2, z3, z4, z5, z6, z7⟩; have hcell := (z4.cell (p := ⟨bb, oo + j, none⟩) hbl).trans hcell; clear c1))
        have hs2 := hb.size
        have HZ : Hid (PwInv a b m t Z) := HQ.out.sq (by rw [z6, HL.out]) z5 z7 HB0.out
        have hb2 : Below w.heap.size w w2 := hb.trans (z4.mono hs2)
        have hf2 : ∀ g, blk A2 = some g → w.heap.size ≤ g ∧ g < w2.heap.size := fun g hg => ⟨Nat.le_trans hs2 (z3 g hg).1, (z3 g hg).2⟩
        go_roundw
        case rel => exact ⟨t, A2, c2', Z, by omega, rfl, rfl, z1, z2, hf2, hb2, HZ⟩
        case measure => simp [intOf]
      · rw [h0] at hand
        have hand : bits BinOp.and IntKind.u32 ((x : Int) / 2 ^ s) 1 = 1 := hand
        have HB0 := Lib.hid h0
        clear h0
        go_wp2_with (first | ((with_reducible refine c1.mono ?_); rintro e w2 ⟨A2, c2', Z, rfl, z1, z2, z3, z4, z5, z6, z7⟩; have hcell := (z4.cell (p := ⟨bb, oo + j, none⟩) hbl).trans hcell; clear c1; have hs2 := hb.size; have hb2 : Below w.heap.size w w2 := hb.trans (z4.mono hs2); have c3 := wmul_calls A2 A M Z a m l n l c2' c f w2 z1 (hra.below hb2) (hrm.below hb2) z6 HA.out HL.out z5 HWA.out HWM.out h3 h1 h3 hf HP.out; have Z7 := Lib.hid z7; clear z7 z1 z2 z3 z5 z6) | ((with_reducible refine c3.mono ?_); rintro e w3 ⟨A3, c3', V, rfl, v1, v2, v3, v4, v5, v6, v7⟩; clear c3))
        have hs3 := hb2.size
        have HZ : Hid (PwInv a b m t V) := HQ.out.sqm Z7.out (by rw [v6, HL.out]) v5 v7 HB0.out
        have hb3 : Below w.heap.size w w3 := hb2.trans (v4.mono hs3)
        have hf3 : ∀ g, blk A3 = some g → w.heap.size ≤ g ∧ g < w3.heap.size := fun g hg => ⟨Nat.le_trans hs3 (v3 g hg).1, (v3 g hg).2⟩
        go_roundw
        case rel => exact ⟨t, A3, c3', V, by omega, rfl, rfl, v1, v2, hf3, hb3, HZ⟩
        case measure => simp [intOf]

end Go.Proofs.YtkeommkcjigioaaDoor
