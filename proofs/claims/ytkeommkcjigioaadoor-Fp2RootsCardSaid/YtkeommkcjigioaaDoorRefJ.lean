/- The reference's numbers: Mul, Half, Power. Conditions: those of each theorem. -/
import Derived.Test.YtkeommkcjigioaaDoorRefH
namespace Go.Proofs.YtkeommkcjigioaaDoor
open Go.RowKit
set_option linter.unusedVariables false

set_option maxHeartbeats 1000000 in
theorem wmul_calls (A B M : Option Addr) (a b m : List Nat) (n k l c d f : Nat) (w : World) (hra : Rd w A (nums .u32 a)) (hrb : Rd w B (nums .u32 b)) (hrm : Rd w M (nums .u32 m)) (hna : a.length = n) (hnb : b.length = k) (hnm : m.length = l) (ha : W16 a) (hb : W16 b) (hm : W16 m)
    (h1 : n ≤ 1024) (h2 : k ≤ 1024) (h3 : l ≤ 1024) (hf : l ≤ f) (hM : 0 < le m) :
    Calls Tryd.prog 65 #[.slice A n c, .slice B k d, .slice M l f] w fun e w' => ∃ A' c' out, e = .returned (.slice A' l c') ∧ Rd w' A' (nums .u32 out) ∧ l ≤ c' ∧ (∀ g, blk A' = some g → w.heap.size ≤ g ∧ g < w'.heap.size) ∧ Below w.heap.size w w' ∧ W16 out ∧ out.length = l ∧ le out = le a * le b % le m := by
  have c1 := times_calls A B a b n k c d w hra hrb hna hnb ha hb (by omega) (by omega)
  have HM := Lib.hid hm
  have HL := Lib.hid hnm
  have HP := Lib.hid hM
  clear hra hrb hna hnb ha hb hm hnm hM
  obtain ⟨K, hK⟩ : ∃ K, n + k + 1 = K := ⟨_, rfl⟩
  rw [hK] at c1
  have hK1 : K ≤ 4096 := by omega
  clear hK
  go_enter Tryd.func65, Tryd.ntmps65
  go_wp2_with (first | ((with_reducible refine c1.mono ?_); rintro e w1 ⟨A1, c1', out1, rfl, hown1, hb1, hw1, hl1, hle1⟩; have c2 := mod_calls A1 M out1 m K l c1' f w1 hown1.rd (hrm.below hb1) hl1 HL.out hw1 HM.out (by omega) h3 hf HP.out; rw [hle1] at c2; clear hown1 hw1 hl1 hle1; clear c1) | ((with_reducible refine c2.mono ?_); rintro e w2 ⟨A2, c2', out2, rfl, h4, h5, h6, h7, h8⟩; clear c2))
  go_ret
  have hs := hb1.size
  exact ⟨A2, c2', out2, rfl, h4, h5, fun g hg => ⟨Nat.le_trans hs (h6 g hg).1, (h6 g hg).2⟩, hb1.trans (h7.mono hs), h8⟩

/-- the words of half a number so far -/
def HfInv (a : List Nat) (k : Nat) (out : List Nat) : Prop := out.length = k ∧ W16 out ∧ 2 * le out + a.getD 0 0 % 2 = lo a k + a.getD k 0 % 2 * 65536 ^ k

theorem HfInv.step {a out : List Nat} {k : Nat} (h : HfInv a k out) (ha : W16 a) : HfInv a (k + 1) (out ++ [a.getD k 0 / 2 + a.getD (k + 1) 0 % 2 * 32768]) := by
  obtain ⟨h1, h2, h3⟩ := h
  have l1 := getD_lt ha k
  refine ⟨by simp [h1], h2.snoc (by omega), ?_⟩
  rw [le_snoc, h1]
  simp only [lo, Nat.pow_succ]
  generalize a.getD k 0 = x at *
  generalize a.getD (k + 1) 0 % 2 = y at *
  have e : x = 2 * (x / 2) + x % 2 := by omega
  generalize x / 2 = u at *
  generalize x % 2 = v at *
  subst e
  generalize 65536 ^ k = p at *
  have e1 : (u + y * 32768) * p = u * p + y * 32768 * p := Nat.add_mul _ _ _
  have e2 : y * (p * 65536) = 2 * (y * 32768 * p) := by
    rw [Nat.mul_comm p, ← Nat.mul_assoc, show y * 65536 = 2 * (y * 32768) by omega, Nat.mul_assoc]
  have e3 : (2 * u + v) * p = 2 * (u * p) + v * p := by rw [Nat.add_mul, Nat.mul_assoc]
  rw [e1, e2, e3]
  omega

theorem HfInv.done {a out : List Nat} (h : HfInv a a.length out) (ha : W16 a) : W16 out ∧ out.length = a.length ∧ le out = le a / 2 := by
  obtain ⟨h1, h2, h3⟩ := h
  refine ⟨h2, h1, ?_⟩
  rw [lo_all (Nat.le_refl _)] at h3
  have : a.getD a.length 0 = 0 := by simp [List.getD]
  rw [this] at h3
  omega

set_option maxHeartbeats 1000000 in
theorem half_calls (A : Option Addr) (a : List Nat) (n c : Nat) (w : World) (hra : Rd w A (nums .u32 a)) (hna : a.length = n) (ha : W16 a) (h1 : n ≤ 1073741824) :
    Calls Tryd.prog 71 #[.slice A n c] w fun e w' => ∃ A' c' out, e = .returned (.slice A' n c') ∧ Own w' w.heap.size 64 A' n c' (nums .u32 out) ∧ Below w.heap.size w w' ∧ W16 out ∧ out.length = n ∧ le out = le a / 2 := by
  obtain ⟨i0, hi0, hz0, hz1, hz2⟩ := info_parts u32_info
  have HA := Lib.hid hna
  have HWA := Lib.hid ha
  clear hna ha
  have P0 : Hid (HfInv a 0 []) := ⟨rfl, fun x hx => (by cases hx), by simp [le, lo]⟩
  go_enter Tryd.func71, Tryd.ntmps71
  go_wp2
  go_loopw [3, 9] (fun v i wr => ∃ (k : Nat) (A' : Option Addr) (c' : Nat) (out : List Nat), k ≤ n ∧ i = .int .i64 k ∧ v = .slice A' k c' ∧ Own wr w.heap.size 64 A' k c' (nums .u32 out) ∧ Below w.heap.size w wr ∧ Hid (HfInv a k out)) (fun _ i _ => n - (intOf i).toNat)
  case atStart => exact ⟨0, _, 0, [], by omega, rfl, rfl, Own.litAt w [] 64 rfl (Nat.le_refl _) rfl (by simp [maxLen]), below_alloc _ _, P0⟩
  case round =>
    clear P0
    obtain ⟨k, A', c', out, hk, rfl, rfl, hown, hb, HP⟩ := hrel
    by_cases hlt : k < n
    · have hka : k < a.length := by have := HA.out; omega
      obtain ⟨bb, oo, rfl, hbl, hcells⟩ : ∃ b o, A = some ⟨b, o, none⟩ ∧ b < wr.heap.size ∧ ∀ j (h : j < a.length), wr.cell? ⟨b, o + j, none⟩ = some (.int .u32 ((a[j] : Nat) : Int)) := by
        obtain ⟨b, o, h2, h3, h4⟩ := (hra.below hb).at_ (k := k) (by rw [nums_length]; exact hka)
        refine ⟨b, o, h2, h3, fun j hj => ?_⟩
        have := h4 j (by rw [nums_length]; exact hj)
        rwa [nums_get] at this
      have hcell := hcells k hka
      have HP2 : Hid (HfInv a (k + 1) (out ++ [a.getD k 0 / 2 + a.getD (k + 1) 0 % 2 * 32768])) := HP.out.step HWA.out
      have lx := getD_lt HWA.out k
      have ly := getD_lt HWA.out (k + 1)
      rw [getD_get hka] at HP2 lx
      obtain ⟨x, hx⟩ : ∃ x, a[k] = x := ⟨_, rfl⟩
      rw [hx] at HP2 lx hcell
      by_cases hk1 : k + 1 < n
      · have hka1 : k + 1 < a.length := by have := HA.out; omega
        have hcell1 := hcells (k + 1) hka1
        rw [getD_get hka1] at HP2 ly
        obtain ⟨y, hy⟩ : ∃ y, a[k + 1] = y := ⟨_, rfl⟩
        rw [hy] at HP2 ly hcell1
        have hand : bits BinOp.and IntKind.u32 (y : Int) 1 = ((y % 2 : Nat) : Int) := by
          have h := u32_and_nat y 1 (by omega) (by omega)
          rw [Nat.and_one_is_mod] at h
          exact h
        obtain ⟨u, hu⟩ : ∃ u, x / 2 = u := ⟨_, rfl⟩
        obtain ⟨v, hv⟩ : ∃ v, y % 2 = v := ⟨_, rfl⟩
        rw [hu, hv] at HP2
        rw [hv] at hand
        have huI : (x : Int) / 2 = (u : Int) := by omega
        have hv2 : v < 2 := by omega
        have hu2 : u < 32768 := by omega
        have hor : bits BinOp.or IntKind.u32 (u : Int) ((v : Int) * 32768) = ((u + v * 32768 : Nat) : Int) := by
          have h := u32_or u v 15 (by omega) (by omega) (by omega)
          simpa using h
        obtain ⟨r, hr⟩ : ∃ r, u + v * 32768 = r := ⟨_, rfl⟩
        rw [hr] at hor HP2
        have hk1I : (k : Int) + 1 < n := by omega
        clear hcells hx hy hu hv hr HP hka hka1
        have hbw : w.heap.size ≤ (wr.alloc (.cells #[.int .u32 r] 64)).heap.size := by have := hb.size; simp; omega
        go_wp2_with (first | (at_builtin; refine wpList_app _ rfl _ _ _ rfl w.heap.size 64 i0 _ 4 Tryd.underlying43 hi0 hz0 hz1 hz2 rfl (by decide) A' k c' _ rfl (hown.alloc _) _ 1 1 _ rfl (Src.lit1 _ _ _ _) (by omega) hbw ?_; intro A2 c2' w2 hown2 hgr2 hat2))
        have hown3 : Own w2 w.heap.size 64 A2 (k + 1) c2' (nums .u32 (out ++ [r])) := by rw [nums_append]; exact hown2
        have hb3 : Below w.heap.size w w2 := (hb.alloc hb.size _).grown hgr2 hbw (fun g hg => (hown.lt g hg).1)
        go_roundw
        case rel => exact ⟨k + 1, A2, c2', out ++ [r], by omega, by go_num, rfl, hown3, hb3, HP2⟩
        case measure => simp [intOf]; omega
      · have hy0 : a.getD (k + 1) 0 = 0 := by
          have := HA.out
          simp [List.getD, List.getElem?_eq_none (by omega : a.length ≤ k + 1)]
        rw [hy0] at HP2
        obtain ⟨u, hu⟩ : ∃ u, x / 2 = u := ⟨_, rfl⟩
        rw [hu, Nat.zero_mod, Nat.zero_mul, Nat.add_zero] at HP2
        have huI : (x : Int) / 2 = (u : Int) := by omega
        have hk1I : (n : Int) ≤ (k : Int) + 1 := by omega
        clear hcells hx hu HP hka hy0 ly
        have hbw : w.heap.size ≤ (wr.alloc (.cells #[.int .u32 u] 64)).heap.size := by have := hb.size; simp; omega
        go_wp2_with (first | (at_builtin; refine wpList_app _ rfl _ _ _ rfl w.heap.size 64 i0 _ 4 Tryd.underlying43 hi0 hz0 hz1 hz2 rfl (by decide) A' k c' _ rfl (hown.alloc _) _ 1 1 _ rfl (Src.lit1 _ _ _ _) (by omega) hbw ?_; intro A2 c2' w2 hown2 hgr2 hat2))
        have hown3 : Own w2 w.heap.size 64 A2 (k + 1) c2' (nums .u32 (out ++ [u])) := by rw [nums_append]; exact hown2
        have hb3 : Below w.heap.size w w2 := (hb.alloc hb.size _).grown hgr2 hbw (fun g hg => (hown.lt g hg).1)
        go_roundw
        case rel => exact ⟨k + 1, A2, c2', out ++ [u], by omega, by go_num, rfl, hown3, hb3, HP2⟩
        case measure => simp [intOf]; omega
    · have hkn : k = a.length := by have := HA.out; omega
      have HK := (hkn ▸ HP.out : HfInv a a.length out).done HWA.out
      rw [HA.out] at HK hkn
      subst hkn
      have HK := Lib.hid HK
      clear HP
      go_wp2
      go_ret
      exact ⟨_, _, out, rfl, hown, hb, HK.out⟩

end Go.Proofs.YtkeommkcjigioaaDoor
