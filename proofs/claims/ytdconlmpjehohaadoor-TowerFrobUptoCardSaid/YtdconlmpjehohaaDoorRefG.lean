/- The reference's numbers: Same, Mod. Conditions: those of each theorem. -/
import Derived.Test.YtdconlmpjehohaaDoorRefF
namespace Go.Proofs.YtdconlmpjehohaaDoor
open Go.RowKit
set_option linter.unusedVariables false

/-- what is known of the remainder so far -/
def MdInv (a m : List Nat) (t : Nat) (L : List Nat) : Prop := L.length = m.length + 1 ∧ W16 L ∧ le L = le a / 2 ^ t % le m

theorem MdInv.start {a m : List Nat} (ha : W16 a) : MdInv a m (16 * a.length) (List.replicate (m.length + 1) 0) := by
  have z : ∀ n, le (List.replicate n 0) = 0 := fun n => by
    induction n with
    | zero => rfl
    | succ n ih => simp [List.replicate_succ, le, ih]
  refine ⟨by simp, fun x hx => by rw [List.eq_of_mem_replicate hx]; omega, ?_⟩
  have h := le_lt ha
  rw [show (65536 : Nat) = 2 ^ 16 by decide, ← Nat.pow_mul] at h
  rw [z, Nat.div_eq_of_lt h, Nat.zero_mod]

/-- the bit that comes next -/
def bitOf (a : List Nat) (t : Nat) : Nat := le a / 2 ^ t % 2

theorem MdInv.shift {a m L0 L : List Nat} {t c : Nat} (h : MdInv a m (t + 1) L0) (hm : W16 m) (hM : 0 < le m) (hs : ShInv L0 (bitOf a t) L0.length L c) :
    L.length = m.length + 1 ∧ W16 L ∧ le L = 2 * (le a / 2 ^ (t + 1) % le m) + bitOf a t := by
  obtain ⟨h1, h2, h3⟩ := h
  have hlt : le L0 < le m := by rw [h3]; exact Nat.mod_lt _ hM
  have hd := hs.done h2 (by unfold bitOf; omega) h1 (Nat.le_of_lt (le_lt hm)) hlt
  exact ⟨hs.1.trans h1, hs.2.1, by rw [hd, h3]⟩

theorem MdInv.keep {a m L : List Nat} {t : Nat} (hM : 0 < le m) (h : L.length = m.length + 1 ∧ W16 L ∧ le L = 2 * (le a / 2 ^ (t + 1) % le m) + bitOf a t) (hl : LessB L m = true) : MdInv a m t L := by
  obtain ⟨h1, h2, h3⟩ := h
  refine ⟨h1, h2, ?_⟩
  have hl := of_decide_eq_true hl
  have hb := mod_bit (x := le a) (k := t) hM
  unfold bitOf at h3
  rw [h3] at hl ⊢
  rw [if_pos hl] at hb
  exact hb

theorem MdInv.less {a m L L' : List Nat} {t : Nat} (hM : 0 < le m) (h : L.length = m.length + 1 ∧ W16 L ∧ le L = 2 * (le a / 2 ^ (t + 1) % le m) + bitOf a t) (hl : LessB L m = false) (h' : W16 L' ∧ L'.length = m.length + 1 ∧ le L' = le L - le m) : MdInv a m t L' := by
  obtain ⟨h1, h2, h3⟩ := h
  refine ⟨h'.2.1, h'.1, ?_⟩
  have hl := of_decide_eq_false hl
  have hb := mod_bit (x := le a) (k := t) hM
  unfold bitOf at h3
  rw [h'.2.2, h3]
  rw [h3] at hl
  rw [if_neg hl] at hb
  exact hb

set_option maxHeartbeats 1000000 in
theorem mod_calls (A B : Option Addr) (a m : List Nat) (n k c d : Nat) (w : World) (hra : Rd w A (nums .u32 a)) (hrb : Rd w B (nums .u32 m)) (hna : a.length = n) (hnb : m.length = k) (ha : W16 a) (hm : W16 m) (h1 : n ≤ 70368744177664) (h2 : k ≤ 1024) (hkd : k ≤ d) (hM : 0 < le m) :
    Calls Tryd.prog 57 #[.slice A n c, .slice B k d] w fun e w' => ∃ A' c' out, e = .returned (.slice A' k c') ∧ Rd w' A' (nums .u32 out) ∧ k ≤ c' ∧ (∀ g, blk A' = some g → w.heap.size ≤ g ∧ g < w'.heap.size) ∧ Below w.heap.size w w' ∧ W16 out ∧ out.length = k ∧ le out = le a % le m := by
  obtain ⟨i0, hi0, hz0, hz1, hz2⟩ := info_parts u32_info
  have P0 : Hid (MdInv a m (16 * n) (List.replicate (k + 1) 0)) := by have := MdInv.start (m := m) ha; rw [hna, hnb] at this; exact this
  have HA := Lib.hid hna
  have HB := Lib.hid hnb
  have HWA := Lib.hid ha
  have HWM := Lib.hid hm
  have HM := Lib.hid hM
  clear hna hnb ha hm hM
  obtain ⟨K, hK⟩ : ∃ K : Nat, k + 1 = K := ⟨_, rfl⟩
  rw [hK] at P0
  have q1 : i0.bytes * K ≤ 281474976710656 := by rw [hz2]; omega
  have q2 : K ≤ maxLen := by simp only [maxLen]; omega
  have hKI : ((k : Int) + 1) = (K : Int) := by omega
  have hkK : k ≤ K := by omega
  have hK1 : K ≤ 1025 := by omega
  have HK := Lib.hid hK
  clear hK
  go_enter Tryd.func57, Tryd.ntmps57
  go_wp2_with (at_make; refine wpList_make_full _ rfl _ _ 26 rfl w.heap.size 43 i0 _ 1 Tryd.underlying26 hi0 hz0 hz1 .i64 .i64 _ _ K rfl rfl rfl rfl q1 q2 (Nat.le_refl _) ?_; intro w1 hown hgr)
  rw [made_nums] at hown
  clear hi0 hz0 hz1 hz2 q1 q2 hKI
  go_loopw [5, 6] (fun v i wr => ∃ (t : Nat) (A' : Option Addr) (c' : Nat) (L : List Nat), t ≤ 16 * n ∧ i = .int .i64 ((t : Int) - 1) ∧ v = .slice A' K c' ∧ Own wr w.heap.size 43 A' K c' (nums .u32 L) ∧ Below w.heap.size w wr ∧ Hid (MdInv a m t L)) (fun _ i _ => (intOf i + 1).toNat)
  case atStart => exact ⟨16 * n, _, _, _, Nat.le_refl _, by go_num, rfl, hown, (Below.refl _ _).grown hgr (Nat.le_refl _) (by simp), P0⟩
  case round =>
    clear P0 hown hgr
    obtain ⟨t, A', c', L, ht, rfl, rfl, hown, hb, HP⟩ := hrel
    rcases t with _ | t
    · have hcap := hown.cap
      have hkc : k ≤ c' := by omega
      clear hcap
      have HQ := HP
      clear HP
      go_wp2
      go_ret
      obtain ⟨g1, g2, g3⟩ := HQ.out
      have hlt : le L < le m := by rw [g3]; exact Nat.mod_lt _ HM.out
      have hlm := le_lt HWM.out
      refine ⟨A', c', L.take k, rfl, ?_, hkc, fun g hg => hown.lt g hg, hb, g2.take k, by rw [List.length_take, g1, HB.out]; omega, ?_⟩
      · have e : nums .u32 (L.take k) = (nums .u32 L).take k := by simp [nums, List.map_take]
        rw [e]
        exact hown.rd.take k
      · rw [le_take g2 (by rw [g1, HB.out]) (by rw [← HB.out]; omega), g3, Nat.pow_zero, Nat.div_one]
    · rw [show (((t + 1 : Nat) : Int) - 1) = (t : Int) by omega]
      have hja : t / 16 < a.length := by have := HA.out; omega
      obtain ⟨bb, oo, rfl, hbl, hcell⟩ := (hra.below hb).num hja
      have hbit := bit_word HWA.out t
      rw [getD_get hja] at hbit
      have hx16 := HWA.out _ (List.getElem_mem hja)
      obtain ⟨x, hx⟩ : ∃ x, a[t / 16] = x := ⟨_, rfl⟩
      obtain ⟨j, hj⟩ : ∃ j : Nat, t / 16 = j := ⟨_, rfl⟩
      obtain ⟨s, hs⟩ : ∃ s : Nat, t % 16 = s := ⟨_, rfl⟩
      obtain ⟨b, hbv⟩ : ∃ b : Nat, bitOf a t = b := ⟨_, rfl⟩
      have hbv' : le a / 2 ^ t % 2 = b := hbv
      rw [hx] at hcell hx16 hbit
      rw [hj] at hcell
      rw [hs, hbv'] at hbit
      have hjI : (t : Int) / 16 = (j : Int) := by omega
      have hsI : (t : Int) % 16 = (s : Int) := by omega
      have hjn : j < n := by omega
      have hs16 : s < 16 := by omega
      have HBV := Lib.hid hbv
      have hb1 : b ≤ 1 := by have := HBV.out; unfold bitOf at this; omega
      have hand : bits BinOp.and IntKind.u32 ((x : Int) / 2 ^ s) 1 = (b : Int) := by
        have e : ((x : Int) / 2 ^ s) = ((x / 2 ^ s : Nat) : Int) := by rw [Int.natCast_ediv, Int.natCast_pow]; rfl
        have h := u32_and_nat (x / 2 ^ s) 1 (Nat.lt_of_le_of_lt (Nat.div_le_self _ _) (by omega)) (by omega)
        rw [Nat.and_one_is_mod, hbit] at h
        rw [e]; exact h
      have hK0 : 0 < L.length := by rw [HP.out.1]; omega
      have hAe : ∃ g0 o0, A' = some ⟨g0, o0, none⟩ := by obtain ⟨g0, o0, h, _⟩ := hown.rd.num hK0; exact ⟨g0, o0, h⟩
      obtain ⟨g0, o0, rfl⟩ := hAe
      obtain rfl := hown.zero
      have hgl := hown.lt g0 rfl
      have SH : Hid (ShInv L b 0 L b) := ShInv.start HP.out.2.1 hb1
      have HLK : Hid (L.length = K) := by show _ = _; rw [HP.out.1, HB.out, HK.out]
      clear hx16 hbit hx hj hs hbv hbv' hja hK0
      go_wp2_with fail
      clear hand hcell hra hsI hs16
      go_loopw [7, 34] (fun cc i wi => ∃ (q cr : Nat) (L' : List Nat), q ≤ K ∧ i = .int .i64 q ∧ cc = .int .u32 cr ∧ cr ≤ 1 ∧ Own wi w.heap.size 43 (some ⟨g0, 0, none⟩) K c' (nums .u32 L') ∧ Below w.heap.size w wi ∧ Hid (ShInv L b q L' cr)) (fun _ i _ => K - (intOf i).toNat)
      case atStart => exact ⟨0, b, L, Nat.zero_le _, rfl, rfl, hb1, hown, hb, SH⟩
      case round =>
        clear SH hown hb
        obtain ⟨q, cr, L', hq, rfl, rfl, hcr, hown, hb, SH⟩ := hrel
        by_cases hlt : q < K
        · have hqL : q < L'.length := by rw [SH.out.1, HLK.out]; exact hlt
          have hce := hown.cellNum q hqL
          have hfr := hown.free q
          have hst := fun u => hown.storeNum q u
          have eL := SH.out.2.2.2.1 q (Nat.le_refl _)
          rw [getD_get hqL] at eL
          have hx16 := getD_lt HP.out.2.1 q
          have SH2 : Hid _ := SH.out.step HP.out.2.1 (by rw [HLK.out]; exact hlt)
          obtain ⟨y, hy⟩ : ∃ y, L.getD q 0 = y := ⟨_, rfl⟩
          rw [hy] at eL hx16 SH2
          rw [eL] at hce
          have hor : bits BinOp.or IntKind.u32 ((y : Int) * 2) (cr : Int) = ((2 * y + cr : Nat) : Int) := by
            have h := u32_or_nat (y * 2) cr (by omega) (by omega)
            rw [show y * 2 = y * 2 ^ 1 by omega, nat_or_low y cr 1 (by omega)] at h
            rw [show (2 * y + cr) = y * 2 ^ 1 + cr by omega, ← h]
            simp
          have hand2 : bits BinOp.and IntKind.u32 ((2 * y + cr : Nat) : Int) 65535 = (((2 * y + cr) % 65536 : Nat) : Int) := u32_and _ (by omega)
          obtain ⟨v, hv⟩ : ∃ v, 2 * y + cr = v := ⟨_, rfl⟩
          rw [hv] at hor hand2 SH2
          obtain ⟨r, hr⟩ : ∃ r, v % 65536 = r := ⟨_, rfl⟩
          obtain ⟨p, hp⟩ : ∃ p, v / 65536 = p := ⟨_, rfl⟩
          rw [hr] at hand2 SH2
          rw [hp] at SH2
          have hpI : (v : Int) / 65536 = (p : Int) := by omega
          have hp1 : p ≤ 1 := by omega
          have hst2 := hst r
          have hb' := hb.setCell (p := ⟨g0, q, none⟩) hgl.1 (.int .u32 (r : Int))
          have hqI : (q : Int) < K := by omega
          clear hst hy hv hr hp eL SH hqL
          go_wp2_with fail
          go_roundw
          case rel => exact ⟨q + 1, p, _, by omega, by go_num, rfl, hp1, hst2, hb', SH2⟩
          case measure => simp [intOf]; omega
        · have hqK : q = L.length := by have := HLK.out; omega
          have S3 : Hid (L'.length = m.length + 1 ∧ W16 L' ∧ le L' = 2 * (le a / 2 ^ (t + 1) % le m) + bitOf a t) := by
            have h := SH.out
            rw [hqK, ← HBV.out] at h
            exact HP.out.shift HWM.out HM.out h
          have hqK' : q = K := by have := HLK.out; omega
          clear hqK SH
          subst hqK'
          have hL'K : L'.length = q := by rw [S3.out.1, HB.out, HK.out]
          have c1 := less_calls (some ⟨g0, 0, none⟩) B L' m q k c' d wr hown.rd (hrb.below hb) hL'K HB.out S3.out.2.1 HWM.out (by omega) (by omega)
          have HL' := Lib.hid hL'K
          clear hL'K
          cases hless : LessB L' m with
          | true =>
            rw [hless] at c1
            have HP2 : Hid (MdInv a m t L') := MdInv.keep HM.out S3.out hless
            clear hless S3
            go_wp2_with (first | ((with_reducible refine c1.mono ?_); rintro e w' ⟨rfl, rfl⟩))
            go_roundw
            case rel => exact ⟨t, _, c', L', by omega, rfl, rfl, hown, hb, HP2⟩
            case measure => simp [intOf]
          | false =>
            rw [hless] at c1
            have hle : le m ≤ le L' := Nat.not_lt.1 (of_decide_eq_false hless)
            have c2 := minus_calls (some ⟨g0, 0, none⟩) B L' m q k c' d wr hown.rd (hrb.below hb) HL'.out HB.out S3.out.2.1 HWM.out (by omega) hle
            have HS := Lib.hid hless
            clear hless hle
            go_wp2_with (first | ((with_reducible refine c1.mono ?_); rintro e w' ⟨rfl, rfl⟩) | ((with_reducible refine c2.mono ?_); rintro e w' ⟨A2, c2', out, rfl, hown2, hb2, hw2, hl2, hle2⟩))
            have HP2 : Hid (MdInv a m t out) := MdInv.less HM.out S3.out HS.out ⟨hw2, by rw [hl2, HK.out.symm, HB.out], hle2⟩
            have hbs := hb.size
            have hb3 : Below w.heap.size w w' := hb.trans (hb2.mono hbs)
            have hown3 : Own w' w.heap.size 43 A2 q c2' (nums .u32 out) := hown2.from_ hbs
            go_roundw
            case rel => exact ⟨t, A2, c2', out, by omega, rfl, rfl, hown3, hb3, HP2⟩
            case measure => simp [intOf]

end Go.Proofs.YtdconlmpjehohaaDoor
