/- The reference's numbers: Times. Conditions: those of each theorem. -/
import Derived.Test.YtdconlmpjehohaaDoorRefG
namespace Go.Proofs.YtdconlmpjehohaaDoor
open Go.RowKit
set_option linter.unusedVariables false

theorem TmInv.get {a b L : List Nat} {i j c : Nat} (h : TmInv a b i j L c) {q : Nat} (hq : q < a.length + b.length + 1) : q < L.length := by rw [h.1]; exact hq

set_option maxHeartbeats 1000000 in
theorem times_calls (A B : Option Addr) (a b : List Nat) (n m c d : Nat) (w : World) (hra : Rd w A (nums .u32 a)) (hrb : Rd w B (nums .u32 b)) (hna : a.length = n) (hnb : b.length = m) (ha : W16 a) (hb : W16 b) (h1 : n ≤ 1073741824) (h2 : m ≤ 1073741824) :
    Calls Tryd.prog 77 #[.slice A n c, .slice B m d] w fun e w' => ∃ A' c' out, e = .returned (.slice A' (n + m + 1) c') ∧ Own w' w.heap.size 43 A' (n + m + 1) c' (nums .u32 out) ∧ Below w.heap.size w w' ∧ W16 out ∧ out.length = n + m + 1 ∧ le out = le a * le b := by
  obtain ⟨i0, hi0, hz0, hz1, hz2⟩ := info_parts u32_info
  have P0 : Hid (TmInv a b 0 0 (List.replicate (n + m + 1) 0) 0) := by have := TmInv.start a b; rw [hna, hnb] at this; exact this
  have HA := Lib.hid hna
  have HB := Lib.hid hnb
  clear hna hnb
  have HWA := Lib.hid ha
  have HWB := Lib.hid hb
  clear ha hb
  have w2 := fun (i : Nat) (W : World) (hw : Below w.heap.size w W) => word_calls B b m d i W (hrb.below hw) HB.out
  have W2 := Lib.hid w2
  clear w2 hrb
  obtain ⟨K, hK⟩ : ∃ K : Nat, n + m + 1 = K := ⟨_, rfl⟩
  rw [hK] at P0 ⊢
  have q1 : i0.bytes * K ≤ 281474976710656 := by rw [hz2]; omega
  have q2 : K ≤ maxLen := by simp only [maxLen]; omega
  have hKI : ((n : Int) + m + 1) = (K : Int) := by omega
  have hK1 : K ≤ 2147483649 := by omega
  have HK := Lib.hid hK
  clear hK
  go_enter Tryd.func77, Tryd.ntmps77
  go_wp2_with (at_make; refine wpList_make_full _ rfl _ _ 26 rfl w.heap.size 43 i0 _ 1 Tryd.underlying26 hi0 hz0 hz1 .i64 .i64 _ _ K rfl rfl rfl rfl q1 q2 (Nat.le_refl _) ?_; intro w1 hown hgr)
  rw [made_nums] at hown
  have hb0 : Below w.heap.size w w1 := (Below.refl _ _).grown hgr (Nat.le_refl _) (by simp)
  clear hi0 hz0 hz1 hz2 q1 q2 hKI hgr
  go_loopw [19] (fun iv wr => ∃ (i : Nat) (L : List Nat), i ≤ n ∧ iv = .int .i64 i ∧ Own wr w.heap.size 43 (some ⟨w.heap.size, 0, none⟩) K K (nums .u32 L) ∧ Below w.heap.size w wr ∧ Hid (TmInv a b i 0 L 0)) (fun iv _ => n - (intOf iv).toNat)
  case atStart => exact ⟨0, _, Nat.zero_le _, rfl, hown, hb0, P0⟩
  case round =>
    clear P0 hown hb0
    obtain ⟨i, L, hi, rfl, hown, hb, HP⟩ := hrel
    by_cases hin : i < n
    · go_wp2_with fail
      go_loopw [7, 8] (fun cc jv wi => ∃ (j cr : Nat) (L' : List Nat), j ≤ m + 1 ∧ jv = .int .i64 j ∧ cc = .int .u64 cr ∧ cr < 65536 ∧ Own wi w.heap.size 43 (some ⟨w.heap.size, 0, none⟩) K K (nums .u32 L') ∧ Below w.heap.size w wi ∧ Hid (TmInv a b i j L' cr)) (fun _ jv _ => m + 1 - (intOf jv).toNat)
      case atStart => exact ⟨0, 0, L, Nat.zero_le _, rfl, rfl, by omega, hown, hb, HP⟩
      case round =>
        clear HP hown hb
        obtain ⟨j, cr, L', hj, rfl, rfl, hcr, hown, hb, HP⟩ := hrel
        by_cases hlt : j ≤ m
        · have hija : i < a.length := by have := HA.out; omega
          obtain ⟨bb, oo, rfl, hbl, hcell⟩ := (hra.below hb).num hija
          have hqL : i + j < L'.length := HP.out.get (by have := HA.out; have := HB.out; omega)
          have hce := hown.cellNum (i + j) hqL
          have hfr := hown.free (i + j)
          have hst := fun u => hown.storeNum (i + j) u
          have c2 := fun j' : Nat => (W2.out j (wr.drewN j') (below_drewN hb j')).mono (R' := fun e w' => e = .returned (.int .u32 ((b.getD j 0 : Nat) : Int)) ∧ w' = wr.drewN j') fun e w' h => ⟨h.1, h.2.symm⟩
          have SH0 := HP.out.step HWA.out HWB.out (by have := HA.out; have := HB.out; omega)
          have lx := getD_lt HP.out.2.1 (i + j)
          have la := getD_lt HWA.out i
          have lb := getD_lt HWB.out j
          rw [getD_get hqL] at SH0 lx
          rw [getD_get hija] at SH0 la
          have SH := Lib.hid SH0
          clear SH0
          obtain ⟨x, hx⟩ : ∃ x, L'[i + j] = x := ⟨_, rfl⟩
          obtain ⟨y, hy⟩ : ∃ y, a[i] = y := ⟨_, rfl⟩
          obtain ⟨z, hz⟩ : ∃ z, b.getD j 0 = z := ⟨_, rfl⟩
          rw [hx] at SH hce lx
          rw [hy] at SH hcell la
          rw [hz] at SH c2 lb
          have hp : y * z ≤ 65535 * 65535 := Nat.mul_le_mul (by omega) (by omega)
          obtain ⟨p, hpe⟩ : ∃ p, y * z = p := ⟨_, rfl⟩
          rw [hpe] at SH hp
          have hpI : (y : Int) * z = (p : Int) := by rw [← hpe]; simp
          have hand : bits BinOp.and IntKind.u64 ((x + p + cr : Nat) : Int) 65535 = (((x + p + cr) % 65536 : Nat) : Int) := by
            have h := u64_and_nat (x + p + cr) 65535 (by omega) (by omega)
            rw [show (65535 : Nat) = 2 ^ 16 - 1 from rfl, Nat.and_two_pow_sub_one_eq_mod] at h
            exact h
          obtain ⟨v, hv⟩ : ∃ v, x + p + cr = v := ⟨_, rfl⟩
          rw [hv] at SH hand
          have hvI : (x : Int) + p + cr = (v : Int) := by omega
          obtain ⟨r, hr⟩ : ∃ r, v % 65536 = r := ⟨_, rfl⟩
          obtain ⟨u, hu⟩ : ∃ u, v / 65536 = u := ⟨_, rfl⟩
          rw [hr] at SH hand
          rw [hu] at SH
          have huI : (v : Int) / 65536 = (u : Int) := by omega
          have hu1 : u < 65536 := by omega
          have hvl : v < 4294967296 := by omega
          have hijI : (i : Int) + j < K := by have := HK.out; omega
          have hrl : r < 65536 := by omega
          obtain ⟨q, hq⟩ : ∃ q, i + j = q := ⟨_, rfl⟩
          rw [hq] at hce hfr SH
          have hqL2 : q < L'.length := by omega
          have hqI : (i : Int) + j = (q : Int) := by omega
          have hqK : (q : Int) < K := by omega
          have hiI : (i : Int) < n := by omega
          have s1 : IntKind.u64.wrap ((y : Int) * z) = (p : Int) := by rw [hpI, IntKind.wrap_u64]; omega
          have s2 : IntKind.u64.wrap ((x : Int) + p) = (x : Int) + p := by rw [IntKind.wrap_u64]; omega
          have s3 : IntKind.u64.wrap ((x : Int) + p + cr) = (v : Int) := by rw [IntKind.wrap_u64]; omega
          have s4 : IntKind.u64.wrap (x : Int) = (x : Int) := by rw [IntKind.wrap_u64]; omega
          have s5 : IntKind.u64.wrap (y : Int) = (y : Int) := by rw [IntKind.wrap_u64]; omega
          have s6 : IntKind.u64.wrap (z : Int) = (z : Int) := by rw [IntKind.wrap_u64]; omega
          clear hst hx hy hz hpe hv hr hu HP hqL hq hpI hvI
          go_wp2_with fail
          go_quiet ((go_at_call 78; exact Calls.quiet_of_same (c2 _)))
          clear s1 s2 s3 s4 s5 s6 c2 hcell hce hfr
          have hownq : Own (wr.drewN nq) w.heap.size 43 (some ⟨w.heap.size, 0, none⟩) K K (nums .u32 L') := hown.keep fun _ _ => rfl
          have hbq : Below w.heap.size w (wr.drewN nq) := below_drewN hb nq
          generalize wr.drewN nq = wq at *
          clear hown hb
          have hce := hownq.cellNum q hqL2
          have hfr := hownq.free q
          have hst2 := hownq.storeNum q r
          have hb' := hbq.setCell (p := ⟨w.heap.size, q, none⟩) (Nat.le_refl _) (.int .u32 (r : Int))
          go_wp2_with fail
          go_roundw
          case rel => exact ⟨j + 1, u, _, by omega, by go_num, rfl, hu1, hst2, hb', SH⟩
          case measure => simp [intOf]; omega
        · have hjm : j = b.length + 1 := by have := HB.out; omega
          have HR : Hid (TmInv a b (i + 1) 0 L' 0) := by
            have h := HP.out
            rw [hjm] at h
            exact h.row HWA.out HWB.out
          have hjm' : j = m + 1 := by have := HB.out; omega
          clear hjm HP
          subst hjm'
          go_wp2_with fail
          go_roundw
          case rel => exact ⟨i + 1, L', by omega, by go_num, hown, hb, HR⟩
          case measure => simp [intOf]; omega
    · have hia : i = a.length := by have := HA.out; omega
      have HQ := HP.out
      rw [hia] at HQ
      have HQ := Lib.hid HQ
      have hin' : i = n := by omega
      clear hia HP
      subst hin'
      go_wp2
      go_ret
      obtain ⟨g1, g2, g3⟩ := HQ.out.done
      exact ⟨_, _, L, rfl, hown, hb, g1, by rw [g2, HA.out, HB.out, HK.out], g3 rfl⟩

end Go.Proofs.YtdconlmpjehohaaDoor
