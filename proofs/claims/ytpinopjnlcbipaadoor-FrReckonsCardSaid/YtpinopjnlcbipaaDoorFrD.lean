/- Package fr: elements as numbers: Zero, power, Inv. Conditions: those of each theorem. -/
import Derived.Test.YtpinopjnlcbipaaDoorFrC
import Derived.Test.YtpinopjnlcbipaaDoorGpfr
import Derived.Laws.StructEq
import Derived.Laws.Tables
import Derived.Laws.Cover2
namespace Go.Proofs.YtpinopjnlcbipaaDoor
open Go.RowKit
set_option linter.unusedVariables false

/-- two arrays of four words are compared -/
theorem fr_eql (a b c d e f g h : Int) (w : World) : (Op.equalIn 9999 25 (.agg #[.int .u64 a, .int .u64 b, .int .u64 c, .int .u64 d]) (.agg #[.int .u64 e, .int .u64 f, .int .u64 g, .int .u64 h])).run Tryd.prog w = .ok (a == e && (b == f && (c == g && d == h))) w := by
  have u3 := Tryd.underlying24
  have a3 := Tryd.isAgg24
  have z3 := Tryd.sizeOf24
  rw [show (9999 : Nat) = 9998 + 1 from rfl, Op.equalIn]
  simp only [Sem.run_bind, run_underlying Tryd.underlying25, Result.andThen_ok]
  simp only [Std.Legacy.Range.forIn_eq_forIn_range', Std.Legacy.Range.size, Nat.sub_zero, Nat.add_sub_cancel, Nat.div_one, List.range'_succ, List.range'_zero, List.forIn_cons, List.forIn_nil]
  go_simp
  by_cases h1 : a = e <;> by_cases h2 : b = f <;> by_cases h3 : c = g <;> by_cases h4 : d = h <;> simp [h1, h2, h3, h4]

/-- two elements are compared -/
theorem fr_eqE (a b : Nat) {x0 x1 x2 x3 y0 y1 y2 y3 : Nat} (hx : frV (a * frR % frQ) = .agg #[.int .u64 x0, .int .u64 x1, .int .u64 x2, .int .u64 x3]) (hy : frV (b * frR % frQ) = .agg #[.int .u64 y0, .int .u64 y1, .int .u64 y2, .int .u64 y3]) (w : World) :
    (Op.equalIn 9999 25 (.agg #[.int .u64 x0, .int .u64 x1, .int .u64 x2, .int .u64 x3]) (.agg #[.int .u64 y0, .int .u64 y1, .int .u64 y2, .int .u64 y3])).run Tryd.prog w = .ok (decide (a % frQ = b % frQ)) w := by
  rw [fr_eql]
  have hiff : (a % frQ = b % frQ) ↔ x0 = y0 ∧ x1 = y1 ∧ x2 = y2 ∧ x3 = y3 := by
    rw [← frE_inj]
    unfold frE
    rw [hx, hy]
    simp
    omega
  congr 1
  rw [Bool.eq_iff_iff]
  simp only [Bool.and_eq_true, beq_iff_eq, decide_eq_true_eq, hiff]
  omega

set_option maxHeartbeats 1000000 in
set_option maxRecDepth 100000 in
theorem fr_zero_calls (a : Nat) (w : World) :
    Calls Tryd.prog 23 #[frE a] w fun e w' => e = .returned (.bool (decide (a % frQ = 0))) ∧ Below w.heap.size w w' := by
  obtain ⟨x0, x1, x2, x3, hx⟩ := frV_agg (a * frR % frQ) (frE_lt a)
  have heq : ∀ W, (Op.equalIn 9999 25 (.agg #[.int .u64 x0, .int .u64 x1, .int .u64 x2, .int .u64 x3]) (.agg #[.int .u64 0, .int .u64 0, .int .u64 0, .int .u64 0])).run Tryd.prog W = .ok (decide (a % frQ = 0)) W := fr_eqE a 0 hx frE_zero
  unfold frE
  rw [hx]
  clear hx
  go_enter Tryd.func23, Tryd.ntmps23
  go_wp2_with fail
  all_goals go_ret
  all_goals exact ⟨by simp_all, (by repeat (first | exact Below.refl _ _ | refine Below.drew ?_ | refine below_drewN ?_ _ | refine Below.alloc ?_ (by simp <;> omega) _))⟩

theorem bit_low (v u r : Nat) (hr : r < 64) : (v + 18446744073709551616 * u) / 2 ^ r % 2 = v / 2 ^ r % 2 := by
  have e : (18446744073709551616 : Nat) = 2 ^ r * (2 * 2 ^ (63 - r)) := by
    rw [← Nat.mul_assoc, Nat.mul_comm (2 ^ r) 2, Nat.mul_assoc, ← Nat.pow_add, ← Nat.pow_succ', show (r + (63 - r)).succ = 64 by omega]
  rw [e, Nat.mul_assoc, Nat.add_mul_div_left _ _ (Nat.two_pow_pos r), Nat.mul_assoc, Nat.add_mul_mod_self_left]

/-- the word in which a bit lies -/
theorem fr_word {e0 e1 e2 e3 i : Nat} (l0 : e0 < 18446744073709551616) (l1 : e1 < 18446744073709551616) (l2 : e2 < 18446744073709551616) (l3 : e3 < 18446744073709551616) (hi : i < 256) :
    ∃ v : Nat, (#[.int .u64 e0, .int .u64 e1, .int .u64 e2, .int .u64 e3] : Array Value)[i / 64]? = some (.int .u64 v) ∧ v < 18446744073709551616 ∧ frNum e0 e1 e2 e3 / 2 ^ i % 2 = v / 2 ^ (i % 64) % 2 := by
  have hr : i % 64 < 64 := Nat.mod_lt _ (by omega)
  have hs : i / 64 = 0 ∨ i / 64 = 1 ∨ i / 64 = 2 ∨ i / 64 = 3 := by omega
  generalize hre : i % 64 = r at *
  rcases hs with h | h | h | h
  · refine ⟨e0, by rw [h]; rfl, l0, ?_⟩
    rw [show i = r by omega, ← bit_low e0 (e1 + e2 * 18446744073709551616 + e3 * 340282366920938463463374607431768211456) r hr]
    congr 2; unfold frNum; omega
  · refine ⟨e1, by rw [h]; rfl, l1, ?_⟩
    rw [show i = 64 + r by omega, Nat.pow_add, ← Nat.div_div_eq_div_mul, ← bit_low e1 (e2 + e3 * 18446744073709551616) r hr]
    congr 2; unfold frNum; omega
  · refine ⟨e2, by rw [h]; rfl, l2, ?_⟩
    rw [show i = 128 + r by omega, Nat.pow_add, ← Nat.div_div_eq_div_mul, ← bit_low e2 e3 r hr]
    congr 2; unfold frNum; omega
  · refine ⟨e3, by rw [h]; rfl, l3, ?_⟩
    rw [show i = 192 + r by omega, Nat.pow_add, ← Nat.div_div_eq_div_mul]
    congr 2; unfold frNum; omega

theorem fr_bit (v r : Nat) (hvb : v < 18446744073709551616) : bits BinOp.and IntKind.u64 ((v : Int) / 2 ^ r) 1 = ((v / 2 ^ r % 2 : Nat) : Int) := by
  have h := u64_and_nat (v / 2 ^ r) 1 (Nat.lt_of_le_of_lt (Nat.div_le_self _ _) hvb) (by omega)
  rw [Nat.and_one_is_mod] at h
  rw [← h, Int.natCast_ediv, Int.natCast_pow]
  rfl

theorem fr_half (n i : Nat) : n / 2 ^ i = n / 2 ^ (i + 1) + n / 2 ^ (i + 1) + n / 2 ^ i % 2 := by
  rw [Nat.pow_succ, ← Nat.div_div_eq_div_mul]; omega

set_option maxHeartbeats 1000000 in
set_option maxRecDepth 100000 in
theorem fr_power_calls (a n : Nat) (w : World) (ht : FrTab w) (hn : n < 115792089237316195423570985008687907853269984665640564039457584007913129639936) :
    Calls Tryd.prog 41 #[frE a, frV n] w fun e w' => e = .returned (frE (a ^ n)) ∧ Below w.heap.size w w' := by
  obtain ⟨x0, x1, x2, x3, hx⟩ := frV_agg (a * frR % frQ) (frE_lt a)
  obtain ⟨e0, e1, e2, e3, l0, l1, l2, l3, rfl, he⟩ := frV_ex n hn
  obtain ⟨o0, o1, o2, o3, ho⟩ := frV_agg (1 * frR % frQ) (frE_lt 1)
  have HO := fun W hW => fr_of_calls 1 W hW (by omega)
  have HT := Lib.hid ht
  rw [show frE 1 = _ from ho] at HO
  rw [show frE a = _ from hx, he]
  have HO := Lib.hid HO
  have HX := Lib.hid hx
  have HE := Lib.hid he
  have HON := Lib.hid ho
  clear hx he ht ho
  go_enter Tryd.func41, Tryd.ntmps41
  go_wp2_with fail
  refine (HO.out _ (HT.out.below (by repeat (first | exact Below.refl _ _ | refine Below.drew ?_ | refine below_drewN ?_ _ | refine Below.alloc ?_ (by simp <;> omega) _)))).mono ?_
  rintro e xw ⟨he, hb1⟩
  subst he
  go_wp2_with fail
  have px := (Bk.new1 w 27 #[.int .u64 x0, .int .u64 x1, .int .u64 x2, .int .u64 x3] (n := w.heap.size) rfl).alloc (.cells #[.int .u64 e0, .int .u64 e1, .int .u64 e2, .int .u64 e3] 25)
  have pe := (Bk.new1 (w.alloc (.cells #[.int .u64 x0, .int .u64 x1, .int .u64 x2, .int .u64 x3] 27)) 25 #[.int .u64 e0, .int .u64 e1, .int .u64 e2, .int .u64 e3] (n := w.heap.size + 1) (by simp)).alloc (.cells #[.int .u64 0, .int .u64 0, .int .u64 0, .int .u64 0] 27)
  have px := px.alloc (.cells #[.int .u64 0, .int .u64 0, .int .u64 0, .int .u64 0] 27)
  have pz := (Bk.new1 ((w.alloc (.cells #[.int .u64 x0, .int .u64 x1, .int .u64 x2, .int .u64 x3] 27)).alloc (.cells #[.int .u64 e0, .int .u64 e1, .int .u64 e2, .int .u64 e3] 25)) 27 #[.int .u64 0, .int .u64 0, .int .u64 0, .int .u64 0] (n := w.heap.size + 1 + 1) (by simp))
  have hsz := hb1.size
  have hb := (show Below w.heap.size w _ from (by repeat (first | exact Below.refl _ _ | refine Below.drew ?_ | refine below_drewN ?_ _ | refine Below.alloc ?_ (by simp <;> omega) _))).trans (hb1.mono (by simp <;> omega))
  have px := (px.under hb1).alloc (.cells #[.int .u64 o0, .int .u64 o1, .int .u64 o2, .int .u64 o3] 27)
  have pe := (pe.under hb1).alloc (.cells #[.int .u64 o0, .int .u64 o1, .int .u64 o2, .int .u64 o3] 27)
  have pz := (pz.under hb1).alloc (.cells #[.int .u64 o0, .int .u64 o1, .int .u64 o2, .int .u64 o3] 27)
  have py := (Bk.new xw 27 #[.int .u64 o0, .int .u64 o1, .int .u64 o2, .int .u64 o3])
  have hb := hb.alloc hb.size (.cells #[.int .u64 o0, .int .u64 o1, .int .u64 o2, .int .u64 o3] 27)
  simp only [World.size_alloc] at hsz
  clear hb1
  generalize xw.heap.size = Y at *
  go_loopw [6] (fun i wr => ∃ (k : Int) (y0 y1 y2 y3 : Nat), -1 ≤ k ∧ k ≤ 255 ∧ i = .int .i64 k ∧ Hid (frV (a ^ (frNum e0 e1 e2 e3 / 2 ^ (k + 1).toNat) * frR % frQ) = .agg #[.int .u64 y0, .int .u64 y1, .int .u64 y2, .int .u64 y3]) ∧ Bk wr w.heap.size 27 #[.int .u64 x0, .int .u64 x1, .int .u64 x2, .int .u64 x3] ∧ Bk wr (w.heap.size + 1) 25 #[.int .u64 e0, .int .u64 e1, .int .u64 e2, .int .u64 e3] ∧ Bk wr (w.heap.size + 1 + 1) 27 #[.int .u64 0, .int .u64 0, .int .u64 0, .int .u64 0] ∧ Bk wr Y 27 #[.int .u64 y0, .int .u64 y1, .int .u64 y2, .int .u64 y3] ∧ Below w.heap.size w wr) (fun i _ => (intOf i + 1).toNat)
  case atStart =>
    refine ⟨255, o0, o1, o2, o3, by omega, by omega, rfl, ?_, px, pe, pz, py, hb⟩
    show _ = _
    rw [show (255 + 1 : Int).toNat = 256 from rfl, show (2 : Nat) ^ 256 = 115792089237316195423570985008687907853269984665640564039457584007913129639936 by decide, Nat.div_eq_of_lt hn, Nat.pow_zero]
    exact HON.out
  case round =>
    clear px pe pz py hb
    obtain ⟨k, y0, y1, y2, y3, hk1, hk2, rfl, HY, px, pe, pz, py, hbw⟩ := hrel
    by_cases hlt : 0 ≤ k
    · obtain ⟨i, rfl⟩ := Int.eq_ofNat_of_zero_le hlt
      rw [show ((i : Int) + 1).toNat = i + 1 by omega] at HY
      obtain ⟨v, hv, hvb, hbit⟩ := fr_word l0 l1 l2 l3 (i := i) (by omega)
      have HV := Lib.hid hv
      have hand := fr_bit v (i % 64) hvb
      have hstep := fr_half (frNum e0 e1 e2 e3) i
      rw [hbit] at hstep
      have HS := fun W hW => fr_square_calls (a ^ (frNum e0 e1 e2 e3 / 2 ^ (i + 1))) W hW
      rw [← Nat.pow_add] at HS
      obtain ⟨s0, s1, s2, s3, hs⟩ := frV_agg (a ^ (frNum e0 e1 e2 e3 / 2 ^ (i + 1) + frNum e0 e1 e2 e3 / 2 ^ (i + 1)) * frR % frQ) (frE_lt _)
      have HM := fun W hW => fr_mulE (a ^ (frNum e0 e1 e2 e3 / 2 ^ (i + 1) + frNum e0 e1 e2 e3 / 2 ^ (i + 1))) a W hW
      rw [← Nat.pow_succ] at HM
      obtain ⟨t0, t1, t2, t3, ht⟩ := frV_agg (a ^ (frNum e0 e1 e2 e3 / 2 ^ (i + 1) + frNum e0 e1 e2 e3 / 2 ^ (i + 1) + 1) * frR % frQ) (frE_lt _)
      unfold frE at HS HM
      rw [HY.out, hs] at HS
      rw [hs, HX.out, ht] at HM
      have HS := Lib.hid HS
      have HM := Lib.hid HM
      have HSV := Lib.hid hs
      have HTV := Lib.hid ht
      have HST := Lib.hid hstep
      clear HY hs ht hstep hv hbit
      have m4 := fr_size
      obtain ⟨bt, hbt⟩ : ∃ b, v / 2 ^ (i % 64) % 2 = b := ⟨_, rfl⟩
      have hb2 : bt < 2 := by rw [← hbt]; exact Nat.mod_lt _ (by omega)
      rw [hbt] at HST hand
      clear hbt
      have hbt : bt = 0 ∨ bt = 1 := by omega
      clear hb2
      rcases hbt with rfl | rfl
      · rw [show ((0 : Nat) : Int) = 0 from rfl] at hand
        go_wp2_with (refine wpList_load_row rfl _ _ rfl _ rfl _ _ _ _ py Tryd.underlying27 rfl m4 ?_)
        refine (HS.out _ (HT.out.below hbw)).mono ?_
        rintro e xw2 ⟨he, hb2⟩
        subst he
        have hbw := hbw.trans (hb2.mono hbw.size)
        have px := px.under hb2
        have pe := pe.under hb2
        have pz := pz.under hb2
        have py := py.under hb2
        clear hb2
        go_wp2_with (refine wpList_store_row rfl _ _ _ rfl _ _ rfl rfl _ _ py m4 rfl (by simp [Value.oneCell']) ?_; have px := px.rowFar (g' := Y) (by omega) #[.int .u64 s0, .int .u64 s1, .int .u64 s2, .int .u64 s3]; have pe := pe.rowFar (g' := Y) (by omega) #[.int .u64 s0, .int .u64 s1, .int .u64 s2, .int .u64 s3]; have pz := pz.rowFar (g' := Y) (by omega) #[.int .u64 s0, .int .u64 s1, .int .u64 s2, .int .u64 s3]; have py := py.row #[.int .u64 s0, .int .u64 s1, .int .u64 s2, .int .u64 s3]; have hbw := below_setRow hbw (g := Y) (by omega) #[.int .u64 s0, .int .u64 s1, .int .u64 s2, .int .u64 s3]; have hcell := (pe.cell (i / 64)).trans HV.out; have hfree := pe.free (i / 64))
        go_roundw
        case rel =>
          refine ⟨(i : Int) - 1, s0, s1, s2, s3, by omega, by omega, by go_num, ?_, px, pe, pz, py, hbw⟩
          show _ = _
          rw [show ((i : Int) - 1 + 1).toNat = i by omega, HST.out, Nat.add_zero]
          exact HSV.out
        case measure => simp [intOf] <;> omega
      · rw [show ((1 : Nat) : Int) = 1 from rfl] at hand
        go_wp2_with (refine wpList_load_row rfl _ _ rfl _ rfl _ _ _ _ py Tryd.underlying27 rfl m4 ?_)
        refine (HS.out _ (HT.out.below hbw)).mono ?_
        rintro e xw2 ⟨he, hb2⟩
        subst he
        have hbw := hbw.trans (hb2.mono hbw.size)
        have px := px.under hb2
        have pe := pe.under hb2
        have pz := pz.under hb2
        have py := py.under hb2
        clear hb2
        go_wp2_with (first | (refine wpList_load_row rfl _ _ rfl _ rfl _ _ _ _ py Tryd.underlying27 rfl m4 ?_) | (refine wpList_load_row rfl _ _ rfl _ rfl _ _ _ _ px Tryd.underlying27 rfl m4 ?_) | (refine wpList_store_row rfl _ _ _ rfl _ _ rfl rfl _ _ py m4 rfl (by simp [Value.oneCell']) ?_; have px := px.rowFar (g' := Y) (by omega) #[.int .u64 s0, .int .u64 s1, .int .u64 s2, .int .u64 s3]; have pe := pe.rowFar (g' := Y) (by omega) #[.int .u64 s0, .int .u64 s1, .int .u64 s2, .int .u64 s3]; have pz := pz.rowFar (g' := Y) (by omega) #[.int .u64 s0, .int .u64 s1, .int .u64 s2, .int .u64 s3]; have py := py.row #[.int .u64 s0, .int .u64 s1, .int .u64 s2, .int .u64 s3]; have hbw := below_setRow hbw (g := Y) (by omega) #[.int .u64 s0, .int .u64 s1, .int .u64 s2, .int .u64 s3]; have hcell := (pe.cell (i / 64)).trans HV.out; have hfree := pe.free (i / 64)))
        refine (HM.out _ (HT.out.below hbw)).mono ?_
        rintro e xw3 ⟨he, hb3⟩
        subst he
        have hbw := hbw.trans (hb3.mono hbw.size)
        have px := px.under hb3
        have pe := pe.under hb3
        have pz := pz.under hb3
        have py := py.under hb3
        clear hb3
        go_wp2_with (refine wpList_store_row rfl _ _ _ rfl _ _ rfl rfl _ _ py m4 rfl (by simp [Value.oneCell']) ?_; have px := px.rowFar (g' := Y) (by omega) #[.int .u64 t0, .int .u64 t1, .int .u64 t2, .int .u64 t3]; have pe := pe.rowFar (g' := Y) (by omega) #[.int .u64 t0, .int .u64 t1, .int .u64 t2, .int .u64 t3]; have pz := pz.rowFar (g' := Y) (by omega) #[.int .u64 t0, .int .u64 t1, .int .u64 t2, .int .u64 t3]; have py := py.row #[.int .u64 t0, .int .u64 t1, .int .u64 t2, .int .u64 t3]; have hbw := below_setRow hbw (g := Y) (by omega) #[.int .u64 t0, .int .u64 t1, .int .u64 t2, .int .u64 t3])
        go_roundw
        case rel =>
          refine ⟨(i : Int) - 1, t0, t1, t2, t3, by omega, by omega, by go_num, ?_, px, pe, pz, py, hbw⟩
          show _ = _
          rw [show ((i : Int) - 1 + 1).toNat = i by omega, HST.out]
          exact HTV.out
        case measure => simp [intOf] <;> omega
    · have hk : k = -1 := by omega
      subst hk
      rw [show (-1 + 1 : Int).toNat = 0 from rfl, Nat.pow_zero, Nat.div_one] at HY
      have m4 := fr_size
      go_wp2_with (first | (refine wpList_load_row rfl _ _ rfl _ rfl _ _ _ _ py Tryd.underlying27 rfl m4 ?_) | (refine wpList_store_row rfl _ _ _ rfl _ _ rfl rfl _ _ pz m4 rfl (by simp [Value.oneCell']) ?_))
      exact bodyPost_ret (results_cell_row rfl _ _ (w.heap.size + 1 + 1) _ _ _ _ rfl (pz.row _) Tryd.underlying27 rfl m4) rfl ⟨congrArg Ending.returned HY.out.symm, below_setRow hbw (by omega) _⟩
end Go.Proofs.YtpinopjnlcbipaaDoor
