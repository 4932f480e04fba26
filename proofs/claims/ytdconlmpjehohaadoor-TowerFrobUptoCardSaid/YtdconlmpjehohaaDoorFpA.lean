/- Package fp: the walks of reduce, less. Conditions: those of each theorem. -/
import Derived.Test.YtdconlmpjehohaaDoorFpN
import Derived.Test.YtdconlmpjehohaaDoorBasf
import Derived.Outline
import Derived.StillTailTactics
import Derived.Deep.QuietTactic
import Derived.BigQuiet
namespace Go.Proofs.YtdconlmpjehohaaDoor
open Go.RowKit
set_option linter.unusedVariables false

theorem sub_ex (x y b : Int) (hx : 0 ≤ x) (hx' : x < 18446744073709551616) (hy : 0 ≤ y) (hy' : y < 18446744073709551616) (hb : 0 ≤ b) (hb' : b ≤ 1) :
    ∃ s k : Nat, (∀ W : World, (callFunc 66 #[.int .u64 x, .int .u64 y, .int .u64 b]).run Tryd.prog W = .ok (.value (.tuple #[.int .u64 s, .int .u64 k])) W) ∧ s < 18446744073709551616 ∧ k ≤ 1 ∧ Hid ((s : Int) + y + b = x + k * 18446744073709551616) := by
  obtain ⟨p, rfl⟩ := Int.eq_ofNat_of_zero_le hx
  obtain ⟨q, rfl⟩ := Int.eq_ofNat_of_zero_le hy
  obtain ⟨r, rfl⟩ := Int.eq_ofNat_of_zero_le hb
  refine ⟨_, _, fun W => callFunc_sub64 p q r (by omega) W, by omega, by split <;> omega, ?_⟩
  show _ = _
  split <;> omega
theorem add_ex (x y b : Int) (hx : 0 ≤ x) (hx' : x < 18446744073709551616) (hy : 0 ≤ y) (hy' : y < 18446744073709551616) (hb : 0 ≤ b) (hb' : b ≤ 1) :
    ∃ s k : Nat, (∀ W : World, (callFunc 64 #[.int .u64 x, .int .u64 y, .int .u64 b]).run Tryd.prog W = .ok (.value (.tuple #[.int .u64 s, .int .u64 k])) W) ∧ s < 18446744073709551616 ∧ k ≤ 1 ∧ Hid ((s : Int) + k * 18446744073709551616 = x + y + b) := by
  refine ⟨((x + y + b) % 18446744073709551616).toNat, ((x + y + b) / 18446744073709551616).toNat, fun W => ?_, by omega, by omega, ?_⟩
  · rw [callFunc_add64 x y b hx hy hb hb' W]
    have e1 : (((x + y + b) % 18446744073709551616).toNat : Int) = (x + y + b) % 18446744073709551616 := by omega
    have e2 : (((x + y + b) / 18446744073709551616).toNat : Int) = (x + y + b) / 18446744073709551616 := by omega
    rw [e1, e2]
  · show _ = _
    omega


/-- the tables in memory -/
def FpTab (w : World) : Prop := 1 < w.heap.size ∧ 0 < w.heap.size ∧
  w.cell? ⟨1, 0, none⟩ = some (.int .u64 13402431016077863595) ∧ w.cell? ⟨1, 1, none⟩ = some (.int .u64 2210141511517208575) ∧ w.cell? ⟨1, 2, none⟩ = some (.int .u64 7435674573564081700) ∧ w.cell? ⟨1, 3, none⟩ = some (.int .u64 7239337960414712511) ∧ w.cell? ⟨1, 4, none⟩ = some (.int .u64 5412103778470702295) ∧ w.cell? ⟨1, 5, none⟩ = some (.int .u64 1873798617647539866) ∧
  w.cell? ⟨0, 0, none⟩ = some (.int .u64 17644856173732828998) ∧ w.cell? ⟨0, 1, none⟩ = some (.int .u64 754043588434789617) ∧ w.cell? ⟨0, 2, none⟩ = some (.int .u64 10224657059481499349) ∧ w.cell? ⟨0, 3, none⟩ = some (.int .u64 7488229067341005760) ∧ w.cell? ⟨0, 4, none⟩ = some (.int .u64 11130996698012816685) ∧ w.cell? ⟨0, 5, none⟩ = some (.int .u64 1267921511277847466)

theorem FpTab.below {w w' : World} (h : FpTab w) (hb : Below w.heap.size w w') : FpTab w' := by
  obtain ⟨h1, h2, a0, a1, a2, a3, a4, a5, b0, b1, b2, b3, b4, b5⟩ := h
  have hs := hb.size
  exact ⟨by omega, by omega, (hb.cell h1).trans a0, (hb.cell h1).trans a1, (hb.cell h1).trans a2, (hb.cell h1).trans a3, (hb.cell h1).trans a4, (hb.cell h1).trans a5, (hb.cell h2).trans b0, (hb.cell h2).trans b1, (hb.cell h2).trans b2, (hb.cell h2).trans b3, (hb.cell h2).trans b4, (hb.cell h2).trans b5⟩

set_option maxHeartbeats 4000000 in
set_option maxRecDepth 100000 in
theorem fp_reduce_calls (n : Nat) (w : World) (ht : FpTab w) (hn : n < 2 * fpQ) :
    Calls Tryd.prog 65 #[fpV n, .int .u64 0] w fun e w' => e = .returned (fpV (n % fpQ)) ∧ Below w.heap.size w w' := by
  have hn2 : n < 39402006196394479212279040100143613805079739270465446667948293404245721771497210611414266254884915640806627990306816 := by unfold fpQ at hn; omega
  obtain ⟨v0, v1, v2, v3, v4, v5, h0, h1, h2, h3, h4, h5, rfl, hv⟩ := fpV_ex n hn2
  rw [hv]
  clear hv hn2 ht
  obtain ⟨w0, b1, c0, d0, e0, H0⟩ := sub_ex v0 13402431016077863595 0 (by omega) (by omega) (by omega) (by omega) (by omega) (by omega)
  obtain ⟨w1, b2, c1, d1, e1, H1⟩ := sub_ex v1 2210141511517208575 b1 (by omega) (by omega) (by omega) (by omega) (by omega) (by omega)
  obtain ⟨w2, b3, c2, d2, e2, H2⟩ := sub_ex v2 7435674573564081700 b2 (by omega) (by omega) (by omega) (by omega) (by omega) (by omega)
  obtain ⟨w3, b4, c3, d3, e3, H3⟩ := sub_ex v3 7239337960414712511 b3 (by omega) (by omega) (by omega) (by omega) (by omega) (by omega)
  obtain ⟨w4, b5, c4, d4, e4, H4⟩ := sub_ex v4 5412103778470702295 b4 (by omega) (by omega) (by omega) (by omega) (by omega) (by omega)
  obtain ⟨w5, b6, c5, d5, e5, H5⟩ := sub_ex v5 1873798617647539866 b5 (by omega) (by omega) (by omega) (by omega) (by omega) (by omega)
  obtain ⟨hr1, hr0⟩ := fp_red h0 h1 h2 h3 h4 h5 d0 d1 d2 d3 d4 d5 H0.out H1.out H2.out H3.out H4.out H5.out (by omega) hn
  have HR1 := Lib.hid hr1
  have HR0 := Lib.hid hr0
  clear hr1 hr0 H0 H1 H2 H3 H4 H5 hn
  have hb4 : b6 = 0 ∨ b6 = 1 := by omega
  rcases hb4 with rfl | rfl
  · rw [← HR0.out rfl, fpV_num d0 d1 d2 d3 d4 d5]
    go_enter Tryd.func65, Tryd.ntmps65
    go_wp2
    exact bodyPost_ret (v := .agg #[.int .u64 w0, .int .u64 w1, .int .u64 w2, .int .u64 w3, .int .u64 w4, .int .u64 w5]) (by simp [results, Tryd.results65, go_sem]) rfl ⟨rfl, (by repeat (first | exact Below.refl _ _ | refine Below.drew ?_ | refine below_drewN ?_ _ | refine Below.alloc ?_ (by simp <;> omega) _))⟩
  · rw [← HR1.out rfl, fpV_num h0 h1 h2 h3 h4 h5]
    go_enter Tryd.func65, Tryd.ntmps65
    go_wp2
    exact bodyPost_ret (v := .agg #[.int .u64 v0, .int .u64 v1, .int .u64 v2, .int .u64 v3, .int .u64 v4, .int .u64 v5]) (by simp [results, Tryd.results65, go_sem]) rfl ⟨rfl, (by repeat (first | exact Below.refl _ _ | refine Below.drew ?_ | refine below_drewN ?_ _ | refine Below.alloc ?_ (by simp <;> omega) _))⟩

set_option maxHeartbeats 4000000 in
set_option maxRecDepth 100000 in
theorem fp_less_calls (n : Nat) (w : World) (ht : FpTab w) (hn2 : n < 39402006196394479212279040100143613805079739270465446667948293404245721771497210611414266254884915640806627990306816) :
    Calls Tryd.prog 68 #[fpV n] w fun e w' => e = .returned (.bool (decide (n < fpQ))) ∧ Below w.heap.size w w' := by
  obtain ⟨v0, v1, v2, v3, v4, v5, h0, h1, h2, h3, h4, h5, rfl, hv⟩ := fpV_ex n hn2
  rw [hv]
  clear hv
  obtain ⟨g1, _, q0, q1, q2, q3, q4, q5, _⟩ := ht
  obtain ⟨w0, b1, c0, d0, e0, H0⟩ := sub_ex v0 13402431016077863595 0 (by omega) (by omega) (by omega) (by omega) (by omega) (by omega)
  obtain ⟨w1, b2, c1, d1, e1, H1⟩ := sub_ex v1 2210141511517208575 b1 (by omega) (by omega) (by omega) (by omega) (by omega) (by omega)
  obtain ⟨w2, b3, c2, d2, e2, H2⟩ := sub_ex v2 7435674573564081700 b2 (by omega) (by omega) (by omega) (by omega) (by omega) (by omega)
  obtain ⟨w3, b4, c3, d3, e3, H3⟩ := sub_ex v3 7239337960414712511 b3 (by omega) (by omega) (by omega) (by omega) (by omega) (by omega)
  obtain ⟨w4, b5, c4, d4, e4, H4⟩ := sub_ex v4 5412103778470702295 b4 (by omega) (by omega) (by omega) (by omega) (by omega) (by omega)
  obtain ⟨w5, b6, c5, d5, e5, H5⟩ := sub_ex v5 1873798617647539866 b5 (by omega) (by omega) (by omega) (by omega) (by omega) (by omega)
  have hlt : (b6 == 1) = decide (fpNum v0 v1 v2 v3 v4 v5 < fpQ) := by
    have := fp_lt h0 h1 h2 h3 h4 h5 d0 d1 d2 d3 d4 d5 H0.out H1.out H2.out H3.out H4.out H5.out (by omega)
    by_cases hc : fpNum v0 v1 v2 v3 v4 v5 < fpQ
    · rw [decide_eq_true hc]; simp; omega
    · rw [decide_eq_false hc]; simp; omega
  rw [← hlt]
  clear hlt H0 H1 H2 H3 H4 H5
  have hb4 : b6 = 0 ∨ b6 = 1 := by omega
  rcases hb4 with rfl | rfl
  · go_enter Tryd.func68, Tryd.ntmps68
    go_wp2
    refine wp_loop_rounds 7 ?_
    rw [rounds_succ]
    go_wp2
    go_region
    go_wp2
    rw [rounds_succ]
    go_wp2
    go_region
    go_wp2
    rw [rounds_succ]
    go_wp2
    go_region
    go_wp2
    rw [rounds_succ]
    go_wp2
    go_region
    go_wp2
    rw [rounds_succ]
    go_wp2
    go_region
    go_wp2
    rw [rounds_succ]
    go_wp2
    go_region
    go_wp2
    rw [rounds_succ]
    go_wp2_with fail
    go_ret
    exact ⟨rfl, (by repeat (first | exact Below.refl _ _ | refine Below.drew ?_ | refine below_drewN ?_ _ | refine Below.alloc ?_ (by simp <;> omega) _))⟩
  · go_enter Tryd.func68, Tryd.ntmps68
    go_wp2
    refine wp_loop_rounds 7 ?_
    rw [rounds_succ]
    go_wp2
    go_region
    go_wp2
    rw [rounds_succ]
    go_wp2
    go_region
    go_wp2
    rw [rounds_succ]
    go_wp2
    go_region
    go_wp2
    rw [rounds_succ]
    go_wp2
    go_region
    go_wp2
    rw [rounds_succ]
    go_wp2
    go_region
    go_wp2
    rw [rounds_succ]
    go_wp2
    go_region
    go_wp2
    rw [rounds_succ]
    go_wp2_with fail
    go_ret
    exact ⟨rfl, (by repeat (first | exact Below.refl _ _ | refine Below.drew ?_ | refine below_drewN ?_ _ | refine Below.alloc ?_ (by simp <;> omega) _))⟩

end Go.Proofs.YtdconlmpjehohaaDoor
