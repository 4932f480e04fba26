/- Package fr: the walks of reduce, less, Add, Sub. Conditions: those of each theorem. -/
import Derived.Test.YtpinopjnlcbipaaDoorFrN
import Derived.Test.YtpinopjnlcbipaaDoorBasf
import Derived.Outline
import Derived.StillTailTactics
import Derived.Deep.QuietTactic
import Derived.BigQuiet
namespace Go.Proofs.YtpinopjnlcbipaaDoor
open Go.RowKit
set_option linter.unusedVariables false

theorem sub_ex (x y b : Int) (hx : 0 ≤ x) (hx' : x < 18446744073709551616) (hy : 0 ≤ y) (hy' : y < 18446744073709551616) (hb : 0 ≤ b) (hb' : b ≤ 1) :
    ∃ s k : Nat, (∀ W : World, (callFunc 37 #[.int .u64 x, .int .u64 y, .int .u64 b]).run Tryd.prog W = .ok (.value (.tuple #[.int .u64 s, .int .u64 k])) W) ∧ s < 18446744073709551616 ∧ k ≤ 1 ∧ Hid ((s : Int) + y + b = x + k * 18446744073709551616) := by
  obtain ⟨p, rfl⟩ := Int.eq_ofNat_of_zero_le hx
  obtain ⟨q, rfl⟩ := Int.eq_ofNat_of_zero_le hy
  obtain ⟨r, rfl⟩ := Int.eq_ofNat_of_zero_le hb
  refine ⟨_, _, fun W => callFunc_sub64 p q r (by omega) W, by omega, by split <;> omega, ?_⟩
  show _ = _
  split <;> omega
theorem add_ex (x y b : Int) (hx : 0 ≤ x) (hx' : x < 18446744073709551616) (hy : 0 ≤ y) (hy' : y < 18446744073709551616) (hb : 0 ≤ b) (hb' : b ≤ 1) :
    ∃ s k : Nat, (∀ W : World, (callFunc 34 #[.int .u64 x, .int .u64 y, .int .u64 b]).run Tryd.prog W = .ok (.value (.tuple #[.int .u64 s, .int .u64 k])) W) ∧ s < 18446744073709551616 ∧ k ≤ 1 ∧ Hid ((s : Int) + k * 18446744073709551616 = x + y + b) := by
  refine ⟨((x + y + b) % 18446744073709551616).toNat, ((x + y + b) / 18446744073709551616).toNat, fun W => ?_, by omega, by omega, ?_⟩
  · rw [callFunc_add64 x y b hx hy hb hb' W]
    have e1 : (((x + y + b) % 18446744073709551616).toNat : Int) = (x + y + b) % 18446744073709551616 := by omega
    have e2 : (((x + y + b) / 18446744073709551616).toNat : Int) = (x + y + b) / 18446744073709551616 := by omega
    rw [e1, e2]
  · show _ = _
    omega

/-- the modulus in memory -/
def FrTab (w : World) : Prop := 1 < w.heap.size ∧ 0 < w.heap.size ∧
  w.cell? ⟨1, 0, none⟩ = some (.int .u64 18446744069414584321) ∧ w.cell? ⟨1, 1, none⟩ = some (.int .u64 6034159408538082302) ∧ w.cell? ⟨1, 2, none⟩ = some (.int .u64 3691218898639771653) ∧ w.cell? ⟨1, 3, none⟩ = some (.int .u64 8353516859464449352) ∧
  w.cell? ⟨0, 0, none⟩ = some (.int .u64 14526898881837571181) ∧ w.cell? ⟨0, 1, none⟩ = some (.int .u64 3129137299524312099) ∧ w.cell? ⟨0, 2, none⟩ = some (.int .u64 419701826671360399) ∧ w.cell? ⟨0, 3, none⟩ = some (.int .u64 524908885293268753)

theorem FrTab.below {w w' : World} (h : FrTab w) (hb : Below w.heap.size w w') : FrTab w' := by
  obtain ⟨h1, h2, a0, a1, a2, a3, b0, b1, b2, b3⟩ := h
  have hs := hb.size
  exact ⟨by omega, by omega, (hb.cell h1).trans a0, (hb.cell h1).trans a1, (hb.cell h1).trans a2, (hb.cell h1).trans a3, (hb.cell h2).trans b0, (hb.cell h2).trans b1, (hb.cell h2).trans b2, (hb.cell h2).trans b3⟩

set_option maxHeartbeats 1000000 in
set_option maxRecDepth 100000 in
theorem fr_reduce_calls (n : Nat) (w : World) (ht : FrTab w) (hn : n < 2 * frQ) :
    Calls Tryd.prog 35 #[frV n, .int .u64 0] w fun e w' => e = .returned (frV (n % frQ)) ∧ Below w.heap.size w w' := by
  have hn2 : n < 115792089237316195423570985008687907853269984665640564039457584007913129639936 := by unfold frQ at hn; omega
  obtain ⟨v0, v1, v2, v3, h0, h1, h2, h3, rfl, hv⟩ := frV_ex n hn2
  rw [hv]
  clear hv hn2
  obtain ⟨g1, _, q0, q1, q2, q3, _⟩ := ht
  obtain ⟨w0, b1, c0, d0, e0, H0⟩ := sub_ex v0 18446744069414584321 0 (by omega) (by omega) (by omega) (by omega) (by omega) (by omega)
  obtain ⟨w1, b2, c1, d1, e1, H1⟩ := sub_ex v1 6034159408538082302 b1 (by omega) (by omega) (by omega) (by omega) (by omega) (by omega)
  obtain ⟨w2, b3, c2, d2, e2, H2⟩ := sub_ex v2 3691218898639771653 b2 (by omega) (by omega) (by omega) (by omega) (by omega) (by omega)
  obtain ⟨w3, b4, c3, d3, e3, H3⟩ := sub_ex v3 8353516859464449352 b3 (by omega) (by omega) (by omega) (by omega) (by omega) (by omega)
  obtain ⟨hr1, hr0⟩ := fr_red h0 h1 h2 h3 d0 d1 d2 d3 H0.out H1.out H2.out H3.out hn
  have HR1 := Lib.hid hr1
  have HR0 := Lib.hid hr0
  clear hr1 hr0 H0 H1 H2 H3 hn
  have hb4 : b4 = 0 ∨ b4 = 1 := by omega
  rcases hb4 with rfl | rfl
  · rw [← HR0.out rfl, frV_num d0 d1 d2 d3]
    go_enter Tryd.func35, Tryd.ntmps35
    go_wp2
    refine wp_loop_rounds 5 ?_
    rw [rounds_succ]
    go_wp2
    go_region
    go_wp2
    rw [rounds_succ]
    go_wp2
    go_region
    go_wp2
    rw [rounds_succ]
    go_wp2
    go_region
    go_wp2
    rw [rounds_succ]
    go_wp2
    go_region
    go_wp2
    rw [rounds_succ]
    go_wp2
    exact bodyPost_ret (v := .agg #[.int .u64 w0, .int .u64 w1, .int .u64 w2, .int .u64 w3]) (by simp [results, Tryd.results35, go_sem]) rfl ⟨rfl, (by repeat (first | exact Below.refl _ _ | refine Below.drew ?_ | refine below_drewN ?_ _ | refine Below.alloc ?_ (by simp <;> omega) _))⟩
  · rw [← HR1.out rfl, frV_num h0 h1 h2 h3]
    go_enter Tryd.func35, Tryd.ntmps35
    go_wp2
    refine wp_loop_rounds 5 ?_
    rw [rounds_succ]
    go_wp2
    go_region
    go_wp2
    rw [rounds_succ]
    go_wp2
    go_region
    go_wp2
    rw [rounds_succ]
    go_wp2
    go_region
    go_wp2
    rw [rounds_succ]
    go_wp2
    go_region
    go_wp2
    rw [rounds_succ]
    go_wp2
    exact bodyPost_ret (v := .agg #[.int .u64 v0, .int .u64 v1, .int .u64 v2, .int .u64 v3]) (by simp [results, Tryd.results35, go_sem]) rfl ⟨rfl, (by repeat (first | exact Below.refl _ _ | refine Below.drew ?_ | refine below_drewN ?_ _ | refine Below.alloc ?_ (by simp <;> omega) _))⟩
set_option maxHeartbeats 1000000 in
set_option maxRecDepth 100000 in
theorem fr_less_calls (n : Nat) (w : World) (ht : FrTab w) (hn2 : n < 115792089237316195423570985008687907853269984665640564039457584007913129639936) :
    Calls Tryd.prog 43 #[frV n] w fun e w' => e = .returned (.bool (decide (n < frQ))) ∧ Below w.heap.size w w' := by
  obtain ⟨v0, v1, v2, v3, h0, h1, h2, h3, rfl, hv⟩ := frV_ex n hn2
  rw [hv]
  clear hv
  obtain ⟨g1, _, q0, q1, q2, q3, _⟩ := ht
  obtain ⟨w0, b1, c0, d0, e0, H0⟩ := sub_ex v0 18446744069414584321 0 (by omega) (by omega) (by omega) (by omega) (by omega) (by omega)
  obtain ⟨w1, b2, c1, d1, e1, H1⟩ := sub_ex v1 6034159408538082302 b1 (by omega) (by omega) (by omega) (by omega) (by omega) (by omega)
  obtain ⟨w2, b3, c2, d2, e2, H2⟩ := sub_ex v2 3691218898639771653 b2 (by omega) (by omega) (by omega) (by omega) (by omega) (by omega)
  obtain ⟨w3, b4, c3, d3, e3, H3⟩ := sub_ex v3 8353516859464449352 b3 (by omega) (by omega) (by omega) (by omega) (by omega) (by omega)
  have hlt : (b4 == 1) = decide (frNum v0 v1 v2 v3 < frQ) := by
    have := fr_lt h0 h1 h2 h3 d0 d1 d2 d3 H0.out H1.out H2.out H3.out
    by_cases hc : frNum v0 v1 v2 v3 < frQ
    · rw [decide_eq_true hc]; simp; omega
    · rw [decide_eq_false hc]; simp; omega
  rw [← hlt]
  clear hlt H0 H1 H2 H3
  have hb4 : b4 = 0 ∨ b4 = 1 := by omega
  rcases hb4 with rfl | rfl
  · go_enter Tryd.func43, Tryd.ntmps43
    go_wp2
    refine wp_loop_rounds 5 ?_
    rw [rounds_succ]
    go_wp2
    go_region
    go_wp2
    rw [rounds_succ]
    go_wp2
    go_region
    go_wp2
    rw [rounds_succ]
    go_wp2
    go_region
    go_wp2
    rw [rounds_succ]
    go_wp2
    go_region
    go_wp2
    rw [rounds_succ]
    go_wp2_with fail
    go_ret
    exact ⟨rfl, (by repeat (first | exact Below.refl _ _ | refine Below.drew ?_ | refine below_drewN ?_ _ | refine Below.alloc ?_ (by simp <;> omega) _))⟩
  · go_enter Tryd.func43, Tryd.ntmps43
    go_wp2
    refine wp_loop_rounds 5 ?_
    rw [rounds_succ]
    go_wp2
    go_region
    go_wp2
    rw [rounds_succ]
    go_wp2
    go_region
    go_wp2
    rw [rounds_succ]
    go_wp2
    go_region
    go_wp2
    rw [rounds_succ]
    go_wp2
    go_region
    go_wp2
    rw [rounds_succ]
    go_wp2_with fail
    go_ret
    exact ⟨rfl, (by repeat (first | exact Below.refl _ _ | refine Below.drew ?_ | refine below_drewN ?_ _ | refine Below.alloc ?_ (by simp <;> omega) _))⟩

end Go.Proofs.YtpinopjnlcbipaaDoor
