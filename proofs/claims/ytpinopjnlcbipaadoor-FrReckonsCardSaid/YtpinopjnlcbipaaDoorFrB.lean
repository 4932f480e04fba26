/- Package fr: the walks of Add, Sub. Conditions: those of each theorem. -/
import Derived.Test.YtpinopjnlcbipaaDoorFrA
import Derived.Lib.Hide
namespace Go.Proofs.YtpinopjnlcbipaaDoor
open Go.RowKit
set_option linter.unusedVariables false

theorem fr_size : (Tryd.prog.info? 27).map (·.size) = some 4 := by kernel_rfl

set_option maxHeartbeats 1000000 in
set_option maxRecDepth 100000 in
theorem fr_add_calls (m n : Nat) (w : World) (ht : FrTab w) (hm : m < frQ) (hn : n < frQ) :
    Calls Tryd.prog 12 #[frV m, frV n] w fun e w' => e = .returned (frV ((m + n) % frQ)) ∧ Below w.heap.size w w' := by
  have hm2 : m < 115792089237316195423570985008687907853269984665640564039457584007913129639936 := by unfold frQ at hm; omega
  have hn2 : n < 115792089237316195423570985008687907853269984665640564039457584007913129639936 := by unfold frQ at hn; omega
  obtain ⟨u0, u1, u2, u3, l0, l1, l2, l3, rfl, hu⟩ := frV_ex m hm2
  obtain ⟨v0, v1, v2, v3, h0, h1, h2, h3, rfl, hv⟩ := frV_ex n hn2
  rw [hu, hv]
  clear hu hv hm2 hn2
  have HT := Lib.hid ht
  clear ht
  obtain ⟨w0, b1, c0, d0, e0, H0⟩ := add_ex u0 v0 0 (by omega) (by omega) (by omega) (by omega) (by omega) (by omega)
  obtain ⟨w1, b2, c1, d1, e1, H1⟩ := add_ex u1 v1 b1 (by omega) (by omega) (by omega) (by omega) (by omega) (by omega)
  obtain ⟨w2, b3, c2, d2, e2, H2⟩ := add_ex u2 v2 b2 (by omega) (by omega) (by omega) (by omega) (by omega) (by omega)
  obtain ⟨w3, b4, c3, d3, e3, H3⟩ := add_ex u3 v3 b3 (by omega) (by omega) (by omega) (by omega) (by omega) (by omega)
  obtain ⟨hb4, hsum, hlt⟩ := fr_sum H0.out H1.out H2.out H3.out hm hn
  subst hb4
  have HR := fun W hW => fr_reduce_calls (frNum w0 w1 w2 w3) W hW hlt
  rw [frV_num d0 d1 d2 d3, hsum] at HR
  have HR := Lib.hid HR
  clear hsum hlt hm hn H0 H1 H2 H3
  generalize hR : (frNum u0 u1 u2 u3 + frNum v0 v1 v2 v3) % frQ = r at *
  have hr : r < frQ := by rw [← hR]; exact Nat.mod_lt _ (by unfold frQ; omega)
  obtain ⟨r0, r1, r2, r3, k0, k1, k2, k3, -, hrv⟩ := frV_ex r (by unfold frQ at hr; omega)
  have HRV := Lib.hid hrv
  rw [hrv]
  clear hR hrv hr
  go_enter Tryd.func12, Tryd.ntmps12
  go_wp2
  refine wp_loop_rounds 5 ?_
  rw [rounds_succ]
  go_wp2
  go_region
  go_wp2
  rw [rounds_succ]
  go_wp2
  go_region
  go_wp2
  rw [rounds_succ]
  go_wp2
  go_region
  go_wp2
  rw [rounds_succ]
  go_wp2
  go_region
  go_wp2
  rw [rounds_succ]
  go_wp2_with fail
  refine (HR.out _ (HT.out.below (by repeat (first | exact Below.refl _ _ | refine Below.drew ?_ | refine below_drewN ?_ _ | refine Below.alloc ?_ (by simp <;> omega) _)))).mono ?_
  rintro e x1 ⟨he, hb1⟩
  rw [HRV.out] at he
  subst he
  have p4 := (Bk.new1 ((w.alloc (.cells #[.int .u64 w0, .int .u64 w1, .int .u64 w2, .int .u64 w3] 27)).alloc (.cells #[.int .u64 v0, .int .u64 v1, .int .u64 v2, .int .u64 v3] 27)) 27 #[.int .u64 0, .int .u64 0, .int .u64 0, .int .u64 0] (n := w.heap.size + 1 + 1) (by simp)).drew.drew.drew.drew.under hb1
  have hb := (show Below w.heap.size w _ from (by repeat (first | exact Below.refl _ _ | refine Below.drew ?_ | refine below_drewN ?_ _ | refine Below.alloc ?_ (by simp <;> omega) _))).trans (hb1.mono (by simp <;> omega))
  have m4 := fr_size
  go_wp2_with (refine wpList_store_row rfl _ _ _ rfl _ _ rfl rfl _ _ p4 m4 rfl (by simp [Value.oneCell']) ?_)
  exact bodyPost_ret (results_cell_row rfl _ _ (w.heap.size + 1 + 1) _ _ _ _ rfl (p4.row _) Tryd.underlying27 rfl m4) rfl ⟨rfl, below_setRow hb (by omega) _⟩

set_option maxHeartbeats 1000000 in
set_option maxRecDepth 100000 in
theorem fr_sub_calls (m n : Nat) (w : World) (ht : FrTab w) (hm : m < frQ) (hn : n < frQ) :
    Calls Tryd.prog 14 #[frV m, frV n] w fun e w' => e = .returned (frV ((m + frQ - n) % frQ)) ∧ Below w.heap.size w w' := by
  have hm2 : m < 115792089237316195423570985008687907853269984665640564039457584007913129639936 := by unfold frQ at hm; omega
  have hn2 : n < 115792089237316195423570985008687907853269984665640564039457584007913129639936 := by unfold frQ at hn; omega
  obtain ⟨u0, u1, u2, u3, l0, l1, l2, l3, rfl, hu⟩ := frV_ex m hm2
  obtain ⟨v0, v1, v2, v3, h0, h1, h2, h3, rfl, hv⟩ := frV_ex n hn2
  rw [hu, hv]
  clear hu hv hm2 hn2
  obtain ⟨g1, _, q0, q1, q2, q3, _⟩ := ht
  obtain ⟨w0, b1, c0, d0, e0, H0⟩ := sub_ex u0 v0 0 (by omega) (by omega) (by omega) (by omega) (by omega) (by omega)
  obtain ⟨w1, b2, c1, d1, e1, H1⟩ := sub_ex u1 v1 b1 (by omega) (by omega) (by omega) (by omega) (by omega) (by omega)
  obtain ⟨w2, b3, c2, d2, e2, H2⟩ := sub_ex u2 v2 b2 (by omega) (by omega) (by omega) (by omega) (by omega) (by omega)
  obtain ⟨w3, b4, c3, d3, e3, H3⟩ := sub_ex u3 v3 b3 (by omega) (by omega) (by omega) (by omega) (by omega) (by omega)
  obtain ⟨hw, hk, hz⟩ := fr_diff d0 d1 d2 d3 H0.out H1.out H2.out H3.out hm hn
  clear H0 H1 H2 H3
  have hb4 : b4 = 0 ∨ b4 = 1 := by omega
  rcases hb4 with rfl | rfl
  · rw [← hz rfl, frV_num d0 d1 d2 d3]
    clear hz hk hw hm hn
    go_enter Tryd.func14, Tryd.ntmps14
    go_wp2
    refine wp_loop_rounds 5 ?_
    rw [rounds_succ]
    go_wp2
    go_region
    go_wp2
    rw [rounds_succ]
    go_wp2
    go_region
    go_wp2
    rw [rounds_succ]
    go_wp2
    go_region
    go_wp2
    rw [rounds_succ]
    go_wp2
    go_region
    go_wp2
    rw [rounds_succ]
    go_wp2_with fail
    exact bodyPost_ret (v := .agg #[.int .u64 w0, .int .u64 w1, .int .u64 w2, .int .u64 w3]) (by simp [results, Tryd.results14, go_sem]) rfl ⟨rfl, (by repeat (first | exact Below.refl _ _ | refine Below.drew ?_ | refine below_drewN ?_ _ | refine Below.alloc ?_ (by simp <;> omega) _))⟩
  · have _t : True := trivial
    obtain ⟨z0, f1, zc0, zd0, ze0, G0⟩ := add_ex w0 18446744069414584321 0 (by omega) (by omega) (by omega) (by omega) (by omega) (by omega)
    obtain ⟨z1, f2, zc1, zd1, ze1, G1⟩ := add_ex w1 6034159408538082302 f1 (by omega) (by omega) (by omega) (by omega) (by omega) (by omega)
    obtain ⟨z2, f3, zc2, zd2, ze2, G2⟩ := add_ex w2 3691218898639771653 f2 (by omega) (by omega) (by omega) (by omega) (by omega) (by omega)
    obtain ⟨z3, f4, zc3, zd3, ze3, G3⟩ := add_ex w3 8353516859464449352 f3 (by omega) (by omega) (by omega) (by omega) (by omega) (by omega)
    have hzz := fr_back zd0 zd1 zd2 zd3 G0.out G1.out G2.out G3.out hw hk hm hn
    rw [← hzz, frV_num zd0 zd1 zd2 zd3]
    clear hz hk hw hm hn hzz G0 G1 G2 G3
    go_enter Tryd.func14, Tryd.ntmps14
    go_wp2
    refine wp_loop_rounds 5 ?_
    rw [rounds_succ]
    go_wp2
    go_region
    go_wp2
    rw [rounds_succ]
    go_wp2
    go_region
    go_wp2
    rw [rounds_succ]
    go_wp2
    go_region
    go_wp2
    rw [rounds_succ]
    go_wp2
    go_region
    go_wp2
    rw [rounds_succ]
    go_wp2_with fail
    refine wp_loop_rounds 5 ?_
    rw [rounds_succ]
    go_wp2
    go_region
    go_wp2
    rw [rounds_succ]
    go_wp2
    go_region
    go_wp2
    rw [rounds_succ]
    go_wp2
    go_region
    go_wp2
    rw [rounds_succ]
    go_wp2
    go_region
    go_wp2
    rw [rounds_succ]
    go_wp2_with fail
    exact bodyPost_ret (v := .agg #[.int .u64 z0, .int .u64 z1, .int .u64 z2, .int .u64 z3]) (by simp [results, Tryd.results14, go_sem]) rfl ⟨rfl, (by repeat (first | exact Below.refl _ _ | refine Below.drew ?_ | refine below_drewN ?_ _ | refine Below.alloc ?_ (by simp <;> omega) _))⟩
end Go.Proofs.YtpinopjnlcbipaaDoor
