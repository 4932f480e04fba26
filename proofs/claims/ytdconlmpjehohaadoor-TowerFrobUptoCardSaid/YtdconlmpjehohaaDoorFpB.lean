/- Package fp: the walks of Add, Sub. Conditions: those of each theorem. -/
import Derived.Test.YtdconlmpjehohaaDoorFpA
import Derived.Lib.Hide
namespace Go.Proofs.YtdconlmpjehohaaDoor
open Go.RowKit
set_option linter.unusedVariables false

theorem fp_size : (Tryd.prog.info? 34).map (·.size) = some 6 := by kernel_rfl

set_option maxHeartbeats 4000000 in
set_option maxRecDepth 100000 in
theorem fp_add_calls (m n : Nat) (w : World) (ht : FpTab w) (hm : m < fpQ) (hn : n < fpQ) :
    Calls Tryd.prog 49 #[fpV m, fpV n] w fun e w' => e = .returned (fpV ((m + n) % fpQ)) ∧ Below w.heap.size w w' := by
  have hm2 : m < 39402006196394479212279040100143613805079739270465446667948293404245721771497210611414266254884915640806627990306816 := by unfold fpQ at hm; omega
  have hn2 : n < 39402006196394479212279040100143613805079739270465446667948293404245721771497210611414266254884915640806627990306816 := by unfold fpQ at hn; omega
  obtain ⟨u0, u1, u2, u3, u4, u5, l0, l1, l2, l3, l4, l5, rfl, hu⟩ := fpV_ex m hm2
  obtain ⟨v0, v1, v2, v3, v4, v5, h0, h1, h2, h3, h4, h5, rfl, hv⟩ := fpV_ex n hn2
  rw [hu, hv]
  clear hu hv hm2 hn2
  have HT := Lib.hid ht
  clear ht
  obtain ⟨w0, b1, c0, d0, e0, H0⟩ := add_ex u0 v0 0 (by omega) (by omega) (by omega) (by omega) (by omega) (by omega)
  obtain ⟨w1, b2, c1, d1, e1, H1⟩ := add_ex u1 v1 b1 (by omega) (by omega) (by omega) (by omega) (by omega) (by omega)
  obtain ⟨w2, b3, c2, d2, e2, H2⟩ := add_ex u2 v2 b2 (by omega) (by omega) (by omega) (by omega) (by omega) (by omega)
  obtain ⟨w3, b4, c3, d3, e3, H3⟩ := add_ex u3 v3 b3 (by omega) (by omega) (by omega) (by omega) (by omega) (by omega)
  obtain ⟨w4, b5, c4, d4, e4, H4⟩ := add_ex u4 v4 b4 (by omega) (by omega) (by omega) (by omega) (by omega) (by omega)
  obtain ⟨w5, b6, c5, d5, e5, H5⟩ := add_ex u5 v5 b5 (by omega) (by omega) (by omega) (by omega) (by omega) (by omega)
  obtain ⟨hb4, hsum, hlt⟩ := fp_sum H0.out H1.out H2.out H3.out H4.out H5.out hm hn
  subst hb4
  have HR := fun W hW => fp_reduce_calls (fpNum w0 w1 w2 w3 w4 w5) W hW hlt
  rw [fpV_num d0 d1 d2 d3 d4 d5, hsum] at HR
  have HR := Lib.hid HR
  clear hsum hlt hm hn H0 H1 H2 H3 H4 H5
  generalize hR : (fpNum u0 u1 u2 u3 u4 u5 + fpNum v0 v1 v2 v3 v4 v5) % fpQ = r at *
  have hr : r < fpQ := by rw [← hR]; exact Nat.mod_lt _ (by unfold fpQ; omega)
  obtain ⟨r0, r1, r2, r3, r4, r5, k0, k1, k2, k3, k4, k5, -, hrv⟩ := fpV_ex r (by unfold fpQ at hr; omega)
  have HRV := Lib.hid hrv
  rw [hrv]
  clear hR hrv hr
  go_enter Tryd.func49, Tryd.ntmps49
  go_wp2_with fail
  refine (HR.out _ (HT.out.below (by repeat (first | exact Below.refl _ _ | refine Below.drew ?_ | refine below_drewN ?_ _ | refine Below.alloc ?_ (by simp <;> omega) _)))).mono ?_
  rintro e x1 ⟨he, hb1⟩
  rw [HRV.out] at he
  subst he
  have p4 := (Bk.new1 ((w.alloc (.cells #[.int .u64 u0, .int .u64 u1, .int .u64 u2, .int .u64 u3, .int .u64 u4, .int .u64 u5] 34)).alloc (.cells #[.int .u64 v0, .int .u64 v1, .int .u64 v2, .int .u64 v3, .int .u64 v4, .int .u64 v5] 34)) 34 #[.int .u64 0, .int .u64 0, .int .u64 0, .int .u64 0, .int .u64 0, .int .u64 0] (n := w.heap.size + 1 + 1) (by simp)).under hb1
  have hb := (show Below w.heap.size w _ from (by repeat (first | exact Below.refl _ _ | refine Below.drew ?_ | refine below_drewN ?_ _ | refine Below.alloc ?_ (by simp <;> omega) _))).trans (hb1.mono (by simp <;> omega))
  have m4 := fp_size
  go_wp2_with (refine wpList_store_row rfl _ _ _ rfl _ _ rfl rfl _ _ p4 m4 rfl (by simp [Value.oneCell']) ?_)
  exact bodyPost_ret (results_cell_row rfl _ _ (w.heap.size + 1 + 1) _ _ _ _ rfl (p4.row _) Tryd.underlying34 rfl m4) rfl ⟨rfl, below_setRow hb (by omega) _⟩

set_option maxHeartbeats 4000000 in
set_option maxRecDepth 100000 in
theorem fp_sub_calls (m n : Nat) (w : World) (ht : FpTab w) (hm : m < fpQ) (hn : n < fpQ) :
    Calls Tryd.prog 46 #[fpV m, fpV n] w fun e w' => e = .returned (fpV ((m + fpQ - n) % fpQ)) ∧ Below w.heap.size w w' := by
  have hm2 : m < 39402006196394479212279040100143613805079739270465446667948293404245721771497210611414266254884915640806627990306816 := by unfold fpQ at hm; omega
  have hn2 : n < 39402006196394479212279040100143613805079739270465446667948293404245721771497210611414266254884915640806627990306816 := by unfold fpQ at hn; omega
  obtain ⟨u0, u1, u2, u3, u4, u5, l0, l1, l2, l3, l4, l5, rfl, hu⟩ := fpV_ex m hm2
  obtain ⟨v0, v1, v2, v3, v4, v5, h0, h1, h2, h3, h4, h5, rfl, hv⟩ := fpV_ex n hn2
  rw [hu, hv]
  clear hu hv hm2 hn2
  clear ht
  obtain ⟨w0, b1, c0, d0, e0, H0⟩ := sub_ex u0 v0 0 (by omega) (by omega) (by omega) (by omega) (by omega) (by omega)
  obtain ⟨w1, b2, c1, d1, e1, H1⟩ := sub_ex u1 v1 b1 (by omega) (by omega) (by omega) (by omega) (by omega) (by omega)
  obtain ⟨w2, b3, c2, d2, e2, H2⟩ := sub_ex u2 v2 b2 (by omega) (by omega) (by omega) (by omega) (by omega) (by omega)
  obtain ⟨w3, b4, c3, d3, e3, H3⟩ := sub_ex u3 v3 b3 (by omega) (by omega) (by omega) (by omega) (by omega) (by omega)
  obtain ⟨w4, b5, c4, d4, e4, H4⟩ := sub_ex u4 v4 b4 (by omega) (by omega) (by omega) (by omega) (by omega) (by omega)
  obtain ⟨w5, b6, c5, d5, e5, H5⟩ := sub_ex u5 v5 b5 (by omega) (by omega) (by omega) (by omega) (by omega) (by omega)
  obtain ⟨hw, hk, hz⟩ := fp_diff d0 d1 d2 d3 d4 d5 H0.out H1.out H2.out H3.out H4.out H5.out hm hn
  clear H0 H1 H2 H3 H4 H5
  have hb4 : b6 = 0 ∨ b6 = 1 := by omega
  rcases hb4 with rfl | rfl
  · rw [← hz rfl, fpV_num d0 d1 d2 d3 d4 d5]
    clear hz hk hw hm hn
    go_enter Tryd.func46, Tryd.ntmps46
    go_wp2
    exact bodyPost_ret (v := .agg #[.int .u64 w0, .int .u64 w1, .int .u64 w2, .int .u64 w3, .int .u64 w4, .int .u64 w5]) (by simp [results, Tryd.results46, go_sem]) rfl ⟨rfl, (by repeat (first | exact Below.refl _ _ | refine Below.drew ?_ | refine below_drewN ?_ _ | refine Below.alloc ?_ (by simp <;> omega) _))⟩
  · have _t : True := trivial
    obtain ⟨z0, f1, zc0, zd0, ze0, G0⟩ := add_ex w0 13402431016077863595 0 (by omega) (by omega) (by omega) (by omega) (by omega) (by omega)
    obtain ⟨z1, f2, zc1, zd1, ze1, G1⟩ := add_ex w1 2210141511517208575 f1 (by omega) (by omega) (by omega) (by omega) (by omega) (by omega)
    obtain ⟨z2, f3, zc2, zd2, ze2, G2⟩ := add_ex w2 7435674573564081700 f2 (by omega) (by omega) (by omega) (by omega) (by omega) (by omega)
    obtain ⟨z3, f4, zc3, zd3, ze3, G3⟩ := add_ex w3 7239337960414712511 f3 (by omega) (by omega) (by omega) (by omega) (by omega) (by omega)
    obtain ⟨z4, f5, zc4, zd4, ze4, G4⟩ := add_ex w4 5412103778470702295 f4 (by omega) (by omega) (by omega) (by omega) (by omega) (by omega)
    obtain ⟨z5, f6, zc5, zd5, ze5, G5⟩ := add_ex w5 1873798617647539866 f5 (by omega) (by omega) (by omega) (by omega) (by omega) (by omega)
    have hzz := fp_back zd0 zd1 zd2 zd3 zd4 zd5 G0.out G1.out G2.out G3.out G4.out G5.out hw hk hm hn
    rw [← hzz, fpV_num zd0 zd1 zd2 zd3 zd4 zd5]
    clear hz hk hw hm hn hzz G0 G1 G2 G3 G4 G5
    go_enter Tryd.func46, Tryd.ntmps46
    go_wp2
    exact bodyPost_ret (v := .agg #[.int .u64 z0, .int .u64 z1, .int .u64 z2, .int .u64 z3, .int .u64 z4, .int .u64 z5]) (by simp [results, Tryd.results46, go_sem]) rfl ⟨rfl, (by repeat (first | exact Below.refl _ _ | refine Below.drew ?_ | refine below_drewN ?_ _ | refine Below.alloc ?_ (by simp <;> omega) _))⟩
end Go.Proofs.YtdconlmpjehohaaDoor
