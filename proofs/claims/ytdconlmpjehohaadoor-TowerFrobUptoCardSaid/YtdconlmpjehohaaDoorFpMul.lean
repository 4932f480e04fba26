/- Package fp: the walk of Mul: Montgomery's product. Conditions: those of each theorem. -/
import Derived.Test.YtdconlmpjehohaaDoorFpM
import Derived.Deep.DeepCutAuto
namespace Go.Proofs.YtdconlmpjehohaaDoor
open Go.RowKit
set_option linter.unusedVariables false

set_option maxHeartbeats 16000000 in
set_option maxRecDepth 100000 in
theorem fp_mul_calls (m n : Nat) (w : World) (ht : FpTab w) (hm : m < fpQ) (hn : n < fpQ) :
    Calls Tryd.prog 45 #[fpV m, fpV n] w fun e w' => e = .returned (fpV (fpMont m n)) ∧ Below w.heap.size w w' := by
  obtain ⟨x0, x1, x2, x3, x4, x5, hx0, hx1, hx2, hx3, hx4, hx5, hxe, hxv⟩ := fpV_ex m (by unfold fpQ at hm; omega)
  obtain ⟨y0, y1, y2, y3, y4, y5, hy0, hy1, hy2, hy3, hy4, hy5, hye, hyv⟩ := fpV_ex n (by unfold fpQ at hn; omega)
  rw [hxv, hyv]
  have HXE := Lib.hid hxe
  have HYE := Lib.hid hye
  have HM := Lib.hid hm
  have HNN := Lib.hid hn
  have HT := Lib.hid ht
  clear hxe hxv hye hyv hm hn ht
  obtain ⟨r, hr⟩ : ∃ r, fpMont m n = r := ⟨_, rfl⟩
  have hrq : r < fpQ := by rw [← hr]; exact fpMont_lt m n
  obtain ⟨r0, r1, r2, r3, r4, r5, hr0, hr1, hr2, hr3, hr4, hr5, -, hrv⟩ := fpV_ex r (by unfold fpQ at hrq; omega)
  rw [hr, hrv]
  have HR := Lib.hid hr
  have HRV := Lib.hid hrv
  clear hr hrq hrv hr0 hr1 hr2 hr3 hr4 hr5
  have hix : ∀ j : Nat, j < 6 → ∃ yj : Nat, (∀ W : World, (Instr.index 32 (.agg #[.int .u64 y0, .int .u64 y1, .int .u64 y2, .int .u64 y3, .int .u64 y4, .int .u64 y5]) (.int .i64 (j : Int))).run Tryd.prog W = .ok (.int .u64 yj) W) ∧ yj < 18446744073709551616 ∧ Hid (fpNum y0 y1 y2 y3 y4 y5 / 18446744073709551616 ^ j % 18446744073709551616 = yj) := by
    intro j hj
    have : j = 0 ∨ j = 1 ∨ j = 2 ∨ j = 3 ∨ j = 4 ∨ j = 5 := by omega
    rcases this with rfl | rfl | rfl | rfl | rfl | rfl
    · exact ⟨y0, fun W => by kernel_rfl, hy0, by show _ = _; unfold fpNum; omega⟩
    · exact ⟨y1, fun W => by kernel_rfl, hy1, by show _ = _; unfold fpNum; omega⟩
    · exact ⟨y2, fun W => by kernel_rfl, hy2, by show _ = _; unfold fpNum; omega⟩
    · exact ⟨y3, fun W => by kernel_rfl, hy3, by show _ = _; unfold fpNum; omega⟩
    · exact ⟨y4, fun W => by kernel_rfl, hy4, by show _ = _; unfold fpNum; omega⟩
    · exact ⟨y5, fun W => by kernel_rfl, hy5, by show _ = _; unfold fpNum; omega⟩
  have HIX := Lib.hid hix
  clear hix hy0 hy1 hy2 hy3 hy4 hy5
  go_enter Tryd.func45, Tryd.ntmps45
  go_wp2_with fail
  go_quiet (fail)
  go_wp2_with fail
  go_loopw [5, 6, 7, 8, 9, 10, 46] (fun s5 s6 s7 s8 s9 s10 si wr => ∃ (j : Nat) (t0 t1 t2 t3 t4 t5 : Int), j ≤ 6 ∧ si = .int .i64 j ∧ s5 = .int .u64 t0 ∧ s6 = .int .u64 t1 ∧ s7 = .int .u64 t2 ∧ s8 = .int .u64 t3 ∧ s9 = .int .u64 t4 ∧ s10 = .int .u64 t5 ∧ 0 ≤ t0 ∧ t0 < 18446744073709551616 ∧ 0 ≤ t1 ∧ t1 < 18446744073709551616 ∧ 0 ≤ t2 ∧ t2 < 18446744073709551616 ∧ 0 ≤ t3 ∧ t3 < 18446744073709551616 ∧ 0 ≤ t4 ∧ t4 < 18446744073709551616 ∧ 0 ≤ t5 ∧ t5 < 18446744073709551616 ∧ fpInv (fpNum x0 x1 x2 x3 x4 x5) (fpNum y0 y1 y2 y3 y4 y5) j t0 t1 t2 t3 t4 t5 ∧ Bk wr (w.heap.size + 1 + 1) 34 #[.int .u64 0, .int .u64 0, .int .u64 0, .int .u64 0, .int .u64 0, .int .u64 0] ∧ Below w.heap.size w wr) (fun _ _ _ _ _ _ si _ => 6 - (intOf si).toNat)
  case atStart => exact ⟨0, 0, 0, 0, 0, 0, 0, Nat.zero_le _, rfl, rfl, rfl, rfl, rfl, rfl, rfl, by omega, by omega, by omega, by omega, by omega, by omega, by omega, by omega, by omega, by omega, by omega, by omega, ⟨0, 0, by simp, by decide, by simp [Nat.mod_one]⟩, (Bk.new1 ((w.alloc (.cells #[.int .u64 x0, .int .u64 x1, .int .u64 x2, .int .u64 x3, .int .u64 x4, .int .u64 x5] 34)).alloc (.cells #[.int .u64 y0, .int .u64 y1, .int .u64 y2, .int .u64 y3, .int .u64 y4, .int .u64 y5] 34)) 34 #[.int .u64 0, .int .u64 0, .int .u64 0, .int .u64 0, .int .u64 0, .int .u64 0] (n := w.heap.size + 1 + 1) (by simp)).drewN _, (by repeat (first | exact Below.refl _ _ | refine Below.drew ?_ | refine below_drewN ?_ _ | refine Below.alloc ?_ (by simp <;> omega) _))⟩
  case round =>
    obtain ⟨j, t0, t1, t2, t3, t4, t5, hj, rfl, rfl, rfl, rfl, rfl, rfl, rfl, ta0, tb0, ta1, tb1, ta2, tb2, ta3, tb3, ta4, tb4, ta5, tb5, hinv, hbk, hbw⟩ := hrel
    have HI := Lib.hid hinv
    clear hinv
    by_cases hlt : j < 6
    · obtain ⟨yj, hrun, hyj, HYJ⟩ := HIX.out j hlt
      go_upto_region 6 with fail
      go_upto_region 7 with (go_at_call 63; refine (mul64_calls _ _ _ (by omega) (by omega) (by omega) (by omega)).mono ?_; rintro e wx ⟨h0, l0, rfl, rfl, h0a, h0b, l0a, l0b, h0c, E1⟩)
      go_upto_region 8 with (refine wpList_add64 rfl _ _ _ _ rfl _ _ _ rfl rfl rfl (by omega) (by omega) (by omega) (by omega) (by omega) (by omega) ?_; intro s0 k0 s0a s0b k0a k0b E2)
      obtain ⟨c0, hc0⟩ : ∃ c, h0 + k0 = c := ⟨_, rfl⟩
      go_upto_region 9 with fail
      try rw [hc0]
      have C0 : Hid (c0 * 18446744073709551616 + s0 = x0 * yj + t0) := by have := E1.out; have := E2.out; show _ = _; omega
      have c0a : 0 ≤ c0 := by omega
      have c0b : c0 < 18446744073709551616 := by have := E1.out; have := E2.out; omega
      clear E1 E2 hc0 h0a h0b h0c l0a l0b k0a k0b
      obtain ⟨m, hm⟩ : ∃ m, IntKind.u64.wrap (s0 * 9940570264628428797) = m := ⟨_, rfl⟩
      go_upto_region 10 with fail
      try rw [hm]
      have ma : 0 ≤ m := by rw [← hm, IntKind.wrap_u64]; omega
      have mb : m < 18446744073709551616 := by rw [← hm, IntKind.wrap_u64]; omega
      have HMM := Lib.hid hm
      clear hm
      go_upto_region 11 with (go_at_call 63; refine (mul64_calls _ _ _ (by omega) (by omega) (by omega) (by omega)).mono ?_; rintro e wx ⟨h1, e1, rfl, rfl, h1a, h1b, e1a, e1b, h1c, E1⟩)
      go_upto_region 12 with (refine wpList_add64 rfl _ _ _ _ rfl _ _ _ rfl rfl rfl (by omega) (by omega) (by omega) (by omega) (by omega) (by omega) ?_; intro z0 k1 z0a z0b k1a k1b E2)
      obtain ⟨d0, hd0⟩ : ∃ d, h1 + k1 = d := ⟨_, rfl⟩
      go_upto_region 13 with fail
      try rw [hd0]
      have hz : z0 = 0 := by have := E1.out; have := E2.out; have hmm := HMM.out; rw [IntKind.wrap_u64] at hmm; omega
      have D0 : Hid (d0 * 18446744073709551616 = m * 13402431016077863595 + s0) := by have := E1.out; have := E2.out; show _ = _; omega
      have d0a : 0 ≤ d0 := by omega
      have d0b : d0 < 18446744073709551616 := by have := E1.out; have := E2.out; omega
      clear E1 E2 hd0 hz HMM h1a h1b h1c e1a e1b z0a z0b k1a k1b
      go_upto_region 14 with (go_at_call 63; refine (mul64_calls _ _ _ (by omega) (by omega) (by omega) (by omega)).mono ?_; rintro e wx ⟨h1, l1, rfl, rfl, h1a, h1b, l1a, l1b, h1c, E1⟩)
      go_upto_region 15 with (refine wpList_add64 rfl _ _ _ _ rfl _ _ _ rfl rfl rfl (by omega) (by omega) (by omega) (by omega) (by omega) (by omega) ?_; intro p1 k1 p1a p1b k1a k1b E2)
      go_upto_region 16 with fail
      go_upto_region 17 with (refine wpList_add64 rfl _ _ _ _ rfl _ _ _ rfl rfl rfl (by omega) (by omega) (by omega) (by omega) (by omega) (by omega) ?_; intro s1 k2 s1a s1b k2a k2b E3)
      have bc : h1 + k1 + k2 < 18446744073709551616 := by have := E1.out; have := E2.out; have := E3.out; omega
      obtain ⟨c1, hc⟩ : ∃ c, h1 + k1 + k2 = c := ⟨_, rfl⟩
      go_upto_region 18 with fail
      try rw [hc]
      have C1 : Hid (c1 * 18446744073709551616 + s1 = x1 * yj + c0 + t1) := by have := E1.out; have := E2.out; have := E3.out; show _ = _; omega
      have c1a : 0 ≤ c1 := by omega
      have c1b : c1 < 18446744073709551616 := by omega
      clear E1 E2 E3 bc hc h1a h1b h1c l1a l1b p1a p1b k1a k1b k2a k2b
      go_upto_region 19 with (go_at_call 63; refine (mul64_calls _ _ _ (by omega) (by omega) (by omega) (by omega)).mono ?_; rintro e wx ⟨h1, e1, rfl, rfl, h1a, h1b, e1a, e1b, h1c, E1⟩)
      go_upto_region 20 with (refine wpList_add64 rfl _ _ _ _ rfl _ _ _ rfl rfl rfl (by omega) (by omega) (by omega) (by omega) (by omega) (by omega) ?_; intro p1 k1 p1a p1b k1a k1b E2)
      go_upto_region 21 with fail
      go_upto_region 22 with (refine wpList_add64 rfl _ _ _ _ rfl _ _ _ rfl rfl rfl (by omega) (by omega) (by omega) (by omega) (by omega) (by omega) ?_; intro n0 k2 n0a n0b k2a k2b E3)
      have bc : h1 + k1 + k2 < 18446744073709551616 := by have := E1.out; have := E2.out; have := E3.out; omega
      obtain ⟨d1, hd⟩ : ∃ d, h1 + k1 + k2 = d := ⟨_, rfl⟩
      go_upto_region 23 with fail
      try rw [hd]
      have D1 : Hid (d1 * 18446744073709551616 + n0 = m * 2210141511517208575 + d0 + s1) := by have := E1.out; have := E2.out; have := E3.out; show _ = _; omega
      have d1a : 0 ≤ d1 := by omega
      have d1b : d1 < 18446744073709551616 := by omega
      clear E1 E2 E3 bc hd h1a h1b h1c e1a e1b p1a p1b k1a k1b k2a k2b
      go_upto_region 24 with (go_at_call 63; refine (mul64_calls _ _ _ (by omega) (by omega) (by omega) (by omega)).mono ?_; rintro e wx ⟨h1, l1, rfl, rfl, h1a, h1b, l1a, l1b, h1c, E1⟩)
      go_upto_region 25 with (refine wpList_add64 rfl _ _ _ _ rfl _ _ _ rfl rfl rfl (by omega) (by omega) (by omega) (by omega) (by omega) (by omega) ?_; intro p1 k1 p1a p1b k1a k1b E2)
      go_upto_region 26 with fail
      go_upto_region 27 with (refine wpList_add64 rfl _ _ _ _ rfl _ _ _ rfl rfl rfl (by omega) (by omega) (by omega) (by omega) (by omega) (by omega) ?_; intro s2 k2 s2a s2b k2a k2b E3)
      have bc : h1 + k1 + k2 < 18446744073709551616 := by have := E1.out; have := E2.out; have := E3.out; omega
      obtain ⟨c2, hc⟩ : ∃ c, h1 + k1 + k2 = c := ⟨_, rfl⟩
      go_upto_region 28 with fail
      try rw [hc]
      have C2 : Hid (c2 * 18446744073709551616 + s2 = x2 * yj + c1 + t2) := by have := E1.out; have := E2.out; have := E3.out; show _ = _; omega
      have c2a : 0 ≤ c2 := by omega
      have c2b : c2 < 18446744073709551616 := by omega
      clear E1 E2 E3 bc hc h1a h1b h1c l1a l1b p1a p1b k1a k1b k2a k2b
      go_upto_region 29 with (go_at_call 63; refine (mul64_calls _ _ _ (by omega) (by omega) (by omega) (by omega)).mono ?_; rintro e wx ⟨h1, e1, rfl, rfl, h1a, h1b, e1a, e1b, h1c, E1⟩)
      go_upto_region 30 with (refine wpList_add64 rfl _ _ _ _ rfl _ _ _ rfl rfl rfl (by omega) (by omega) (by omega) (by omega) (by omega) (by omega) ?_; intro p1 k1 p1a p1b k1a k1b E2)
      go_upto_region 31 with fail
      go_upto_region 32 with (refine wpList_add64 rfl _ _ _ _ rfl _ _ _ rfl rfl rfl (by omega) (by omega) (by omega) (by omega) (by omega) (by omega) ?_; intro n1 k2 n1a n1b k2a k2b E3)
      have bc : h1 + k1 + k2 < 18446744073709551616 := by have := E1.out; have := E2.out; have := E3.out; omega
      obtain ⟨d2, hd⟩ : ∃ d, h1 + k1 + k2 = d := ⟨_, rfl⟩
      go_upto_region 33 with fail
      try rw [hd]
      have D2 : Hid (d2 * 18446744073709551616 + n1 = m * 7435674573564081700 + d1 + s2) := by have := E1.out; have := E2.out; have := E3.out; show _ = _; omega
      have d2a : 0 ≤ d2 := by omega
      have d2b : d2 < 18446744073709551616 := by omega
      clear E1 E2 E3 bc hd h1a h1b h1c e1a e1b p1a p1b k1a k1b k2a k2b
      go_upto_region 34 with (go_at_call 63; refine (mul64_calls _ _ _ (by omega) (by omega) (by omega) (by omega)).mono ?_; rintro e wx ⟨h1, l1, rfl, rfl, h1a, h1b, l1a, l1b, h1c, E1⟩)
      go_upto_region 35 with (refine wpList_add64 rfl _ _ _ _ rfl _ _ _ rfl rfl rfl (by omega) (by omega) (by omega) (by omega) (by omega) (by omega) ?_; intro p1 k1 p1a p1b k1a k1b E2)
      go_upto_region 36 with fail
      go_upto_region 37 with (refine wpList_add64 rfl _ _ _ _ rfl _ _ _ rfl rfl rfl (by omega) (by omega) (by omega) (by omega) (by omega) (by omega) ?_; intro s3 k2 s3a s3b k2a k2b E3)
      have bc : h1 + k1 + k2 < 18446744073709551616 := by have := E1.out; have := E2.out; have := E3.out; omega
      obtain ⟨c3, hc⟩ : ∃ c, h1 + k1 + k2 = c := ⟨_, rfl⟩
      go_upto_region 38 with fail
      try rw [hc]
      have C3 : Hid (c3 * 18446744073709551616 + s3 = x3 * yj + c2 + t3) := by have := E1.out; have := E2.out; have := E3.out; show _ = _; omega
      have c3a : 0 ≤ c3 := by omega
      have c3b : c3 < 18446744073709551616 := by omega
      clear E1 E2 E3 bc hc h1a h1b h1c l1a l1b p1a p1b k1a k1b k2a k2b
      go_upto_region 39 with (go_at_call 63; refine (mul64_calls _ _ _ (by omega) (by omega) (by omega) (by omega)).mono ?_; rintro e wx ⟨h1, e1, rfl, rfl, h1a, h1b, e1a, e1b, h1c, E1⟩)
      go_upto_region 40 with (refine wpList_add64 rfl _ _ _ _ rfl _ _ _ rfl rfl rfl (by omega) (by omega) (by omega) (by omega) (by omega) (by omega) ?_; intro p1 k1 p1a p1b k1a k1b E2)
      go_upto_region 41 with fail
      go_upto_region 42 with (refine wpList_add64 rfl _ _ _ _ rfl _ _ _ rfl rfl rfl (by omega) (by omega) (by omega) (by omega) (by omega) (by omega) ?_; intro n2 k2 n2a n2b k2a k2b E3)
      have bc : h1 + k1 + k2 < 18446744073709551616 := by have := E1.out; have := E2.out; have := E3.out; omega
      obtain ⟨d3, hd⟩ : ∃ d, h1 + k1 + k2 = d := ⟨_, rfl⟩
      go_upto_region 43 with fail
      try rw [hd]
      have D3 : Hid (d3 * 18446744073709551616 + n2 = m * 7239337960414712511 + d2 + s3) := by have := E1.out; have := E2.out; have := E3.out; show _ = _; omega
      have d3a : 0 ≤ d3 := by omega
      have d3b : d3 < 18446744073709551616 := by omega
      clear E1 E2 E3 bc hd h1a h1b h1c e1a e1b p1a p1b k1a k1b k2a k2b
      go_upto_region 44 with (go_at_call 63; refine (mul64_calls _ _ _ (by omega) (by omega) (by omega) (by omega)).mono ?_; rintro e wx ⟨h1, l1, rfl, rfl, h1a, h1b, l1a, l1b, h1c, E1⟩)
      go_upto_region 45 with (refine wpList_add64 rfl _ _ _ _ rfl _ _ _ rfl rfl rfl (by omega) (by omega) (by omega) (by omega) (by omega) (by omega) ?_; intro p1 k1 p1a p1b k1a k1b E2)
      go_upto_region 46 with fail
      go_upto_region 47 with (refine wpList_add64 rfl _ _ _ _ rfl _ _ _ rfl rfl rfl (by omega) (by omega) (by omega) (by omega) (by omega) (by omega) ?_; intro s4 k2 s4a s4b k2a k2b E3)
      have bc : h1 + k1 + k2 < 18446744073709551616 := by have := E1.out; have := E2.out; have := E3.out; omega
      obtain ⟨c4, hc⟩ : ∃ c, h1 + k1 + k2 = c := ⟨_, rfl⟩
      go_upto_region 48 with fail
      try rw [hc]
      have C4 : Hid (c4 * 18446744073709551616 + s4 = x4 * yj + c3 + t4) := by have := E1.out; have := E2.out; have := E3.out; show _ = _; omega
      have c4a : 0 ≤ c4 := by omega
      have c4b : c4 < 18446744073709551616 := by omega
      clear E1 E2 E3 bc hc h1a h1b h1c l1a l1b p1a p1b k1a k1b k2a k2b
      go_upto_region 49 with (go_at_call 63; refine (mul64_calls _ _ _ (by omega) (by omega) (by omega) (by omega)).mono ?_; rintro e wx ⟨h1, e1, rfl, rfl, h1a, h1b, e1a, e1b, h1c, E1⟩)
      go_upto_region 50 with (refine wpList_add64 rfl _ _ _ _ rfl _ _ _ rfl rfl rfl (by omega) (by omega) (by omega) (by omega) (by omega) (by omega) ?_; intro p1 k1 p1a p1b k1a k1b E2)
      go_upto_region 51 with fail
      go_upto_region 52 with (refine wpList_add64 rfl _ _ _ _ rfl _ _ _ rfl rfl rfl (by omega) (by omega) (by omega) (by omega) (by omega) (by omega) ?_; intro n3 k2 n3a n3b k2a k2b E3)
      have bc : h1 + k1 + k2 < 18446744073709551616 := by have := E1.out; have := E2.out; have := E3.out; omega
      obtain ⟨d4, hd⟩ : ∃ d, h1 + k1 + k2 = d := ⟨_, rfl⟩
      go_upto_region 53 with fail
      try rw [hd]
      have D4 : Hid (d4 * 18446744073709551616 + n3 = m * 5412103778470702295 + d3 + s4) := by have := E1.out; have := E2.out; have := E3.out; show _ = _; omega
      have d4a : 0 ≤ d4 := by omega
      have d4b : d4 < 18446744073709551616 := by omega
      clear E1 E2 E3 bc hd h1a h1b h1c e1a e1b p1a p1b k1a k1b k2a k2b
      go_upto_region 54 with (go_at_call 63; refine (mul64_calls _ _ _ (by omega) (by omega) (by omega) (by omega)).mono ?_; rintro e wx ⟨h1, l1, rfl, rfl, h1a, h1b, l1a, l1b, h1c, E1⟩)
      go_upto_region 55 with (refine wpList_add64 rfl _ _ _ _ rfl _ _ _ rfl rfl rfl (by omega) (by omega) (by omega) (by omega) (by omega) (by omega) ?_; intro p1 k1 p1a p1b k1a k1b E2)
      go_upto_region 56 with fail
      go_upto_region 57 with (refine wpList_add64 rfl _ _ _ _ rfl _ _ _ rfl rfl rfl (by omega) (by omega) (by omega) (by omega) (by omega) (by omega) ?_; intro s5 k2 s5a s5b k2a k2b E3)
      have bc : h1 + k1 + k2 < 18446744073709551616 := by have := E1.out; have := E2.out; have := E3.out; omega
      obtain ⟨c5, hc⟩ : ∃ c, h1 + k1 + k2 = c := ⟨_, rfl⟩
      go_upto_region 58 with fail
      try rw [hc]
      have C5 : Hid (c5 * 18446744073709551616 + s5 = x5 * yj + c4 + t5) := by have := E1.out; have := E2.out; have := E3.out; show _ = _; omega
      have c5a : 0 ≤ c5 := by omega
      have c5b : c5 < 18446744073709551616 := by omega
      clear E1 E2 E3 bc hc h1a h1b h1c l1a l1b p1a p1b k1a k1b k2a k2b
      go_upto_region 59 with (go_at_call 63; refine (mul64_calls _ _ _ (by omega) (by omega) (by omega) (by omega)).mono ?_; rintro e wx ⟨h1, e1, rfl, rfl, h1a, h1b, e1a, e1b, h1c, E1⟩)
      go_upto_region 60 with (refine wpList_add64 rfl _ _ _ _ rfl _ _ _ rfl rfl rfl (by omega) (by omega) (by omega) (by omega) (by omega) (by omega) ?_; intro p1 k1 p1a p1b k1a k1b E2)
      go_upto_region 61 with fail
      go_upto_region 62 with (refine wpList_add64 rfl _ _ _ _ rfl _ _ _ rfl rfl rfl (by omega) (by omega) (by omega) (by omega) (by omega) (by omega) ?_; intro n4 k2 n4a n4b k2a k2b E3)
      have bc : h1 + k1 + k2 < 18446744073709551616 := by have := E1.out; have := E2.out; have := E3.out; omega
      obtain ⟨d5, hd⟩ : ∃ d, h1 + k1 + k2 = d := ⟨_, rfl⟩
      go_upto_region 63 with fail
      try rw [hd]
      have D5 : Hid (d5 * 18446744073709551616 + n4 = m * 1873798617647539866 + d4 + s5) := by have := E1.out; have := E2.out; have := E3.out; show _ = _; omega
      have d5a : 0 ≤ d5 := by omega
      have d5b : d5 < 18446744073709551616 := by omega
      clear E1 E2 E3 bc hd h1a h1b h1c e1a e1b p1a p1b k1a k1b k2a k2b
      obtain ⟨hlt3, hinv'⟩ := fp_round (j := j) (yj := yj) (by rw [HXE.out]; exact HM.out) hyj HYJ.out ma mb n0a n0b n1a n1b n2a n2b n3a n3b n4a n4b c5a d5a C0.out C1.out C2.out C3.out C4.out C5.out D0.out D1.out D2.out D3.out D4.out D5.out HI.out
      obtain ⟨n5, hn5⟩ : ∃ n, c5 + d5 = n := ⟨_, rfl⟩
      rw [hn5] at hlt3 hinv'
      have n5a : 0 ≤ n5 := by omega
      have HI' := Lib.hid hinv'
      clear hinv' HI C0 D0 C1 D1 C2 D2 C3 D3 C4 D4 C5 D5 ma mb hyj c0a c0b d0a d0b c1a c1b d1a d1b c2a c2b d2a d2b c3a c3b d3a d3b c4a c4b d4a d4b
      go_wp2_with fail
      try rw [hn5]
      go_roundw
      case rel => exact ⟨j + 1, n0, n1, n2, n3, n4, n5, hlt, by simp, rfl, rfl, rfl, rfl, rfl, rfl, n0a, n0b, n1a, n1b, n2a, n2b, n3a, n3b, n4a, n4b, n5a, hlt3, HI'.out, hbk, hbw⟩
      case measure => simp [intOf]; omega
    · have hjl : j = 6 := by omega
      subst hjl
      obtain ⟨z0, z1, z2, z3, z4, z5, rfl, hz0, rfl, hz1, rfl, hz2, rfl, hz3, rfl, hz4, rfl, hz5, hzl, hzm⟩ := fp_end (by rw [HYE.out]; have := HNN.out; unfold fpQ at this; omega) HI.out ⟨⟨ta0, tb0⟩, ⟨ta1, tb1⟩, ⟨ta2, tb2⟩, ⟨ta3, tb3⟩, ⟨ta4, tb4⟩, ⟨ta5, tb5⟩⟩
      have hre := fun W hW => fp_reduce_calls (fpNum z0 z1 z2 z3 z4 z5) W hW hzl
      rw [fpV_num hz0 hz1 hz2 hz3 hz4 hz5, hzm, HXE.out, HYE.out, HR.out, HRV.out] at hre
      have HRE := Lib.hid hre
      clear hre hzl hzm HI ta0 tb0 hz0 ta1 tb1 hz1 ta2 tb2 hz2 ta3 tb3 hz3 ta4 tb4 hz4 ta5 tb5 hz5
      go_wp2_with fail
      refine (HRE.out _ (HT.out.below hbw)).mono ?_
      rintro e x1 ⟨he, hb1⟩
      subst he
      have p4 := hbk.under hb1
      have hb := hbw.trans (hb1.mono hbw.size)
      have m4 := fp_size
      go_wp2_with (refine wpList_store_row rfl _ _ _ rfl _ _ rfl rfl _ _ p4 m4 rfl (by simp [Value.oneCell']) ?_)
      exact bodyPost_ret (results_cell_row rfl _ _ (w.heap.size + 1 + 1) _ _ _ _ rfl (p4.row _) Tryd.underlying34 rfl m4) rfl ⟨rfl, below_setRow hb (by omega) _⟩
end Go.Proofs.YtdconlmpjehohaaDoor
