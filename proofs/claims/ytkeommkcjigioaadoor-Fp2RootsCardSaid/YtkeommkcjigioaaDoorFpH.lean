/- Package fr: Wide. Conditions: those of each theorem. -/
import Derived.Test.YtkeommkcjigioaaDoorFpF
import Derived.Test.YtkeommkcjigioaaDoorBy
namespace Go.Proofs.YtkeommkcjigioaaDoor
open Go.RowKit
set_option linter.unusedVariables false

set_option maxHeartbeats 1000000 in
set_option maxRecDepth 100000 in
theorem fp_wide_calls (A : Option Addr) (l : List Nat) (len cap : Nat) (w : World) (ht : FpTab w) (hr : Rd w A (nums .u8 l)) (hl : l.length = len) (hc : len ≤ cap) (hlb : len ≤ 140737488355328) (hb256 : ∀ x ∈ l, x < 256) :
    Calls Tryd.prog 11 #[.slice A len cap] w fun e w' => e = .returned (fpE (be l)) ∧ Below w.heap.size w w' := by
  have HT := Lib.hid ht
  have HL := Lib.hid hl
  have H256 := fun W hW => fp_of_calls 256 W hW (by omega)
  obtain ⟨k0, k1, k2, k3, k4, k5, hk⟩ := fpV_agg (256 * fpR % fpQ) (fpE_lt _)
  rw [show fpE 256 = _ from hk] at H256
  have H256 := Lib.hid H256
  have HK := Lib.hid hk
  clear ht hl hk
  have hb := Below.refl w.heap.size w
  go_enter Tryd.func11, Tryd.ntmps11
  go_wp2_with fail
  refine calls_on H256 HT (by repeat (first | exact hb | exact Below.refl _ _ | refine Below.drew ?_ | refine below_drewN ?_ _ | refine Below.alloc ?_ (by have := hb.size; simp <;> omega) _)) ?_; intro w1 hb1 hb
  go_wp2_with fail
  have pz := ((Bk.new1 w 28 #[.int .u64 0, .int .u64 0, .int .u64 0, .int .u64 0, .int .u64 0, .int .u64 0] (n := w.heap.size) rfl).alloc (.cells #[.int .u64 0, .int .u64 0, .int .u64 0, .int .u64 0, .int .u64 0, .int .u64 0] 28)).under hb1
  have px := (Bk.new1 (w.alloc (.cells #[.int .u64 0, .int .u64 0, .int .u64 0, .int .u64 0, .int .u64 0, .int .u64 0] 28)) 28 #[.int .u64 0, .int .u64 0, .int .u64 0, .int .u64 0, .int .u64 0, .int .u64 0] (n := w.heap.size + 1) (by simp)).under hb1
  have hsz := hb1.size
  simp only [World.size_alloc] at hsz
  have pz := pz.alloc (.cells #[.int .u64 k0, .int .u64 k1, .int .u64 k2, .int .u64 k3, .int .u64 k4, .int .u64 k5] 28)
  have px := px.alloc (.cells #[.int .u64 k0, .int .u64 k1, .int .u64 k2, .int .u64 k3, .int .u64 k4, .int .u64 k5] 28)
  have pk := Bk.new w1 28 #[.int .u64 k0, .int .u64 k1, .int .u64 k2, .int .u64 k3, .int .u64 k4, .int .u64 k5]
  have hb := hb.alloc hb.size (.cells #[.int .u64 k0, .int .u64 k1, .int .u64 k2, .int .u64 k3, .int .u64 k4, .int .u64 k5] 28)
  clear hb1
  generalize w1.heap.size = Y at *
  go_loopw [10] (fun i wr => ∃ (j : Nat) (x0 x1 x2 x3 x4 x5 : Nat), j ≤ len ∧ i = .int .i64 j ∧ Hid (fpV (be (l.take j) * fpR % fpQ) = .agg #[.int .u64 x0, .int .u64 x1, .int .u64 x2, .int .u64 x3, .int .u64 x4, .int .u64 x5]) ∧ Bk wr w.heap.size 28 #[.int .u64 0, .int .u64 0, .int .u64 0, .int .u64 0, .int .u64 0, .int .u64 0] ∧ Bk wr (w.heap.size + 1) 28 #[.int .u64 x0, .int .u64 x1, .int .u64 x2, .int .u64 x3, .int .u64 x4, .int .u64 x5] ∧ Bk wr Y 28 #[.int .u64 k0, .int .u64 k1, .int .u64 k2, .int .u64 k3, .int .u64 k4, .int .u64 k5] ∧ Below w.heap.size w wr) (fun i _ => len - (intOf i).toNat)
  case atStart =>
    refine ⟨0, 0, 0, 0, 0, 0, 0, Nat.zero_le _, rfl, ?_, pz, px, pk, hb⟩
    exact fpE_zero
  case round =>
    clear pz px pk hb
    obtain ⟨j, x0, x1, x2, x3, x4, x5, hj, rfl, HX, pz, px, pk, hb⟩ := hrel
    by_cases hlt : j < len
    · have hjl : j < l.length := by have := HL.out; omega
      have hcx : l[j] < 256 := hb256 _ (List.getElem_mem _)
      have htake : be (l.take (j + 1)) = be (l.take j) * 256 + l[j] := by rw [take_snoc _ _ hjl, be_snoc]
      obtain ⟨b, o, rfl, hbl, hck⟩ := (hr.below hb).num hjl
      generalize l[j] = c at hcx htake hck
      have HM := fun W hW => fp_mulE (be (l.take j)) 256 W hW
      have HO := fun W hW => fp_of_calls c W hW (by omega)
      have HA := fun W hW => fp_addE (be (l.take j) * 256) c W hW
      obtain ⟨m0, m1, m2, m3, m4, m5, hm⟩ := fpV_agg (be (l.take j) * 256 * fpR % fpQ) (fpE_lt _)
      obtain ⟨c0, c1, c2, c3, c4, c5, hcc⟩ := fpV_agg (c * fpR % fpQ) (fpE_lt _)
      obtain ⟨t0, t1, t2, t3, t4, t5, ht⟩ := fpV_agg (be (l.take (j + 1)) * fpR % fpQ) (fpE_lt _)
      rw [← htake] at HA
      unfold fpE at HM HO HA
      rw [HX.out, HK.out, hm] at HM
      rw [hcc] at HO
      rw [hm, hcc, ht] at HA
      have HM := Lib.hid HM
      have HO := Lib.hid HO
      have HA := Lib.hid HA
      have HTV := Lib.hid ht
      clear HX hm hcc ht htake
      have m4 := fp_size
      go_wp2_with (first | (refine wpList_load_row rfl _ _ rfl _ rfl _ _ _ _ px Tryd.underlying28 rfl m4 ?_) | (refine wpList_load_row rfl _ _ rfl _ rfl _ _ _ _ pk Tryd.underlying28 rfl m4 ?_))
      refine calls_on HM HT hb ?_; intro w2 hb2 hb
      have pz := pz.under hb2
      have px := px.under hb2
      have pk := pk.under hb2
      clear hb2
      go_wp2_with fail
      refine calls_on HO HT hb ?_; intro w3 hb3 hb
      have pz := pz.under hb3
      have px := px.under hb3
      have pk := pk.under hb3
      clear hb3
      go_wp2_with fail
      refine calls_on HA HT hb ?_; intro w4 hb4 hb
      have pz := pz.under hb4
      have px := px.under hb4
      have pk := pk.under hb4
      clear hb4
      go_wp2_with (refine wpList_store_row rfl _ _ _ rfl _ _ rfl rfl _ _ px m4 rfl (by simp [Value.oneCell']) ?_)
      have pz := pz.rowFar (g' := w.heap.size + 1) (by omega) #[.int .u64 t0, .int .u64 t1, .int .u64 t2, .int .u64 t3, .int .u64 t4, .int .u64 t5]
      have pk := pk.rowFar (g' := w.heap.size + 1) (by omega) #[.int .u64 t0, .int .u64 t1, .int .u64 t2, .int .u64 t3, .int .u64 t4, .int .u64 t5]
      have px := px.row #[.int .u64 t0, .int .u64 t1, .int .u64 t2, .int .u64 t3, .int .u64 t4, .int .u64 t5]
      have hb := below_setRow hb (g := w.heap.size + 1) (by omega) #[.int .u64 t0, .int .u64 t1, .int .u64 t2, .int .u64 t3, .int .u64 t4, .int .u64 t5]
      go_roundw
      case rel => exact ⟨j + 1, t0, t1, t2, t3, t4, t5, by omega, by go_num, HTV, pz, px, pk, hb⟩
      case measure => simp [intOf] <;> omega
    · have hjl : j = len := by omega
      have hl2 : l.take j = l := List.take_of_length_le (by have := HL.out; omega)
      rw [hl2] at HX
      have m4 := fp_size
      go_wp2_with (first | (refine wpList_load_row rfl _ _ rfl _ rfl _ _ _ _ px Tryd.underlying28 rfl m4 ?_) | (refine wpList_store_row rfl _ _ _ rfl _ _ rfl rfl _ _ pz m4 rfl (by simp [Value.oneCell']) ?_))
      exact bodyPost_ret (results_cell_row rfl _ _ w.heap.size _ _ _ _ rfl (pz.row _) Tryd.underlying28 rfl m4) rfl ⟨congrArg Ending.returned HX.out.symm, below_setRow hb (by omega) _⟩
end Go.Proofs.YtkeommkcjigioaaDoor
