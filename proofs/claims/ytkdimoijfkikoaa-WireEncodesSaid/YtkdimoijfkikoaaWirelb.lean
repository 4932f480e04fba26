/- The walk of WireEncodes. Conditions: those of each theorem. -/
import Derived.Test.YtkdimoijfkikoaaWirela
import Derived.Test.YtkdimoijfkikoaaBasg
import Derived.Test.YtkdimoijfkikoaaWireri

namespace Go.Proofs.Ytkdimoijfkikoaa
open Go.RowKit
set_option linter.unusedVariables false


set_option maxHeartbeats 4000000 in
set_option maxRecDepth 100000 in
theorem encodes_no (k ep fr wh tp rd : Int) (A : Option Addr) (n c : Nat) (l : List Nat) (w : World) (hl : l.length = n) (hn : n ≤ 140737488355328) (h1 : Rd w A (nums .u8 l)) (h : ¬ MsgOk k ep fr wh tp rd n) :
    Calls Try.prog 3 #[.agg #[.int .i64 k, .int .i64 ep, .int .i64 fr, .int .i64 wh, .int .i64 tp, .int .i64 rd, .slice A n c]] w fun e w' => e = .returned (.bool true) ∧ Below w.heap.size w w' := by
  have m7 := msg_size
  have HN := Lib.hid h
  have HL := Lib.hid hl
  clear h hl
  go_enter Try.func3, Try.ntmps3
  go_wp2_with fail
  refine (head_calls _).mono ?_
  rintro e w1 ⟨rfl, hb1⟩
  have p0 := (Bk.new w 24 #[.int .i64 k, .int .i64 ep, .int .i64 fr, .int .i64 wh, .int .i64 tp, .int .i64 rd, .slice A n c]).under hb1
  have hb := (below_alloc w _).trans (hb1.mono (by simp))
  have r0 := h1.below hb
  clear hb1
  go_wp2_with (refine wpList_load_row rfl _ _ rfl _ rfl _ _ _ _ p0 Try.underlying24 rfl m7 ?_)
  refine (copy16_calls k ep fr wh tp rd A n c l _ HL.out hn r0).mono ?_
  rintro e w2 ⟨A1, c1, rfl, hown, hb2⟩
  have p0 := (p0.under hb2).alloc (.cells #[.int .i64 k, .int .i64 ep, .int .i64 fr, .int .i64 wh, .int .i64 tp, .int .i64 rd, .slice A1 n c1] 24)
  have p1 := Bk.new w2 24 #[.int .i64 k, .int .i64 ep, .int .i64 fr, .int .i64 wh, .int .i64 tp, .int .i64 rd, .slice A1 n c1]
  have hb := (hb.trans (hb2.mono hb.size)).alloc (by have := hb.size; have := hb2.size; omega) (.cells #[.int .i64 k, .int .i64 ep, .int .i64 fr, .int .i64 wh, .int .i64 tp, .int .i64 rd, .slice A1 n c1] 24)
  have r0 := (r0.below hb2).alloc (.cells #[.int .i64 k, .int .i64 ep, .int .i64 fr, .int .i64 wh, .int .i64 tp, .int .i64 rd, .slice A1 n c1] 24)
  have r1 := hown.rd.alloc (.cells #[.int .i64 k, .int .i64 ep, .int .i64 fr, .int .i64 wh, .int .i64 tp, .int .i64 rd, .slice A1 n c1] 24)
  clear hown hb2
  go_wp2_with fail
  refine (encode_no k ep fr wh tp rd A1 n c1 _ HN.out).mono ?_
  rintro e w3 ⟨rfl, hb3⟩
  have p0 := p0.under hb3
  have p1 := p1.under hb3
  have r0 := r0.below hb3
  have r1 := r1.below hb3
  have hb := hb.trans (hb3.mono hb.size)
  clear hb3
  go_wp2_with (refine wpList_load_row rfl _ _ rfl _ rfl _ _ _ _ p1 Try.underlying24 rfl m7 ?_)
  refine (check_no k ep fr wh tp rd A1 n c1 _ HN.out).mono ?_
  rintro e w4 ⟨rfl, hb4⟩
  have p0 := p0.under hb4
  have p1 := p1.under hb4
  have r0 := r0.below hb4
  have r1 := r1.below hb4
  have hb := hb.trans (hb4.mono hb.size)
  clear hb4
  go_wp2_with (first | (refine wpList_load_row rfl _ _ rfl _ rfl _ _ _ _ p1 Try.underlying24 rfl m7 ?_) | (refine wpList_load_row rfl _ _ rfl _ rfl _ _ _ _ p0 Try.underlying24 rfl m7 ?_))
  refine (same16_calls _ _ _ _ _ _ _ _ _ _ _ _ _ _ _ _ _ _ l l _ HL.out HL.out hn hn r1 r0).mono ?_
  rintro e w5 ⟨rfl, hb5⟩
  have hsm : SameMsg k ep fr wh tp rd k ep fr wh tp rd l l = true := by simp [SameMsg]
  rw [hsm]
  clear hsm
  have p0 := p0.under hb5
  have hb := hb.trans (hb5.mono hb.size)
  clear hb5
  go_wp2_with (refine wpList_load_row rfl _ _ rfl _ rfl _ _ _ _ p0 Try.underlying24 rfl m7 ?_)
  refine (right_no k ep fr wh tp rd A n c _ HN.out).mono ?_
  rintro e w6 ⟨rfl, hb6⟩
  have hb := hb.trans (hb6.mono hb.size)
  clear hb6
  go_wp2_with fail
  go_ret
  exact ⟨rfl, hb⟩

set_option maxHeartbeats 4000000 in
set_option maxRecDepth 100000 in
theorem encodes_yes (k ep fr wh tp rd : Nat) (A : Option Addr) (n c : Nat) (l : List Nat) (w : World) (hl : l.length = n) (hn : n ≤ 140737488355328) (h1 : Rd w A (nums .u8 l)) (hbt : ∀ x ∈ l, x < 256) (h : MsgOk k ep fr wh tp rd n) :
    Calls Try.prog 3 #[.agg #[.int .i64 k, .int .i64 ep, .int .i64 fr, .int .i64 wh, .int .i64 tp, .int .i64 rd, .slice A n c]] w fun e w' => e = .returned (.bool true) ∧ Below w.heap.size w w' := by
  have hk : k < 256 := by unfold MsgOk at h; omega
  have hep : ep < 9223372036854775808 := by unfold MsgOk at h; omega
  have hfr : fr < 256 := by unfold MsgOk at h; omega
  have hwh : wh < 256 := by unfold MsgOk at h; omega
  have htp : tp < 256 := by unfold MsgOk at h; omega
  have hrd : rd < 9223372036854775808 := by unfold MsgOk at h; omega
  have hn4 : n ≤ 4096 := by unfold MsgOk at h; omega
  have m7 := msg_size
  have HN := Lib.hid h
  have HL := Lib.hid hl
  have HB := Lib.hid hbt
  clear h hl hbt
  go_enter Try.func3, Try.ntmps3
  go_wp2_with fail
  refine (head_calls _).mono ?_
  rintro e w1 ⟨rfl, hb1⟩
  have p0 := (Bk.new w 24 #[.int .i64 k, .int .i64 ep, .int .i64 fr, .int .i64 wh, .int .i64 tp, .int .i64 rd, .slice A n c]).under hb1
  have hb := (below_alloc w _).trans (hb1.mono (by simp))
  have r0 := h1.below hb
  clear hb1
  go_wp2_with (refine wpList_load_row rfl _ _ rfl _ rfl _ _ _ _ p0 Try.underlying24 rfl m7 ?_)
  refine (copy16_calls k ep fr wh tp rd A n c l _ HL.out hn r0).mono ?_
  rintro e w2 ⟨A1, c1, rfl, hown, hb2⟩
  have p0 := (p0.under hb2).alloc (.cells #[.int .i64 k, .int .i64 ep, .int .i64 fr, .int .i64 wh, .int .i64 tp, .int .i64 rd, .slice A1 n c1] 24)
  have p1 := Bk.new w2 24 #[.int .i64 k, .int .i64 ep, .int .i64 fr, .int .i64 wh, .int .i64 tp, .int .i64 rd, .slice A1 n c1]
  have hb := (hb.trans (hb2.mono hb.size)).alloc (by have := hb.size; have := hb2.size; omega) (.cells #[.int .i64 k, .int .i64 ep, .int .i64 fr, .int .i64 wh, .int .i64 tp, .int .i64 rd, .slice A1 n c1] 24)
  have r0 := (r0.below hb2).alloc (.cells #[.int .i64 k, .int .i64 ep, .int .i64 fr, .int .i64 wh, .int .i64 tp, .int .i64 rd, .slice A1 n c1] 24)
  have r1 := hown.rd.alloc (.cells #[.int .i64 k, .int .i64 ep, .int .i64 fr, .int .i64 wh, .int .i64 tp, .int .i64 rd, .slice A1 n c1] 24)
  clear hown hb2
  go_wp2_with fail
  refine (encode_yes k ep fr wh tp rd A1 n c1 l _ HL.out r1 HN.out).mono ?_
  rintro e w3 ⟨A3, c3, rfl, own3, hb3⟩
  have p0s := p0
  have p1s := p1
  have r0s := r0
  have r1s := r1
  have hs := hb
  have hq := hb3
  have p0 := p0.under hb3
  have p1 := p1.under hb3
  have r0 := r0.below hb3
  have r1 := r1.below hb3
  have hb := hb.trans (hb3.mono hb.size)
  clear hb3
  go_wp2_with (refine wpList_load_row rfl _ _ rfl _ rfl _ _ _ _ p1 Try.underlying24 rfl m7 ?_)
  refine (check_yes k ep fr wh tp rd A1 n c1 _ HN.out).mono ?_
  rintro e w4 ⟨rfl, hb4⟩
  have p0 := p0.under hb4
  have p1 := p1.under hb4
  have r0 := r0.below hb4
  have r1 := r1.below hb4
  have own3 := own3.below hb4
  have hb := hb.trans (hb4.mono hb.size)
  have hq := hq.trans (hb4.mono hq.size)
  clear hb4
  go_wp2_with (first | (refine wpList_load_row rfl _ _ rfl _ rfl _ _ _ _ p1 Try.underlying24 rfl m7 ?_) | (refine wpList_load_row rfl _ _ rfl _ rfl _ _ _ _ p0 Try.underlying24 rfl m7 ?_))
  refine (same16_calls _ _ _ _ _ _ _ _ _ _ _ _ _ _ _ _ _ _ l l _ HL.out HL.out hn hn r1 r0).mono ?_
  rintro e w5 ⟨rfl, hb5⟩
  have hsm : SameMsg k ep fr wh tp rd k ep fr wh tp rd l l = true := by simp [SameMsg]
  rw [hsm]
  clear hsm
  have p0 := p0.under hb5
  have p1 := p1.under hb5
  have r0 := r0.below hb5
  have r1 := r1.below hb5
  have own3 := own3.below hb5
  have hb := hb.trans (hb5.mono hb.size)
  have hq := hq.trans (hb5.mono hq.size)
  clear hb5
  go_wp2_with (refine wpList_load_row rfl _ _ rfl _ rfl _ _ _ _ p0 Try.underlying24 rfl m7 ?_)
  refine (right_yes k ep fr wh tp rd A n c _ HN.out).mono ?_
  rintro e w6 ⟨rfl, hb6⟩
  have p0 := p0.under hb6
  have p1 := p1.under hb6
  have r0 := r0.below hb6
  have r1 := r1.below hb6
  have own3 := own3.below hb6
  have hb := hb.trans (hb6.mono hb.size)
  have hq := hq.trans (hb6.mono hq.size)
  clear hb6
  go_wp2_with (refine wpList_load_rowG rfl _ _ rfl _ rfl _ _ _ _ p0 Try.underlying24 rfl m7 ?_)
  refine (bytes16_calls k ep fr wh tp rd A n c l _ HL.out hn4 r0 hk hep hfr hwh htp hrd).mono ?_
  rintro e w7 ⟨A7, c7, rfl, own7, hb7⟩
  have p0 := p0.under hb7
  have p1 := p1.under hb7
  have r0 := r0.below hb7
  have r1 := r1.below hb7
  have own3 := own3.below hb7
  have hb := hb.trans (hb7.mono hb.size)
  have hq := hq.trans (hb7.mono hq.size)
  clear hb7
  go_wp2_with fail
  refine (same_n A3 A7 _ _ (18 + n) (18 + n) c3 c7 _ (by rw [← nums_length .u8, own3.len]) (by rw [← nums_length .u8, own3.len]) own3.rd own7.rd (by omega) (by omega)).mono ?_
  rintro e w8 ⟨rfl, nd, rfl⟩
  have hsm : SameB (msgBytes k ep fr wh tp rd l) (msgBytes k ep fr wh tp rd l) = true := by simp [SameB]
  rw [hsm]
  clear hsm own7
  go_wp2_with fail
  have hq := below_drewN hq nd
  have own3 := own3.drewN nd
  have hlen := own3.len
  obtain ⟨b3, o3, rfl, hb3lt, _⟩ := own3.rd.at_ (k := 0) (by rw [hlen]; omega)
  clear hlen hb3lt r0 r1 p0 p1 hb
  generalize hW : w7.drewN nd = W at *
  clear hW
  go_loopw [49] (fun i wr => ∃ (j : Nat) (xs : List Nat), j ≤ 18 + n ∧ i = .int .i64 j ∧ xs.length = 18 + n ∧ (∀ x ∈ xs, x < 256) ∧ Own wr (w2.alloc (.cells #[.int .i64 k, .int .i64 ep, .int .i64 fr, .int .i64 wh, .int .i64 tp, .int .i64 rd, .slice A1 n c1] 24)).heap.size 5 (some ⟨b3, o3, none⟩) (18 + n) c3 (nums .u8 xs) ∧ Below (w2.alloc (.cells #[.int .i64 k, .int .i64 ep, .int .i64 fr, .int .i64 wh, .int .i64 tp, .int .i64 rd, .slice A1 n c1] 24)).heap.size (w2.alloc (.cells #[.int .i64 k, .int .i64 ep, .int .i64 fr, .int .i64 wh, .int .i64 tp, .int .i64 rd, .slice A1 n c1] 24)) wr) (fun i _ => 18 + n - (intOf i).toNat)
  case atStart =>
    refine ⟨0, msgBytes k ep fr wh tp rd l, Nat.zero_le _, rfl, by rw [← nums_length .u8, own3.len], ?_, own3, hq⟩
    intro x hx
    simp only [msgBytes, List.mem_append, List.mem_cons, List.not_mem_nil, or_false] at hx
    rcases hx with ((((hx | hx) | hx) | hx) | hx) | hx
    · omega
    · exact digs_lt _ _ _ hx
    · omega
    · exact digs_lt _ _ _ hx
    · exact digs_lt _ _ _ hx
    · exact HB.out x hx
  case round =>
    clear own3 hq
    obtain ⟨j, xs, hj, rfl, hxl, hxb, hown, hbr⟩ := hrel
    by_cases hlt : j < 18 + n
    · have ho := hown.zero
      subst ho
      have hcell := hown.cellNum j (by omega)
      have hfree := hown.free j
      have hx : xs[j] < 256 := hxb _ (List.getElem_mem _)
      generalize xs[j] = x at hcell hx
      have hst := hown.storeNum j (x ^^^ 255)
      have hbk := hown.lt b3 rfl
      have hbr' := hbr.setCell (p := ⟨b3, j, none⟩) hbk.1 (.int .u8 ((x ^^^ 255 : Nat) : Int))
      have hxo : bits BinOp.xor IntKind.u8 (x : Int) 255 = ((x ^^^ 255 : Nat) : Int) := u8_xor_nat x 255 hx (by omega)
      have hxb' : ∀ y ∈ xs.set j (x ^^^ 255), y < 256 := by
        intro y hx'
        rcases List.mem_or_eq_of_mem_set hx' with h | h
        · exact hxb y h
        · rw [h]; exact Nat.xor_lt_two_pow (n := 8) (by omega) (by omega)
      have HX := Lib.hid hxl
      have HXB := Lib.hid hxb'
      have HO := Lib.hid hxo
      clear hxb hxl hxb' hbr hown hbk hxo
      go_wp2
      go_roundw
      case rel =>
        rw [HO.out]
        exact ⟨j + 1, xs.set j (x ^^^ 255), by omega, by go_num, by rw [List.length_set]; exact HX.out, HXB.out, hst, hbr'⟩
      case measure => simp [intOf]; omega
    · clear hxb hxl
      have p0 := p0s.under hbr
      have p1 := p1s.under hbr
      have r0 := r0s.below hbr
      have r1 := r1s.below hbr
      have hb := hs.trans (hbr.mono hs.size)
      go_wp2_with (first | (refine wpList_load_row rfl _ _ rfl _ rfl _ _ _ _ p1 Try.underlying24 rfl m7 ?_) | (refine wpList_load_row rfl _ _ rfl _ rfl _ _ _ _ p0 Try.underlying24 rfl m7 ?_))
      refine (same16_calls _ _ _ _ _ _ _ _ _ _ _ _ _ _ _ _ _ _ l l _ HL.out HL.out hn hn r1 r0).mono ?_
      rintro e w9 ⟨rfl, hb9⟩
      have hsm : SameMsg k ep fr wh tp rd k ep fr wh tp rd l l = true := by simp [SameMsg]
      rw [hsm]
      clear hsm
      go_wp2_with fail
      go_ret
      exact ⟨rfl, hb.trans (hb9.mono hb.size)⟩
end Go.Proofs.Ytkdimoijfkikoaa
