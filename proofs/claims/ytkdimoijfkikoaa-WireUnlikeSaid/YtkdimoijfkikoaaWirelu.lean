/- The walk of WireUnlike. Conditions: those of each theorem. -/
import Derived.Test.YtkdimoijfkikoaaWiredp
import Derived.Test.YtkdimoijfkikoaaWirela
import Derived.Test.YtkdimoijfkikoaaBasg
import Derived.Deep.RegionHeld3
namespace Go.Proofs.Ytkdimoijfkikoaa
open Go.RowKit
set_option linter.unusedVariables false

theorem msgBytes_inj {k ep fr wh tp rd k' ep' fr' wh' tp' rd' n n' : Nat} {l l' : List Nat} (hl : l.length = n) (hl' : l'.length = n') (h : MsgOk k ep fr wh tp rd n) (h' : MsgOk k' ep' fr' wh' tp' rd' n') :
    SameB (msgBytes k ep fr wh tp rd l) (msgBytes k' ep' fr' wh' tp' rd' l') = SameMsg k ep fr wh tp rd k' ep' fr' wh' tp' rd' l l' := by
  unfold MsgOk at h h'
  unfold SameB SameMsg
  rw [decide_eq_decide]
  constructor
  · intro e
    obtain ⟨a1, a2, a3, a4, a5, a6, a7, a8⟩ := msg_parts k ep fr wh tp rd l [] (by omega) (by omega) (by omega) (by omega) (by omega) (by omega) (by omega)
    obtain ⟨b1, b2, b3, b4, b5, b6, b7, b8⟩ := msg_parts k' ep' fr' wh' tp' rd' l' [] (by omega) (by omega) (by omega) (by omega) (by omega) (by omega) (by omega)
    rw [← e] at b1 b2 b3 b4 b5 b6 b7 b8
    refine ⟨by rw [← a1, ← b1], by rw [← a2, ← b2], by rw [← a3, ← b3], by rw [← a4, ← b4], by rw [← a5, ← b5], by rw [← a6, ← b6], ?_⟩
    have := a8.symm.trans b8
    simpa using this
  · rintro ⟨e1, e2, e3, e4, e5, e6, e7⟩
    have e1 : k = k' := by omega
    have e2 : ep = ep' := by omega
    have e3 : fr = fr' := by omega
    have e4 : wh = wh' := by omega
    have e5 : tp = tp' := by omega
    have e6 : rd = rd' := by omega
    subst e1 e2 e3 e4 e5 e6 e7
    rfl

set_option maxHeartbeats 4000000 in
set_option maxRecDepth 100000 in
theorem unlike_one (k ep fr wh tp rd k' ep' fr' wh' tp' rd' : Int) (A A' : Option Addr) (n c n' c' : Nat) (l l' : List Nat) (w : World) (hl : l.length = n) (hn : n ≤ 140737488355328) (h1 : Rd w A (nums .u8 l)) (hl' : l'.length = n') (hn' : n' ≤ 140737488355328) (h1' : Rd w A' (nums .u8 l'))
    (h : ¬ MsgOk k ep fr wh tp rd n) :
    Calls Try.prog 4 #[.agg #[.int .i64 k, .int .i64 ep, .int .i64 fr, .int .i64 wh, .int .i64 tp, .int .i64 rd, .slice A n c], .agg #[.int .i64 k', .int .i64 ep', .int .i64 fr', .int .i64 wh', .int .i64 tp', .int .i64 rd', .slice A' n' c']] w fun e w' => e = .returned (.bool true) ∧ Below w.heap.size w w' := by
  have m7 := msg_size
  have HN := Lib.hid h
  have HL := Lib.hid hl
  have HL' := Lib.hid hl'
  clear h hl hl'
  go_enter Try.func4, Try.ntmps4
  go_wp2_with fail
  refine (head_calls _).mono ?_
  rintro e w1 ⟨rfl, hb1⟩
  have p0 := ((Bk.new w 24 #[.int .i64 k, .int .i64 ep, .int .i64 fr, .int .i64 wh, .int .i64 tp, .int .i64 rd, .slice A n c]).alloc (.cells #[.int .i64 k', .int .i64 ep', .int .i64 fr', .int .i64 wh', .int .i64 tp', .int .i64 rd', .slice A' n' c'] 24)).under hb1
  have p1 := (Bk.new1 (w.alloc (.cells #[.int .i64 k, .int .i64 ep, .int .i64 fr, .int .i64 wh, .int .i64 tp, .int .i64 rd, .slice A n c] 24)) 24 #[.int .i64 k', .int .i64 ep', .int .i64 fr', .int .i64 wh', .int .i64 tp', .int .i64 rd', .slice A' n' c'] (World.size_alloc _ _).symm).under hb1
  have hb := ((below_alloc w (.cells #[.int .i64 k, .int .i64 ep, .int .i64 fr, .int .i64 wh, .int .i64 tp, .int .i64 rd, .slice A n c] 24)).alloc (by simp) (.cells #[.int .i64 k', .int .i64 ep', .int .i64 fr', .int .i64 wh', .int .i64 tp', .int .i64 rd', .slice A' n' c'] 24)).trans (hb1.mono (by simp; omega))
  have r0 := h1.below hb
  have r1 := h1'.below hb
  clear hb1
  go_wp2_with (refine wpList_load_row rfl _ _ rfl _ rfl _ _ _ _ p0 Try.underlying24 rfl m7 ?_)
  refine (copy16_calls k ep fr wh tp rd A n c l _ HL.out hn r0).mono ?_
  rintro e w2 ⟨A2, c2, rfl, own2, hb2⟩
  have p0 := p0.under hb2
  have p1 := p1.under hb2
  have r0 := r0.below hb2
  have r1 := r1.below hb2
  have hb := hb.trans (hb2.mono hb.size)
  clear hb2
  go_wp2_with fail
  refine (encode_no k ep fr wh tp rd A2 n c2 _ HN.out).mono ?_
  rintro e w3 ⟨rfl, hb3⟩
  have p0 := p0.under hb3
  have p1 := p1.under hb3
  have r0 := r0.below hb3
  have r1 := r1.below hb3
  have hb := hb.trans (hb3.mono hb.size)
  clear hb3
  go_wp2_with (refine wpList_load_row rfl _ _ rfl _ rfl _ _ _ _ p1 Try.underlying24 rfl m7 ?_)
  refine (copy16_calls k' ep' fr' wh' tp' rd' A' n' c' l' _ HL'.out hn' r1).mono ?_
  rintro e w4 ⟨A4, c4, rfl, own4, hb4⟩
  have p0 := p0.under hb4
  have p1 := p1.under hb4
  have r0 := r0.below hb4
  have r1 := r1.below hb4
  have hb := hb.trans (hb4.mono hb.size)
  clear hb4
  go_wp2_with fail
  by_cases h' : MsgOk k' ep' fr' wh' tp' rd' n'
  · have h2 := h'
    unfold MsgOk at h2
    obtain ⟨k', rfl⟩ := Int.eq_ofNat_of_zero_le (show 0 ≤ k' by omega)
    obtain ⟨ep', rfl⟩ := Int.eq_ofNat_of_zero_le (show 0 ≤ ep' by omega)
    obtain ⟨fr', rfl⟩ := Int.eq_ofNat_of_zero_le (show 0 ≤ fr' by omega)
    obtain ⟨wh', rfl⟩ := Int.eq_ofNat_of_zero_le (show 0 ≤ wh' by omega)
    obtain ⟨tp', rfl⟩ := Int.eq_ofNat_of_zero_le (show 0 ≤ tp' by omega)
    obtain ⟨rd', rfl⟩ := Int.eq_ofNat_of_zero_le (show 0 ≤ rd' by omega)
    refine (encode_yes k' ep' fr' wh' tp' rd' A4 n' c4 l' _ HL'.out own4.rd h').mono ?_
    rintro e w5 ⟨A5, c5, rfl, own5, hb5⟩
    clear h' h2
    have hb := hb.trans (hb5.mono hb.size)
    clear hb5
    go_wp2_with fail
    go_ret
    exact ⟨rfl, hb⟩
  · refine (encode_no k' ep' fr' wh' tp' rd' A4 n' c4 _ h').mono ?_
    rintro e w5 ⟨rfl, hb5⟩
    clear h'
    have hb := hb.trans (hb5.mono hb.size)
    clear hb5
    go_wp2_with fail
    go_ret
    exact ⟨rfl, hb⟩

set_option maxHeartbeats 4000000 in
set_option maxRecDepth 100000 in
theorem unlike_two (k ep fr wh tp rd : Nat) (k' ep' fr' wh' tp' rd' : Int) (A A' : Option Addr) (n c n' c' : Nat) (l l' : List Nat) (w : World) (hl : l.length = n) (hn : n ≤ 140737488355328) (h1 : Rd w A (nums .u8 l)) (hl' : l'.length = n') (hn' : n' ≤ 140737488355328) (h1' : Rd w A' (nums .u8 l'))
    (h : MsgOk k ep fr wh tp rd n) (h' : ¬ MsgOk k' ep' fr' wh' tp' rd' n') :
    Calls Try.prog 4 #[.agg #[.int .i64 k, .int .i64 ep, .int .i64 fr, .int .i64 wh, .int .i64 tp, .int .i64 rd, .slice A n c], .agg #[.int .i64 k', .int .i64 ep', .int .i64 fr', .int .i64 wh', .int .i64 tp', .int .i64 rd', .slice A' n' c']] w fun e w' => e = .returned (.bool true) ∧ Below w.heap.size w w' := by
  have m7 := msg_size
  have HN := Lib.hid h
  have HN' := Lib.hid h'
  have HL := Lib.hid hl
  have HL' := Lib.hid hl'
  clear h h' hl hl'
  go_enter Try.func4, Try.ntmps4
  go_wp2_with fail
  refine (head_calls _).mono ?_
  rintro e w1 ⟨rfl, hb1⟩
  have p0 := ((Bk.new w 24 #[.int .i64 k, .int .i64 ep, .int .i64 fr, .int .i64 wh, .int .i64 tp, .int .i64 rd, .slice A n c]).alloc (.cells #[.int .i64 k', .int .i64 ep', .int .i64 fr', .int .i64 wh', .int .i64 tp', .int .i64 rd', .slice A' n' c'] 24)).under hb1
  have p1 := (Bk.new1 (w.alloc (.cells #[.int .i64 k, .int .i64 ep, .int .i64 fr, .int .i64 wh, .int .i64 tp, .int .i64 rd, .slice A n c] 24)) 24 #[.int .i64 k', .int .i64 ep', .int .i64 fr', .int .i64 wh', .int .i64 tp', .int .i64 rd', .slice A' n' c'] (World.size_alloc _ _).symm).under hb1
  have hb := ((below_alloc w (.cells #[.int .i64 k, .int .i64 ep, .int .i64 fr, .int .i64 wh, .int .i64 tp, .int .i64 rd, .slice A n c] 24)).alloc (by simp) (.cells #[.int .i64 k', .int .i64 ep', .int .i64 fr', .int .i64 wh', .int .i64 tp', .int .i64 rd', .slice A' n' c'] 24)).trans (hb1.mono (by simp; omega))
  have r0 := h1.below hb
  have r1 := h1'.below hb
  clear hb1
  go_wp2_with (refine wpList_load_row rfl _ _ rfl _ rfl _ _ _ _ p0 Try.underlying24 rfl m7 ?_)
  refine (copy16_calls k ep fr wh tp rd A n c l _ HL.out hn r0).mono ?_
  rintro e w2 ⟨A2, c2, rfl, own2, hb2⟩
  have p0 := p0.under hb2
  have p1 := p1.under hb2
  have r0 := r0.below hb2
  have r1 := r1.below hb2
  have hb := hb.trans (hb2.mono hb.size)
  clear hb2
  go_wp2_with fail
  refine (encode_yes k ep fr wh tp rd A2 n c2 l _ HL.out own2.rd HN.out).mono ?_
  rintro e w3 ⟨A3, c3, rfl, own3, hb3⟩
  have p0 := p0.under hb3
  have p1 := p1.under hb3
  have r0 := r0.below hb3
  have r1 := r1.below hb3
  have hb := hb.trans (hb3.mono hb.size)
  clear hb3
  go_wp2_with (refine wpList_load_row rfl _ _ rfl _ rfl _ _ _ _ p1 Try.underlying24 rfl m7 ?_)
  refine (copy16_calls k' ep' fr' wh' tp' rd' A' n' c' l' _ HL'.out hn' r1).mono ?_
  rintro e w4 ⟨A4, c4, rfl, own4, hb4⟩
  have p0 := p0.under hb4
  have p1 := p1.under hb4
  have r0 := r0.below hb4
  have r1 := r1.below hb4
  have hb := hb.trans (hb4.mono hb.size)
  clear hb4
  go_wp2_with fail
  refine (encode_no k' ep' fr' wh' tp' rd' A4 n' c4 _ HN'.out).mono ?_
  rintro e w5 ⟨rfl, hb5⟩
  have hb := hb.trans (hb5.mono hb.size)
  clear hb5
  go_wp2_with fail
  go_ret
  exact ⟨rfl, hb⟩

set_option maxHeartbeats 4000000 in
set_option maxRecDepth 100000 in
theorem unlike_both (k ep fr wh tp rd k' ep' fr' wh' tp' rd' : Nat) (A A' : Option Addr) (n c n' c' : Nat) (l l' : List Nat) (w : World) (hl : l.length = n) (hn : n ≤ 140737488355328) (h1 : Rd w A (nums .u8 l)) (hl' : l'.length = n') (hn' : n' ≤ 140737488355328) (h1' : Rd w A' (nums .u8 l'))
    (h : MsgOk k ep fr wh tp rd n) (h' : MsgOk k' ep' fr' wh' tp' rd' n') :
    Calls Try.prog 4 #[.agg #[.int .i64 k, .int .i64 ep, .int .i64 fr, .int .i64 wh, .int .i64 tp, .int .i64 rd, .slice A n c], .agg #[.int .i64 k', .int .i64 ep', .int .i64 fr', .int .i64 wh', .int .i64 tp', .int .i64 rd', .slice A' n' c']] w fun e w' => e = .returned (.bool true) ∧ Below w.heap.size w w' := by
  have m7 := msg_size
  have hsame := msgBytes_inj hl hl' h h'
  have HN := Lib.hid h
  have HN' := Lib.hid h'
  have HL := Lib.hid hl
  have HL' := Lib.hid hl'
  clear h h' hl hl'
  go_enter Try.func4, Try.ntmps4
  go_wp2_with fail
  refine (head_calls _).mono ?_
  rintro e w1 ⟨rfl, hb1⟩
  have p0 := ((Bk.new w 24 #[.int .i64 k, .int .i64 ep, .int .i64 fr, .int .i64 wh, .int .i64 tp, .int .i64 rd, .slice A n c]).alloc (.cells #[.int .i64 k', .int .i64 ep', .int .i64 fr', .int .i64 wh', .int .i64 tp', .int .i64 rd', .slice A' n' c'] 24)).under hb1
  have p1 := (Bk.new1 (w.alloc (.cells #[.int .i64 k, .int .i64 ep, .int .i64 fr, .int .i64 wh, .int .i64 tp, .int .i64 rd, .slice A n c] 24)) 24 #[.int .i64 k', .int .i64 ep', .int .i64 fr', .int .i64 wh', .int .i64 tp', .int .i64 rd', .slice A' n' c'] (World.size_alloc _ _).symm).under hb1
  have hb := ((below_alloc w (.cells #[.int .i64 k, .int .i64 ep, .int .i64 fr, .int .i64 wh, .int .i64 tp, .int .i64 rd, .slice A n c] 24)).alloc (by simp) (.cells #[.int .i64 k', .int .i64 ep', .int .i64 fr', .int .i64 wh', .int .i64 tp', .int .i64 rd', .slice A' n' c'] 24)).trans (hb1.mono (by simp; omega))
  have r0 := h1.below hb
  have r1 := h1'.below hb
  clear hb1
  have HS := Lib.hid hsame
  clear hsame
  go_wp2_with (refine wpList_load_row rfl _ _ rfl _ rfl _ _ _ _ p0 Try.underlying24 rfl m7 ?_)
  refine (copy16_calls k ep fr wh tp rd A n c l _ HL.out hn r0).mono ?_
  rintro e w2 ⟨A2, c2, rfl, own2, hb2⟩
  have p0 := p0.under hb2
  have p1 := p1.under hb2
  have r0 := r0.below hb2
  have r1 := r1.below hb2
  have hb := hb.trans (hb2.mono hb.size)
  clear hb2
  go_wp2_with fail
  refine (encode_yes k ep fr wh tp rd A2 n c2 l _ HL.out own2.rd HN.out).mono ?_
  rintro e w3 ⟨A3, c3, rfl, own3, hb3⟩
  have p0 := p0.under hb3
  have p1 := p1.under hb3
  have r0 := r0.below hb3
  have r1 := r1.below hb3
  have hb := hb.trans (hb3.mono hb.size)
  clear hb3
  go_wp2_with (refine wpList_load_row rfl _ _ rfl _ rfl _ _ _ _ p1 Try.underlying24 rfl m7 ?_)
  refine (copy16_calls k' ep' fr' wh' tp' rd' A' n' c' l' _ HL'.out hn' r1).mono ?_
  rintro e w4 ⟨A4, c4, rfl, own4, hb4⟩
  have p0 := p0.under hb4
  have p1 := p1.under hb4
  have r0 := r0.below hb4
  have r1 := r1.below hb4
  have own3 := own3.below hb4
  have hb := hb.trans (hb4.mono hb.size)
  clear hb4
  go_wp2_with fail
  refine (encode_yes k' ep' fr' wh' tp' rd' A4 n' c4 l' _ HL'.out own4.rd HN'.out).mono ?_
  rintro e W ⟨A5, c5, rfl, own5, hb5⟩
  have p0 := p0.under hb5
  have p1 := p1.under hb5
  have r0 := r0.below hb5
  have r1 := r1.below hb5
  have own3 := own3.below hb5
  have hb := hb.trans (hb5.mono hb.size)
  clear hb5
  have x0 : W.cell? ⟨w.heap.size, 0, none⟩ = some (.int .i64 k) := p0.cell 0
  have x1 : W.cell? ⟨w.heap.size, 1, none⟩ = some (.int .i64 ep) := p0.cell 1
  have x2 : W.cell? ⟨w.heap.size, 2, none⟩ = some (.int .i64 fr) := p0.cell 2
  have x3 : W.cell? ⟨w.heap.size, 3, none⟩ = some (.int .i64 wh) := p0.cell 3
  have x4 : W.cell? ⟨w.heap.size, 4, none⟩ = some (.int .i64 tp) := p0.cell 4
  have x5 : W.cell? ⟨w.heap.size, 5, none⟩ = some (.int .i64 rd) := p0.cell 5
  have x6 : W.cell? ⟨w.heap.size, 6, none⟩ = some (.slice A n c) := p0.cell 6
  have y0 : W.cell? ⟨(w.heap.size + 1), 0, none⟩ = some (.int .i64 k') := p1.cell 0
  have y1 : W.cell? ⟨(w.heap.size + 1), 1, none⟩ = some (.int .i64 ep') := p1.cell 1
  have y2 : W.cell? ⟨(w.heap.size + 1), 2, none⟩ = some (.int .i64 fr') := p1.cell 2
  have y3 : W.cell? ⟨(w.heap.size + 1), 3, none⟩ = some (.int .i64 wh') := p1.cell 3
  have y4 : W.cell? ⟨(w.heap.size + 1), 4, none⟩ = some (.int .i64 tp') := p1.cell 4
  have y5 : W.cell? ⟨(w.heap.size + 1), 5, none⟩ = some (.int .i64 rd') := p1.cell 5
  have y6 : W.cell? ⟨(w.heap.size + 1), 6, none⟩ = some (.slice A' n' c') := p1.cell 6
  have hlen3 := Lib.hid (show (msgBytes k ep fr wh tp rd l).length = 18 + n by rw [msgBytes_length, HL.out])
  have hlen5 := Lib.hid (show (msgBytes k' ep' fr' wh' tp' rd' l').length = 18 + n' by rw [msgBytes_length, HL'.out])
  obtain ⟨sm, hsm⟩ : ∃ b, SameMsg k ep fr wh tp rd k' ep' fr' wh' tp' rd' l l' = b := ⟨_, rfl⟩
  have hsb : SameB (msgBytes k ep fr wh tp rd l) (msgBytes k' ep' fr' wh' tp' rd' l') = sm := by rw [HS.out, hsm]
  have HSM := Lib.hid hsm
  have HSB := Lib.hid hsb
  clear hsm hsb HS
  have hn4 : n ≤ 4096 := by have := HN.out; unfold MsgOk at this; omega
  have hn4' : n' ≤ 4096 := by have := HN'.out; unfold MsgOk at this; omega
  have kk : IntKind.i64.wrap (18 + (n : Int)) = 18 + (n : Int) := by rw [IntKind.wrap_i64]; omega
  have kk2 : ((18 + (n : Int)) == 18 + (n : Int)) = true := by simp
  have kb : (sm == sm) = true := by simp
  go_wp2_with fail
  go_region_held3 (fun w' => w'.cell? ⟨w.heap.size, 0, none⟩ = some (.int .i64 k) ∧ w'.cell? ⟨w.heap.size, 1, none⟩ = some (.int .i64 ep) ∧ w'.cell? ⟨w.heap.size, 2, none⟩ = some (.int .i64 fr) ∧ w'.cell? ⟨w.heap.size, 3, none⟩ = some (.int .i64 wh) ∧ w'.cell? ⟨w.heap.size, 4, none⟩ = some (.int .i64 tp) ∧ w'.cell? ⟨w.heap.size, 5, none⟩ = some (.int .i64 rd) ∧ w'.cell? ⟨w.heap.size, 6, none⟩ = some (.slice A n c) ∧ w'.cell? ⟨(w.heap.size + 1), 0, none⟩ = some (.int .i64 k') ∧ w'.cell? ⟨(w.heap.size + 1), 1, none⟩ = some (.int .i64 ep') ∧ w'.cell? ⟨(w.heap.size + 1), 2, none⟩ = some (.int .i64 fr') ∧ w'.cell? ⟨(w.heap.size + 1), 3, none⟩ = some (.int .i64 wh') ∧ w'.cell? ⟨(w.heap.size + 1), 4, none⟩ = some (.int .i64 tp') ∧ w'.cell? ⟨(w.heap.size + 1), 5, none⟩ = some (.int .i64 rd') ∧ w'.cell? ⟨(w.heap.size + 1), 6, none⟩ = some (.slice A' n' c')) (first | exact ⟨‹_›, ‹_›, ‹_›, ‹_›, ‹_›, ‹_›, ‹_›, ‹_›, ‹_›, ‹_›, ‹_›, ‹_›, ‹_›, ‹_›⟩ | go_keep)
    (first
      | (go_at_call 13; refine (same_n A3 A5 _ _ (18 + n) (18 + n') c3 c5 _ hlen3.out hlen5.out (by first | exact own3.rd.drew | exact own3.rd.drew.below hb9) (by first | exact own5.rd.drew | exact own5.rd.drew.below hb9) (by omega) (by omega)).mono ?_; rintro e w8 ⟨rfl, nd, rfl⟩; rw [HSB.out])
      | (go_at_call 11; refine (same16_calls _ _ _ _ _ _ _ _ _ _ _ _ _ _ _ _ _ _ l l' _ HL.out HL'.out hn hn' (by first | exact r0.drew | exact r0.drew.drewN _) (by first | exact r1.drew | exact r1.drew.drewN _)).mono ?_; rintro e w9 ⟨rfl, hb9⟩; rw [HSM.out]; have x0 : w9.cell? ⟨w.heap.size, 0, none⟩ = some (.int .i64 k) := ((hb9.cell (p := ⟨w.heap.size, 0, none⟩) (by first | exact p0.lt | exact p1.lt)).trans x0); have x1 : w9.cell? ⟨w.heap.size, 1, none⟩ = some (.int .i64 ep) := ((hb9.cell (p := ⟨w.heap.size, 1, none⟩) (by first | exact p0.lt | exact p1.lt)).trans x1); have x2 : w9.cell? ⟨w.heap.size, 2, none⟩ = some (.int .i64 fr) := ((hb9.cell (p := ⟨w.heap.size, 2, none⟩) (by first | exact p0.lt | exact p1.lt)).trans x2); have x3 : w9.cell? ⟨w.heap.size, 3, none⟩ = some (.int .i64 wh) := ((hb9.cell (p := ⟨w.heap.size, 3, none⟩) (by first | exact p0.lt | exact p1.lt)).trans x3); have x4 : w9.cell? ⟨w.heap.size, 4, none⟩ = some (.int .i64 tp) := ((hb9.cell (p := ⟨w.heap.size, 4, none⟩) (by first | exact p0.lt | exact p1.lt)).trans x4); have x5 : w9.cell? ⟨w.heap.size, 5, none⟩ = some (.int .i64 rd) := ((hb9.cell (p := ⟨w.heap.size, 5, none⟩) (by first | exact p0.lt | exact p1.lt)).trans x5); have x6 : w9.cell? ⟨w.heap.size, 6, none⟩ = some (.slice A n c) := ((hb9.cell (p := ⟨w.heap.size, 6, none⟩) (by first | exact p0.lt | exact p1.lt)).trans x6); have y0 : w9.cell? ⟨(w.heap.size + 1), 0, none⟩ = some (.int .i64 k') := ((hb9.cell (p := ⟨(w.heap.size + 1), 0, none⟩) (by first | exact p0.lt | exact p1.lt)).trans y0); have y1 : w9.cell? ⟨(w.heap.size + 1), 1, none⟩ = some (.int .i64 ep') := ((hb9.cell (p := ⟨(w.heap.size + 1), 1, none⟩) (by first | exact p0.lt | exact p1.lt)).trans y1); have y2 : w9.cell? ⟨(w.heap.size + 1), 2, none⟩ = some (.int .i64 fr') := ((hb9.cell (p := ⟨(w.heap.size + 1), 2, none⟩) (by first | exact p0.lt | exact p1.lt)).trans y2); have y3 : w9.cell? ⟨(w.heap.size + 1), 3, none⟩ = some (.int .i64 wh') := ((hb9.cell (p := ⟨(w.heap.size + 1), 3, none⟩) (by first | exact p0.lt | exact p1.lt)).trans y3); have y4 : w9.cell? ⟨(w.heap.size + 1), 4, none⟩ = some (.int .i64 tp') := ((hb9.cell (p := ⟨(w.heap.size + 1), 4, none⟩) (by first | exact p0.lt | exact p1.lt)).trans y4); have y5 : w9.cell? ⟨(w.heap.size + 1), 5, none⟩ = some (.int .i64 rd') := ((hb9.cell (p := ⟨(w.heap.size + 1), 5, none⟩) (by first | exact p0.lt | exact p1.lt)).trans y5); have y6 : w9.cell? ⟨(w.heap.size + 1), 6, none⟩ = some (.slice A' n' c') := ((hb9.cell (p := ⟨(w.heap.size + 1), 6, none⟩) (by first | exact p0.lt | exact p1.lt)).trans y6)))
  all_goals
    go_wp2_with fail
    go_ret
    refine ⟨rfl, ?_⟩
    first
      | exact hb.drew.trans (hb9.mono hb.size)
      | exact below_drewN (hb.drew.trans (hb9.mono hb.size)) _
      | exact (below_drewN hb.drew _).trans (hb9.mono hb.size)
      | exact (below_drewN hb _).drew.trans (hb9.mono hb.size)
      | exact (below_drewN hb _).trans (hb9.mono hb.size)
end Go.Proofs.Ytkdimoijfkikoaa
