/- The walk of WireDecodes. Conditions: those of each theorem. -/
import Derived.Test.YtkdimoijfkikoaaWiredp
import Derived.Test.YtkdimoijfkikoaaWirela
import Derived.Test.YtkdimoijfkikoaaBasg
import Derived.Deep.QuietTactic
import Derived.BigQuiet
namespace Go.Proofs.Ytkdimoijfkikoaa
open Go.RowKit
set_option linter.unusedVariables false

set_option maxHeartbeats 4000000 in
set_option maxRecDepth 100000 in
theorem decodes_no (A : Option Addr) (len c : Nat) (l : List Nat) (w : World) (hl : l.length = len) (hlc : len ≤ c) (hc : c ≤ 9223372036854775807) (hn : len ≤ 140737488355328) (h1 : Rd w A (nums .u8 l)) (hb : ∀ x ∈ l, x < 256) (h : decE l ≠ 0) :
    Calls Try.prog 5 #[.slice A len c] w fun e w' => e = .returned (.bool true) ∧ Below w.heap.size w w' := by
  have m7 := msg_size
  have HN := Lib.hid h
  have HL := Lib.hid hl
  have HB := Lib.hid hb
  clear h hl hb
  go_enter Try.func5, Try.ntmps5
  go_wp2_with fail
  refine (head_calls _).mono ?_
  rintro e w1 ⟨rfl, hb1⟩
  have hb := hb1
  have r0 := h1.below hb
  clear hb1
  go_wp2_with fail
  refine (copy_n A l len c _ HL.out r0 hn).mono ?_
  rintro e w2 ⟨A1, c1, rfl, own1, hb2⟩
  have r0 := r0.below hb2
  have hb := hb.trans (hb2.mono hb.size)
  clear hb2
  go_wp2_with fail
  have hcap := own1.cap
  have hcap2 : c1 ≤ 9223372036854775807 := by have := hcap.2; simp only [maxLen] at this; omega
  refine (decode_calls A1 l len c1 _ HL.out hcap.1 hcap2 own1.rd HB.out).mono ?_
  rintro e w3 ⟨hno, _, hb3⟩
  have he : e = .returned (.tuple #[.agg #[.int .i64 0, .int .i64 0, .int .i64 0, .int .i64 0, .int .i64 0, .int .i64 0, .slice none 0 0], .int .i64 (decE l)]) := hno HN.out
  subst he
  have r0 := r0.below hb3
  have own1 := own1.below hb3
  have hb := hb.trans (hb3.mono hb.size)
  clear hb3
  obtain ⟨er, HE⟩ : ∃ er, Hid (decE l = er) := ⟨_, rfl⟩
  rw [HE.out]
  have hb := hb.alloc hb.size (.cells #[.int .i64 0, .int .i64 0, .int .i64 0, .int .i64 0, .int .i64 0, .int .i64 0, .slice none 0 0] 24)
  have r0 := r0.alloc (.cells #[.int .i64 0, .int .i64 0, .int .i64 0, .int .i64 0, .int .i64 0, .int .i64 0, .slice none 0 0] 24)
  have own1 := own1.alloc (.cells #[.int .i64 0, .int .i64 0, .int .i64 0, .int .i64 0, .int .i64 0, .int .i64 0, .slice none 0 0] 24)
  clear hno hcap hcap2
  have hnz : ¬ (er : Int) = 0 := by have := HN.out; have := HE.out; omega
  have hnzb : ((er : Int) == 0) = false := by simp; omega
  go_wp2_with fail
  refine (same_n A1 A l l len len c1 c _ HL.out HL.out own1.rd r0 hn hn).mono ?_
  rintro e w4 ⟨rfl, nd, rfl⟩
  have hsm : SameB l l = true := by simp [SameB]
  rw [hsm]
  clear hsm own1
  go_wp2_with fail
  refine (same16_calls _ _ _ _ _ _ _ _ _ _ _ _ none none 0 0 0 0 [] [] _ rfl rfl (by omega) (by omega) (Rd.nil _ _) (Rd.nil _ _)).mono ?_
  rintro e w5 ⟨rfl, hb5⟩
  have hsm : SameMsg 0 0 0 0 0 0 0 0 0 0 0 0 [] [] = true := by decide
  rw [hsm]
  clear hsm
  have r0 := r0.drewN nd
  have hb := below_drewN hb nd
  have r0 := r0.below hb5
  have hb := hb.trans (hb5.mono hb.size)
  clear hb5
  by_cases hs : len < 18
  · have h16 : er = 16 := by rw [← HE.out]; unfold decE; rw [if_pos (by have := HL.out; omega)]
    subst h16
    go_wp2_with fail
    go_ret
    exact ⟨rfl, hb⟩
  · obtain ⟨b, o, rfl, _, hcell⟩ := r0.at_ (k := 0) (by have := HL.out; simp [nums]; omega)
    have hcl : ∀ j, j < len → w5.cell? ⟨b, o + j, none⟩ = some (.int .u8 ((l.getD j 0 : Nat) : Int)) := by
      intro j hj
      have hjl : j < l.length := by have := HL.out; omega
      have := hcell j (by simpa [nums] using hjl)
      rw [this, nums_get, List.getD_eq_getElem?_getD, List.getElem?_eq_getElem hjl]; rfl
    have c16 := hcl 16 (by omega)
    have c17 := hcl 17 (by omega)
    have hnb : be ((l.drop 16).take 2) = 256 * l.getD 16 0 + l.getD 17 0 := by
      obtain ⟨a0, a1, a2, a3, a4, a5, a6, a7, a8, a9, b0, b1, b2, b3, b4, b5, b6, b7, t, e⟩ := list18 (l := l) (by have := HL.out; omega)
      rw [e]
      simp [be]; omega
    have hx16 : l.getD 16 0 < 256 := by
      rw [List.getD_eq_getElem?_getD, List.getElem?_eq_getElem (by have := HL.out; omega)]; exact HB.out _ (List.getElem_mem _)
    have hx17 : l.getD 17 0 < 256 := by
      rw [List.getD_eq_getElem?_getD, List.getElem?_eq_getElem (by have := HL.out; omega)]; exact HB.out _ (List.getElem_mem _)
    obtain ⟨x16, e16⟩ : ∃ x, l.getD 16 0 = x := ⟨_, rfl⟩
    obtain ⟨x17, e17⟩ : ∃ x, l.getD 17 0 = x := ⟨_, rfl⟩
    rw [e16] at c16 hx16 hnb
    rw [e17] at c17 hx17 hnb
    have hdec : decE l = if len < 18 + (256 * x16 + x17) then 16 else if 18 + (256 * x16 + x17) < len then 17 else 60 := by
      have hn0 := HN.out
      have hll := HL.out
      unfold decE at hn0 ⊢
      rw [hnb, hll] at hn0 ⊢
      rw [if_neg hs] at hn0 ⊢
      by_cases g1 : len < 18 + (256 * x16 + x17)
      · rw [if_pos g1, if_pos g1]
      · rw [if_neg g1] at hn0 ⊢
        rw [if_neg g1]
        by_cases g2 : 18 + (256 * x16 + x17) < len
        · rw [if_pos g2, if_pos g2]
        · rw [if_neg g2] at hn0 ⊢
          rw [if_neg g2]
          by_cases g3 : 1099511627776 < be ((l.drop 8).take 8)
          · rw [if_pos g3]
          · rw [if_neg g3] at hn0 ⊢
            by_cases g4 : MsgOk (l.getD 0 0) (be ((l.drop 1).take 4)) (l.getD 5 0) (l.getD 6 0) (l.getD 7 0) (be ((l.drop 8).take 8)) (len - 18)
            · rw [if_pos g4] at hn0; omega
            · rw [if_neg g4]
    rw [HE.out] at hdec
    have i16 : (16 : Int) < (len : Int) := by omega
    have i17 : (17 : Int) < (len : Int) := by omega
    clear e16 e17 hnb hcl hcell r0 HB HN
    have HD := Lib.hid hdec
    clear hdec
    by_cases g1 : len < 18 + (256 * x16 + x17)
    · have h16 : er = 16 := by have := HD.out; rw [if_pos g1] at this; exact this
      subst h16
      clear HD HE
      have k1 : IntKind.i64.wrap (256 * (x16 : Int)) = 256 * (x16 : Int) := by rw [IntKind.wrap_i64]; omega
      have k2 : IntKind.i64.wrap (256 * (x16 : Int) + (x17 : Int)) = 256 * (x16 : Int) + (x17 : Int) := by rw [IntKind.wrap_i64]; omega
      go_wp2_with fail
      go_quiet (fail)
      clear k1 k2
      go_wp2_with fail
      go_ret
      exact ⟨rfl, below_drewN hb _⟩
    · by_cases g2 : 18 + (256 * x16 + x17) < len
      · have h17 : er = 17 := by have := HD.out; rw [if_neg g1, if_pos g2] at this; exact this
        subst h17
        clear HD HE
        have k1 : IntKind.i64.wrap (256 * (x16 : Int)) = 256 * (x16 : Int) := by rw [IntKind.wrap_i64]; omega
        have k2 : IntKind.i64.wrap (256 * (x16 : Int) + (x17 : Int)) = 256 * (x16 : Int) + (x17 : Int) := by rw [IntKind.wrap_i64]; omega
        go_wp2_with fail
        go_quiet (fail)
        clear k1 k2
        go_wp2_with fail
        go_ret
        exact ⟨rfl, below_drewN hb _⟩
      · have h60 : er = 60 := by have := HD.out; rw [if_neg g1, if_neg g2] at this; exact this
        subst h60
        clear HD HE
        have k1 : IntKind.i64.wrap (256 * (x16 : Int)) = 256 * (x16 : Int) := by rw [IntKind.wrap_i64]; omega
        have k2 : IntKind.i64.wrap (256 * (x16 : Int) + (x17 : Int)) = 256 * (x16 : Int) + (x17 : Int) := by rw [IntKind.wrap_i64]; omega
        go_wp2_with fail
        go_quiet (fail)
        clear k1 k2
        go_wp2_with fail
        go_ret
        exact ⟨rfl, below_drewN hb _⟩


set_option maxHeartbeats 4000000 in
set_option maxRecDepth 100000 in
theorem decodes_yes (A : Option Addr) (len c : Nat) (l : List Nat) (w : World) (hl : l.length = len) (hlc : len ≤ c) (hc : c ≤ 9223372036854775807) (hn : len ≤ 140737488355328) (h1 : Rd w A (nums .u8 l)) (hb : ∀ x ∈ l, x < 256) (h : decE l = 0) :
    Calls Try.prog 5 #[.slice A len c] w fun e w' => e = .returned (.bool true) ∧ Below w.heap.size w w' := by
  have m7 := msg_size
  obtain ⟨z1, z2, z3, z4⟩ := decE_zero h
  have hde := dec_enc z1 z2 hb
  have h18 : 18 ≤ len := by omega
  have HN := Lib.hid h
  have HL := Lib.hid hl
  have HB := Lib.hid hb
  have hokl := z4
  rw [hl] at z4
  clear z2 z3 z1 hokl
  obtain ⟨k, ek⟩ : ∃ x, l.getD 0 0 = x := ⟨_, rfl⟩
  obtain ⟨ep, eep⟩ : ∃ x, be ((l.drop 1).take 4) = x := ⟨_, rfl⟩
  obtain ⟨fr, efr⟩ : ∃ x, l.getD 5 0 = x := ⟨_, rfl⟩
  obtain ⟨wh, ewh⟩ : ∃ x, l.getD 6 0 = x := ⟨_, rfl⟩
  obtain ⟨tp, etp⟩ : ∃ x, l.getD 7 0 = x := ⟨_, rfl⟩
  obtain ⟨rd, erd⟩ : ∃ x, be ((l.drop 8).take 8) = x := ⟨_, rfl⟩
  obtain ⟨body, ebd⟩ : ∃ x, l.drop 18 = x := ⟨_, rfl⟩
  have hbl : body.length = len - 18 := by rw [← ebd, List.length_drop, hl]
  rw [ek, eep, efr, ewh, etp, erd] at z4
  rw [ek, eep, efr, ewh, etp, erd, ebd] at hde
  have HBL := Lib.hid hbl
  have HDE := Lib.hid hde
  have HOK := Lib.hid z4
  have HE := Lib.hid (And.intro ek (And.intro eep (And.intro efr (And.intro ewh (And.intro etp (And.intro erd ebd))))))
  clear h hl hb hbl hde z4 ek eep efr ewh etp erd ebd
  go_enter Try.func5, Try.ntmps5
  go_wp2_with fail
  refine (head_calls _).mono ?_
  rintro e w1 ⟨rfl, hb1⟩
  have hb := hb1
  have hw01 := hb1.size
  have r0 := h1.below hb
  clear hb1
  go_wp2_with fail
  refine (copy_n A l len c _ HL.out r0 hn).mono ?_
  rintro e w2 ⟨A1, c1, rfl, own1, hb2⟩
  have r0 := r0.below hb2
  have hb := hb.trans (hb2.mono hb.size)
  clear hb2
  have lt1 := own1.lt
  go_wp2_with fail
  have hcap := own1.cap
  have hcap2 : c1 ≤ 9223372036854775807 := by have := hcap.2; simp only [maxLen] at this; omega
  refine (decode_calls A1 l len c1 _ HL.out hcap.1 hcap2 own1.rd HB.out).mono ?_
  rintro e w3 ⟨_, hyes, hb3⟩
  obtain ⟨A2, c2, he, own2⟩ := hyes HN.out
  have he : e = .returned (.tuple #[.agg #[.int .i64 k, .int .i64 ep, .int .i64 fr, .int .i64 wh, .int .i64 tp, .int .i64 rd, .slice A2 (len - 18) c2], .int .i64 0]) := by
    obtain ⟨ek, eep, efr, ewh, etp, erd, ebd⟩ := HE.out
    rw [he, ek, eep, efr, ewh, etp, erd]; rfl
  have own2 : Own w3 w2.heap.size 5 A2 (len - 18) c2 (nums .u8 body) := by
    obtain ⟨ek, eep, efr, ewh, etp, erd, ebd⟩ := HE.out
    rw [ebd] at own2; exact own2
  subst he
  have hb3s := hb3.size
  clear HE hyes
  have r0 := r0.below hb3
  have own1 := own1.below hb3
  have hb := hb.trans (hb3.mono hb.size)
  clear hb3
  have hb := hb.alloc hb.size (.cells #[.int .i64 k, .int .i64 ep, .int .i64 fr, .int .i64 wh, .int .i64 tp, .int .i64 rd, .slice A2 (len - 18) c2] 24)
  have r0 := r0.alloc (.cells #[.int .i64 k, .int .i64 ep, .int .i64 fr, .int .i64 wh, .int .i64 tp, .int .i64 rd, .slice A2 (len - 18) c2] 24)
  have own1 := own1.alloc (.cells #[.int .i64 k, .int .i64 ep, .int .i64 fr, .int .i64 wh, .int .i64 tp, .int .i64 rd, .slice A2 (len - 18) c2] 24)
  have own2 := own2.alloc (.cells #[.int .i64 k, .int .i64 ep, .int .i64 fr, .int .i64 wh, .int .i64 tp, .int .i64 rd, .slice A2 (len - 18) c2] 24)
  have p1 := Bk.new w3 24 #[.int .i64 k, .int .i64 ep, .int .i64 fr, .int .i64 wh, .int .i64 tp, .int .i64 rd, .slice A2 (len - 18) c2]
  clear hcap hcap2
  go_wp2_with fail
  refine (same_n A1 A l l len len c1 c _ HL.out HL.out own1.rd r0 hn hn).mono ?_
  rintro e w4 ⟨rfl, nd, rfl⟩
  have hsm : SameB l l = true := by simp [SameB]
  rw [hsm]
  clear hsm
  have hb := below_drewN hb nd
  have r0 := r0.drewN nd
  have own1 := own1.drewN nd
  have own2 := own2.drewN nd
  have p1 := p1.drewN nd
  have hWs : w3.heap.size < ((w3.alloc (.cells #[.int .i64 k, .int .i64 ep, .int .i64 fr, .int .i64 wh, .int .i64 tp, .int .i64 rd, .slice A2 (len - 18) c2] 24)).drewN nd).heap.size := by simp
  generalize hW : (w3.alloc (.cells #[.int .i64 k, .int .i64 ep, .int .i64 fr, .int .i64 wh, .int .i64 tp, .int .i64 rd, .slice A2 (len - 18) c2] 24)).drewN nd = W at *
  clear hW
  go_wp2_with (refine wpList_load_row rfl _ _ rfl _ rfl _ _ _ _ p1 Try.underlying24 rfl m7 ?_)
  refine (encode_yes k ep fr wh tp rd A2 (len - 18) c2 body _ HBL.out own2.rd HOK.out).mono ?_
  rintro e w5 ⟨A5, c5, rfl, own5, hb5⟩
  rw [HDE.out] at own5
  rw [show 18 + (len - 18) = len from by omega] at own5 ⊢
  obtain ⟨b0, o0, rfl, hb0, _⟩ := h1.at_ (k := 0) (by have := HL.out; simp [nums]; omega)
  obtain ⟨b1, o1, rfl, _, _⟩ := own1.rd.at_ (k := 0) (by have := own1.len; omega)
  obtain ⟨g1, g2⟩ := lt1 b1 rfl
  have hz3 := hb3s
  have ne2 : blk A2 ≠ some b1 := fun e => by have := (own2.lt b1 e).1; omega
  have ne5 : blk A5 ≠ some b1 := fun e => by have := (own5.lt b1 e).1; omega
  have ne0 : blk (some (⟨b0, o0, none⟩ : Addr)) ≠ some b1 := fun e => by injection e with e; simp only at e; omega
  have nep : some w3.heap.size ≠ some b1 := fun e => by injection e with e; omega
  have p1 := p1.under hb5
  have r0 := r0.below hb5
  have own1 := own1.below hb5
  have own2 := own2.below hb5
  have hb := hb.trans (hb5.mono hb.size)
  clear hb5
  go_wp2_with fail
  go_loopw [34] (fun i wr => ∃ (j : Nat) (xs : List Nat), j ≤ len ∧ i = .int .i64 j ∧ xs.length = len ∧ (∀ x ∈ xs, x < 256) ∧ Own wr w1.heap.size 5 (some ⟨b1, o1, none⟩) len c1 (nums .u8 xs) ∧ w5.grownBy wr (some b1)) (fun i _ => len - (intOf i).toNat)
  case atStart => exact ⟨0, l, Nat.zero_le _, rfl, HL.out, HB.out, own1, World.grownBy.refl w5 _⟩
  case round =>
    obtain ⟨j, xs, hj, rfl, hxl, hxb, hown, hbr⟩ := hrel
    by_cases hlt : j < len
    · have ho := hown.zero
      subst ho
      have hcell := hown.cellNum j (by omega)
      have hfree := hown.free j
      have hx : xs[j] < 256 := hxb _ (List.getElem_mem _)
      generalize xs[j] = x at hcell hx
      have hst := hown.storeNum j (x ^^^ 255)
      have hbr' := hbr.trans (hown.store j (.int .u8 ((x ^^^ 255 : Nat) : Int))).2.1
      have hxo : bits BinOp.xor IntKind.u8 (x : Int) 255 = ((x ^^^ 255 : Nat) : Int) := u8_xor_nat x 255 hx (by omega)
      have hxb' : ∀ y ∈ xs.set j (x ^^^ 255), y < 256 := by
        intro y hx'
        rcases List.mem_or_eq_of_mem_set hx' with h | h
        · exact hxb y h
        · rw [h]; exact Nat.xor_lt_two_pow (n := 8) (by omega) (by omega)
      have HX := Lib.hid hxl
      have HXB := Lib.hid hxb'
      have HO := Lib.hid hxo
      clear hxb hxl hxb' hbr hown hxo own1 own2 own5 r0 p1 hb ne2 ne5 ne0 nep
      go_wp2
      go_roundw
      case rel =>
        rw [HO.out]
        exact ⟨j + 1, xs.set j (x ^^^ 255), by omega, by go_num, by rw [List.length_set]; exact HX.out, HXB.out, hst, hbr'⟩
      case measure => simp [intOf]; omega
    · clear hxb hxl hown own1
      have p1 := p1.grown hbr nep
      have r0 := r0.grown hbr (.inr ne0)
      have own2 := own2.grown hbr (.inr ne2)
      have own5 := own5.grown hbr (.inr ne5)
      have hb := hb.grown hbr hb.size (fun g hg => by injection hg with hg; omega)
      clear hbr
      go_wp2_with (refine wpList_load_row rfl _ _ rfl _ rfl _ _ _ _ p1 Try.underlying24 rfl m7 ?_)
      refine (encode_yes k ep fr wh tp rd A2 (len - 18) c2 body _ HBL.out own2.rd HOK.out).mono ?_
      rintro e w6 ⟨A6, c6, rfl, own6, hb6⟩
      rw [HDE.out] at own6
      rw [show 18 + (len - 18) = len from by omega] at own6 ⊢
      have r0 := r0.below hb6
      have own5 := own5.below hb6
      have hb := hb.trans (hb6.mono hb.size)
      clear hb6
      go_wp2_with fail
      refine (same_n A5 _ l l len len c5 c _ HL.out HL.out own5.rd r0 hn hn).mono ?_
      rintro e w7 ⟨rfl, n7, rfl⟩
      have hsm : SameB l l = true := by simp [SameB]
      rw [hsm]
      go_wp2_with fail
      refine (same_n A6 _ l l len len c6 c _ HL.out HL.out (own6.rd.drewN n7) (r0.drewN n7) hn hn).mono ?_
      rintro e w8 ⟨rfl, n8, rfl⟩
      rw [hsm]
      clear hsm
      go_wp2_with fail
      go_ret
      exact ⟨rfl, below_drewN hb _⟩
end Go.Proofs.Ytkdimoijfkikoaa
