/- The walk of WireBack. Conditions: those of each theorem. -/
import Derived.Test.YtkdimoijfkikoaaWiredp
import Derived.Test.YtkdimoijfkikoaaWirela
import Derived.Test.YtkdimoijfkikoaaBasg
namespace Go.Proofs.Ytkdimoijfkikoaa
open Go.RowKit
set_option linter.unusedVariables false

section
variable {k ep fr wh tp rd n : Nat} {l : List Nat}
theorem decE_msg (hl : l.length = n) (h : MsgOk k ep fr wh tp rd n) : decE (msgBytes k ep fr wh tp rd l) = 0 := by
  have h' := h
  unfold MsgOk at h'
  obtain ⟨a1, a2, a3, a4, a5, a6, a7, a8⟩ := msg_parts k ep fr wh tp rd l [] (by omega) (by omega) (by omega) (by omega) (by omega) (by omega) (by omega)
  simp only [List.append_nil] at a1 a2 a3 a4 a5 a6 a7 a8
  unfold decE
  rw [a1, a2, a3, a4, a5, a6, a7, msgBytes_length, hl]
  rw [if_neg (by omega), if_neg (by omega), if_neg (by omega), if_neg (by omega), if_pos]
  rw [show 18 + n - 18 = n from by omega]
  exact h
theorem decE_cut {cut : Nat} (hl : l.length = n) (h : MsgOk k ep fr wh tp rd n) (hc : cut < 18 + n) : decE ((msgBytes k ep fr wh tp rd l).take cut) = 16 := by
  have h' := h
  unfold MsgOk at h'
  obtain ⟨a1, a2, a3, a4, a5, a6, a7, a8⟩ := msg_parts k ep fr wh tp rd l [] (by omega) (by omega) (by omega) (by omega) (by omega) (by omega) (by omega)
  simp only [List.append_nil] at a7
  have hlen : ((msgBytes k ep fr wh tp rd l).take cut).length = cut := by rw [List.length_take, msgBytes_length, hl]; omega
  unfold decE
  rw [hlen]
  by_cases h18 : cut < 18
  · rw [if_pos h18]
  · rw [if_neg h18]
    have e : (((msgBytes k ep fr wh tp rd l).take cut).drop 16).take 2 = ((msgBytes k ep fr wh tp rd l).drop 16).take 2 := by
      rw [List.drop_take, List.take_take, Nat.min_eq_left (by omega)]
    rw [e, a7, hl, if_pos (by omega)]
theorem decE_more (hl : l.length = n) (h : MsgOk k ep fr wh tp rd n) : decE (msgBytes k ep fr wh tp rd l ++ [0]) = 17 := by
  have h' := h
  unfold MsgOk at h'
  obtain ⟨a1, a2, a3, a4, a5, a6, a7, a8⟩ := msg_parts k ep fr wh tp rd l [0] (by omega) (by omega) (by omega) (by omega) (by omega) (by omega) (by omega)
  unfold decE
  rw [a7, List.length_append, msgBytes_length, hl]
  rw [if_neg (by simp; omega), if_neg (by simp), if_pos (by simp)]
end

set_option maxHeartbeats 4000000 in
set_option maxRecDepth 100000 in
theorem back_no (k ep fr wh tp rd cut : Int) (A : Option Addr) (n c : Nat) (l : List Nat) (w : World) (hl : l.length = n) (hn : n ≤ 140737488355328) (h1 : Rd w A (nums .u8 l)) (h : ¬ MsgOk k ep fr wh tp rd n) :
    Calls Try.prog 6 #[.agg #[.int .i64 k, .int .i64 ep, .int .i64 fr, .int .i64 wh, .int .i64 tp, .int .i64 rd, .slice A n c], .int .i64 cut] w fun e w' => e = .returned (.bool true) ∧ Below w.heap.size w w' := by
  have m7 := msg_size
  have HN := Lib.hid h
  have HL := Lib.hid hl
  clear h hl
  go_enter Try.func6, Try.ntmps6
  go_wp2_with fail
  refine (head_calls _).mono ?_
  rintro e w1 ⟨rfl, hb1⟩
  have p0 := (Bk.new w 24 #[.int .i64 k, .int .i64 ep, .int .i64 fr, .int .i64 wh, .int .i64 tp, .int .i64 rd, .slice A n c]).under hb1
  have hb := (below_alloc w _).trans (hb1.mono (by simp))
  have r0 := h1.below hb
  clear hb1
  go_wp2_with (refine wpList_load_row rfl _ _ rfl _ rfl _ _ _ _ p0 Try.underlying24 rfl m7 ?_)
  refine (copy16_calls k ep fr wh tp rd A n c l _ HL.out hn r0).mono ?_
  rintro e w2 ⟨A1, c1, rfl, own1, hb2⟩
  have hb := hb.trans (hb2.mono hb.size)
  clear hb2
  go_wp2_with fail
  refine (encode_no k ep fr wh tp rd A1 n c1 _ HN.out).mono ?_
  rintro e w3 ⟨rfl, hb3⟩
  have hb := hb.trans (hb3.mono hb.size)
  clear hb3
  go_wp2_with fail
  go_ret
  exact ⟨rfl, hb⟩

set_option maxHeartbeats 4000000 in
set_option maxRecDepth 100000 in
theorem back_yes (k ep fr wh tp rd : Nat) (cut : Int) (m : Nat) (A : Option Addr) (n c : Nat) (l : List Nat) (w : World) (hl : l.length = n) (hn : n ≤ 140737488355328) (h1 : Rd w A (nums .u8 l)) (hbt : ∀ x ∈ l, x < 256) (h : MsgOk k ep fr wh tp rd n)
    (hcut : ((cut < 0 ∨ (18 + n : Nat) ≤ cut) ∧ m = 17 + n) ∨ (0 ≤ cut ∧ cut < (18 + n : Nat) ∧ cut = m)) :
    Calls Try.prog 6 #[.agg #[.int .i64 k, .int .i64 ep, .int .i64 fr, .int .i64 wh, .int .i64 tp, .int .i64 rd, .slice A n c], .int .i64 cut] w fun e w' => e = .returned (.bool true) ∧ Below w.heap.size w w' := by
  obtain ⟨i0, hi0, hz0, hz1, hzb⟩ := info_parts u8_info
  have m7 := msg_size
  have hn4 : n ≤ 4096 := by unfold MsgOk at h; omega
  have hm : m < 18 + n := by omega
  have D0 := Lib.hid (decE_msg hl h)
  have D1 := Lib.hid (decE_cut hl h hm)
  have D2 := Lib.hid (decE_more hl h)
  have PA := Lib.hid (msg_parts k ep fr wh tp rd l [] (by unfold MsgOk at h; omega) (by unfold MsgOk at h; omega) (by unfold MsgOk at h; omega) (by unfold MsgOk at h; omega) (by unfold MsgOk at h; omega) (by unfold MsgOk at h; omega) (by omega))
  have HLEN := Lib.hid (show (msgBytes k ep fr wh tp rd l).length = 18 + n by rw [msgBytes_length, hl])
  have HBB := Lib.hid (msgBytes_lt (k := k) (ep := ep) (fr := fr) (wh := wh) (tp := tp) (rd := rd) hbt)
  have HN := Lib.hid h
  have HL := Lib.hid hl
  have HC := Lib.hid hcut
  clear h hl hcut hbt
  go_enter Try.func6, Try.ntmps6
  go_wp2_with fail
  refine (head_calls _).mono ?_
  rintro e w1 ⟨rfl, hb1⟩
  have p0 := (Bk.new w 24 #[.int .i64 k, .int .i64 ep, .int .i64 fr, .int .i64 wh, .int .i64 tp, .int .i64 rd, .slice A n c]).under hb1
  have hb := (below_alloc w _).trans (hb1.mono (by simp))
  have r0 := h1.below hb
  clear hb1
  go_wp2_with (refine wpList_load_row rfl _ _ rfl _ rfl _ _ _ _ p0 Try.underlying24 rfl m7 ?_)
  refine (copy16_calls k ep fr wh tp rd A n c l _ HL.out hn r0).mono ?_
  rintro e w2 ⟨A1, c1, rfl, own1, hb2⟩
  have p0 := p0.under hb2
  have r0 := r0.below hb2
  have hb := hb.trans (hb2.mono hb.size)
  clear hb2
  go_wp2_with fail
  refine (encode_yes k ep fr wh tp rd A1 n c1 l _ HL.out own1.rd HN.out).mono ?_
  rintro e w3 ⟨A3, c3, rfl, own3, hb3⟩
  clear own1
  have p0 := p0.under hb3
  have r0 := r0.below hb3
  have hb := hb.trans (hb3.mono hb.size)
  clear hb3
  go_wp2_with fail
  have hcap := own3.cap
  refine (decode_calls A3 _ (18 + n) c3 _ HLEN.out hcap.1 (by have := hcap.2; simp only [maxLen] at this; omega) own3.rd HBB.out).mono ?_
  rintro e w4 ⟨_, hyes, hb4⟩
  obtain ⟨A4, c4, he, own4⟩ := hyes D0.out
  have he : e = .returned (.tuple #[.agg #[.int .i64 k, .int .i64 ep, .int .i64 fr, .int .i64 wh, .int .i64 tp, .int .i64 rd, .slice A4 n c4], .int .i64 0]) := by
    obtain ⟨a1, a2, a3, a4, a5, a6, a7, a8⟩ := PA.out
    simp only [List.append_nil] at a1 a2 a3 a4 a5 a6 a7 a8
    rw [a1, a2, a3, a4, a5, a6] at he
    rw [he, show 18 + n - 18 = n from by omega]; rfl
  have own4 : Own w4 w3.heap.size 5 A4 n c4 (nums .u8 l) := by
    obtain ⟨a1, a2, a3, a4, a5, a6, a7, a8⟩ := PA.out
    simp only [List.append_nil] at a8
    rw [a8, show 18 + n - 18 = n from by omega] at own4
    exact own4
  subst he
  clear hyes hcap PA D0
  have p0 := p0.under hb4
  have r0 := r0.below hb4
  have own3 := own3.below hb4
  have hb := hb.trans (hb4.mono hb.size)
  clear hb4
  have p0 := p0.alloc (.cells #[.int .i64 k, .int .i64 ep, .int .i64 fr, .int .i64 wh, .int .i64 tp, .int .i64 rd, .slice A4 n c4] 24)
  have p4 := Bk.new w4 24 #[.int .i64 k, .int .i64 ep, .int .i64 fr, .int .i64 wh, .int .i64 tp, .int .i64 rd, .slice A4 n c4]
  have r0 := r0.alloc (.cells #[.int .i64 k, .int .i64 ep, .int .i64 fr, .int .i64 wh, .int .i64 tp, .int .i64 rd, .slice A4 n c4] 24)
  have r4 := own4.rd.alloc (.cells #[.int .i64 k, .int .i64 ep, .int .i64 fr, .int .i64 wh, .int .i64 tp, .int .i64 rd, .slice A4 n c4] 24)
  have own3 := own3.alloc (.cells #[.int .i64 k, .int .i64 ep, .int .i64 fr, .int .i64 wh, .int .i64 tp, .int .i64 rd, .slice A4 n c4] 24)
  have hb := hb.alloc hb.size (.cells #[.int .i64 k, .int .i64 ep, .int .i64 fr, .int .i64 wh, .int .i64 tp, .int .i64 rd, .slice A4 n c4] 24)
  generalize hW : w4.alloc (.cells #[.int .i64 k, .int .i64 ep, .int .i64 fr, .int .i64 wh, .int .i64 tp, .int .i64 rd, .slice A4 n c4] 24) = W at *
  go_wp2_with (first | (refine wpList_load_rowG rfl _ _ rfl _ rfl _ _ _ _ p4 Try.underlying24 rfl m7 ?_) | (refine wpList_load_rowG rfl _ _ rfl _ rfl _ _ _ _ p0 Try.underlying24 rfl m7 ?_))
  clear hW own4
  refine (same16_calls _ _ _ _ _ _ _ _ _ _ _ _ _ _ _ _ _ _ l l _ HL.out HL.out hn hn r4 r0).mono ?_
  rintro e w5 ⟨rfl, hb5⟩
  have hsm : SameMsg k ep fr wh tp rd k ep fr wh tp rd l l = true := by simp [SameMsg]
  rw [hsm]
  clear hsm r0 r4 p0 p4
  have own3 := own3.below hb5
  have hb := hb.trans (hb5.mono hb.size)
  clear hb5
  have hcap := own3.cap
  have hcapx : c3 ≤ 9223372036854775807 := by have := hcap.2; simp only [maxLen] at this; exact this
  have hcc := hcap.1
  have own3c := own3
  rcases HC.out with ⟨hc1 | hc1, rfl⟩ | ⟨hc1, hc2, rfl⟩
  · have rcut := own3.rd.take (17 + n)
    rw [show (nums .u8 (msgBytes k ep fr wh tp rd l)).take (17 + n) = nums .u8 ((msgBytes k ep fr wh tp rd l).take (17 + n)) from by simp [nums, List.map_take]] at rcut
    have LC := Lib.hid (show ((msgBytes k ep fr wh tp rd l).take (17 + n)).length = 17 + n by rw [List.length_take, HLEN.out]; omega)
    have HBC := Lib.hid (show ∀ x ∈ (msgBytes k ep fr wh tp rd l).take (17 + n), x < 256 from fun x hx => HBB.out x (List.mem_of_mem_take hx))
    go_wp2_with fail
    refine (copy_n A3 _ (17 + n) c3 _ LC.out rcut (by omega)).mono ?_
    rintro e w6 ⟨A6, c6, rfl, own6, hb6⟩
    have own3 := own3.below hb6
    have hb := hb.trans (hb6.mono hb.size)
    clear hb6
    go_wp2_with fail
    have hcap6 := own6.cap
    refine (decode_calls A6 _ (17 + n) c6 _ LC.out hcap6.1 (by have := hcap6.2; simp only [maxLen] at this; omega) own6.rd HBC.out).mono ?_
    rintro e w7 ⟨hno, _, hb7⟩
    have he : e = .returned (.tuple #[.agg #[.int .i64 0, .int .i64 0, .int .i64 0, .int .i64 0, .int .i64 0, .int .i64 0, .slice none 0 0], .int .i64 16]) := by have := hno (by rw [D1.out]; omega); rw [D1.out] at this; exact this
    subst he
    clear hno own6 hcap6 LC HBC rcut
    have own3 := own3.below hb7
    have hb := hb.trans (hb7.mono hb.size)
    clear hb7
    have own3 := own3.alloc (.cells #[.int .i64 0, .int .i64 0, .int .i64 0, .int .i64 0, .int .i64 0, .int .i64 0, .slice none 0 0] 24)
    have hb := hb.alloc hb.size (.cells #[.int .i64 0, .int .i64 0, .int .i64 0, .int .i64 0, .int .i64 0, .int .i64 0, .slice none 0 0] 24)
    have hbs := hb.size
    go_wp2_with fail
    refine (copy_n A3 _ (18 + n) c3 _ HLEN.out own3.rd (by omega)).mono ?_
    rintro e w8 ⟨A8, c8, rfl, own8, hb8⟩
    have hb := hb.trans (hb8.mono hb.size)
    clear hb8
    have lt8 : w.heap.size ≤ (w8.alloc (.cells #[.int .u8 0] 5)).heap.size := by have := hb.size; simp only [World.size_alloc]; omega
    go_wp2_with (at_builtin; refine wpList_app _ rfl _ _ _ rfl w.heap.size 5 i0 _ 1 Try.underlying22 hi0 hz0 hz1 hzb rfl (by decide) _ (18 + n) _ _ rfl ((own8.from_ hbs).alloc _) _ 1 1 _ rfl (Src.lit1 _ _ _ _) (by omega) lt8 ?_; intro A9 c9 w9 own9 hgr9 hat9)
    have hb := (hb.alloc hb.size (.cells #[.int .u8 0] 5)).grown hgr9 lt8 (fun g hg => by have := (own8.lt g hg).1; omega)
    have own9 : Own w9 w.heap.size 5 A9 (18 + n + 1) c9 (nums .u8 (msgBytes k ep fr wh tp rd l ++ [0])) := by rw [nums_append]; exact own9
    have L9 := Lib.hid (show (msgBytes k ep fr wh tp rd l ++ [0]).length = 18 + n + 1 by rw [List.length_append, HLEN.out]; rfl)
    have HB9 := Lib.hid (show ∀ x ∈ msgBytes k ep fr wh tp rd l ++ [0], x < 256 from fun x hx => by
      rcases List.mem_append.1 hx with h | h
      · exact HBB.out x h
      · simp at h; omega)
    have hcap9 := own9.cap
    refine (decode_calls A9 _ (18 + n + 1) c9 _ L9.out hcap9.1 (by have := hcap9.2; simp only [maxLen] at this; omega) own9.rd HB9.out).mono ?_
    rintro e w10 ⟨hno, _, hb10⟩
    have he : e = .returned (.tuple #[.agg #[.int .i64 0, .int .i64 0, .int .i64 0, .int .i64 0, .int .i64 0, .int .i64 0, .slice none 0 0], .int .i64 17]) := by have := hno (by rw [D2.out]; omega); rw [D2.out] at this; exact this
    subst he
    clear hno own9 hcap9 L9 HB9 own8 lt8 hgr9 hat9 hbs
    have hb := hb.trans (hb10.mono hb.size)
    clear hb10
    go_wp2_with fail
    go_ret
    exact ⟨rfl, hb.alloc hb.size _⟩
  · have rcut := own3.rd.take (17 + n)
    rw [show (nums .u8 (msgBytes k ep fr wh tp rd l)).take (17 + n) = nums .u8 ((msgBytes k ep fr wh tp rd l).take (17 + n)) from by simp [nums, List.map_take]] at rcut
    have LC := Lib.hid (show ((msgBytes k ep fr wh tp rd l).take (17 + n)).length = 17 + n by rw [List.length_take, HLEN.out]; omega)
    have HBC := Lib.hid (show ∀ x ∈ (msgBytes k ep fr wh tp rd l).take (17 + n), x < 256 from fun x hx => HBB.out x (List.mem_of_mem_take hx))
    go_wp2_with fail
    refine (copy_n A3 _ (17 + n) c3 _ LC.out rcut (by omega)).mono ?_
    rintro e w6 ⟨A6, c6, rfl, own6, hb6⟩
    have own3 := own3.below hb6
    have hb := hb.trans (hb6.mono hb.size)
    clear hb6
    go_wp2_with fail
    have hcap6 := own6.cap
    refine (decode_calls A6 _ (17 + n) c6 _ LC.out hcap6.1 (by have := hcap6.2; simp only [maxLen] at this; omega) own6.rd HBC.out).mono ?_
    rintro e w7 ⟨hno, _, hb7⟩
    have he : e = .returned (.tuple #[.agg #[.int .i64 0, .int .i64 0, .int .i64 0, .int .i64 0, .int .i64 0, .int .i64 0, .slice none 0 0], .int .i64 16]) := by have := hno (by rw [D1.out]; omega); rw [D1.out] at this; exact this
    subst he
    clear hno own6 hcap6 LC HBC rcut
    have own3 := own3.below hb7
    have hb := hb.trans (hb7.mono hb.size)
    clear hb7
    have own3 := own3.alloc (.cells #[.int .i64 0, .int .i64 0, .int .i64 0, .int .i64 0, .int .i64 0, .int .i64 0, .slice none 0 0] 24)
    have hb := hb.alloc hb.size (.cells #[.int .i64 0, .int .i64 0, .int .i64 0, .int .i64 0, .int .i64 0, .int .i64 0, .slice none 0 0] 24)
    have hbs := hb.size
    go_wp2_with fail
    refine (copy_n A3 _ (18 + n) c3 _ HLEN.out own3.rd (by omega)).mono ?_
    rintro e w8 ⟨A8, c8, rfl, own8, hb8⟩
    have hb := hb.trans (hb8.mono hb.size)
    clear hb8
    have lt8 : w.heap.size ≤ (w8.alloc (.cells #[.int .u8 0] 5)).heap.size := by have := hb.size; simp only [World.size_alloc]; omega
    go_wp2_with (at_builtin; refine wpList_app _ rfl _ _ _ rfl w.heap.size 5 i0 _ 1 Try.underlying22 hi0 hz0 hz1 hzb rfl (by decide) _ (18 + n) _ _ rfl ((own8.from_ hbs).alloc _) _ 1 1 _ rfl (Src.lit1 _ _ _ _) (by omega) lt8 ?_; intro A9 c9 w9 own9 hgr9 hat9)
    have hb := (hb.alloc hb.size (.cells #[.int .u8 0] 5)).grown hgr9 lt8 (fun g hg => by have := (own8.lt g hg).1; omega)
    have own9 : Own w9 w.heap.size 5 A9 (18 + n + 1) c9 (nums .u8 (msgBytes k ep fr wh tp rd l ++ [0])) := by rw [nums_append]; exact own9
    have L9 := Lib.hid (show (msgBytes k ep fr wh tp rd l ++ [0]).length = 18 + n + 1 by rw [List.length_append, HLEN.out]; rfl)
    have HB9 := Lib.hid (show ∀ x ∈ msgBytes k ep fr wh tp rd l ++ [0], x < 256 from fun x hx => by
      rcases List.mem_append.1 hx with h | h
      · exact HBB.out x h
      · simp at h; omega)
    have hcap9 := own9.cap
    refine (decode_calls A9 _ (18 + n + 1) c9 _ L9.out hcap9.1 (by have := hcap9.2; simp only [maxLen] at this; omega) own9.rd HB9.out).mono ?_
    rintro e w10 ⟨hno, _, hb10⟩
    have he : e = .returned (.tuple #[.agg #[.int .i64 0, .int .i64 0, .int .i64 0, .int .i64 0, .int .i64 0, .int .i64 0, .slice none 0 0], .int .i64 17]) := by have := hno (by rw [D2.out]; omega); rw [D2.out] at this; exact this
    subst he
    clear hno own9 hcap9 L9 HB9 own8 lt8 hgr9 hat9 hbs
    have hb := hb.trans (hb10.mono hb.size)
    clear hb10
    go_wp2_with fail
    go_ret
    exact ⟨rfl, hb.alloc hb.size _⟩
  · have rcut := own3.rd.take (m)
    rw [show (nums .u8 (msgBytes k ep fr wh tp rd l)).take (m) = nums .u8 ((msgBytes k ep fr wh tp rd l).take (m)) from by simp [nums, List.map_take]] at rcut
    have LC := Lib.hid (show ((msgBytes k ep fr wh tp rd l).take (m)).length = m by rw [List.length_take, HLEN.out]; omega)
    have HBC := Lib.hid (show ∀ x ∈ (msgBytes k ep fr wh tp rd l).take (m), x < 256 from fun x hx => HBB.out x (List.mem_of_mem_take hx))
    go_wp2_with fail
    refine (copy_n A3 _ (m) c3 _ LC.out rcut (by omega)).mono ?_
    rintro e w6 ⟨A6, c6, rfl, own6, hb6⟩
    have own3 := own3.below hb6
    have hb := hb.trans (hb6.mono hb.size)
    clear hb6
    go_wp2_with fail
    have hcap6 := own6.cap
    refine (decode_calls A6 _ (m) c6 _ LC.out hcap6.1 (by have := hcap6.2; simp only [maxLen] at this; omega) own6.rd HBC.out).mono ?_
    rintro e w7 ⟨hno, _, hb7⟩
    have he : e = .returned (.tuple #[.agg #[.int .i64 0, .int .i64 0, .int .i64 0, .int .i64 0, .int .i64 0, .int .i64 0, .slice none 0 0], .int .i64 16]) := by have := hno (by rw [D1.out]; omega); rw [D1.out] at this; exact this
    subst he
    clear hno own6 hcap6 LC HBC rcut
    have own3 := own3.below hb7
    have hb := hb.trans (hb7.mono hb.size)
    clear hb7
    have own3 := own3.alloc (.cells #[.int .i64 0, .int .i64 0, .int .i64 0, .int .i64 0, .int .i64 0, .int .i64 0, .slice none 0 0] 24)
    have hb := hb.alloc hb.size (.cells #[.int .i64 0, .int .i64 0, .int .i64 0, .int .i64 0, .int .i64 0, .int .i64 0, .slice none 0 0] 24)
    have hbs := hb.size
    go_wp2_with fail
    refine (copy_n A3 _ (18 + n) c3 _ HLEN.out own3.rd (by omega)).mono ?_
    rintro e w8 ⟨A8, c8, rfl, own8, hb8⟩
    have hb := hb.trans (hb8.mono hb.size)
    clear hb8
    have lt8 : w.heap.size ≤ (w8.alloc (.cells #[.int .u8 0] 5)).heap.size := by have := hb.size; simp only [World.size_alloc]; omega
    go_wp2_with (at_builtin; refine wpList_app _ rfl _ _ _ rfl w.heap.size 5 i0 _ 1 Try.underlying22 hi0 hz0 hz1 hzb rfl (by decide) _ (18 + n) _ _ rfl ((own8.from_ hbs).alloc _) _ 1 1 _ rfl (Src.lit1 _ _ _ _) (by omega) lt8 ?_; intro A9 c9 w9 own9 hgr9 hat9)
    have hb := (hb.alloc hb.size (.cells #[.int .u8 0] 5)).grown hgr9 lt8 (fun g hg => by have := (own8.lt g hg).1; omega)
    have own9 : Own w9 w.heap.size 5 A9 (18 + n + 1) c9 (nums .u8 (msgBytes k ep fr wh tp rd l ++ [0])) := by rw [nums_append]; exact own9
    have L9 := Lib.hid (show (msgBytes k ep fr wh tp rd l ++ [0]).length = 18 + n + 1 by rw [List.length_append, HLEN.out]; rfl)
    have HB9 := Lib.hid (show ∀ x ∈ msgBytes k ep fr wh tp rd l ++ [0], x < 256 from fun x hx => by
      rcases List.mem_append.1 hx with h | h
      · exact HBB.out x h
      · simp at h; omega)
    have hcap9 := own9.cap
    refine (decode_calls A9 _ (18 + n + 1) c9 _ L9.out hcap9.1 (by have := hcap9.2; simp only [maxLen] at this; omega) own9.rd HB9.out).mono ?_
    rintro e w10 ⟨hno, _, hb10⟩
    have he : e = .returned (.tuple #[.agg #[.int .i64 0, .int .i64 0, .int .i64 0, .int .i64 0, .int .i64 0, .int .i64 0, .slice none 0 0], .int .i64 17]) := by have := hno (by rw [D2.out]; omega); rw [D2.out] at this; exact this
    subst he
    clear hno own9 hcap9 L9 HB9 own8 lt8 hgr9 hat9 hbs
    have hb := hb.trans (hb10.mono hb.size)
    clear hb10
    go_wp2_with fail
    go_ret
    exact ⟨rfl, hb.alloc hb.size _⟩
end Go.Proofs.Ytkdimoijfkikoaa
