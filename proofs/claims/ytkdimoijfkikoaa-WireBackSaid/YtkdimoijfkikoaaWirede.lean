/- The walk of wire.Decode. Conditions: those of each theorem. -/
import Derived.Test.YtkdimoijfkikoaaWirerf
import Derived.Deep.DeepCutAuto
import Derived.Deep.RegionHeld3
namespace Go.Proofs.Ytkdimoijfkikoaa
open Go.RowKit
set_option linter.unusedVariables false

/-- the empty message -/
def zeroMsg : Value := .agg #[.int .i64 0, .int .i64 0, .int .i64 0, .int .i64 0, .int .i64 0, .int .i64 0, .slice none 0 0]

/-- what Decode answers -/
def DecPost (l : List Nat) (m : Value) (er : Nat) (e : Ending) : Prop := e = .returned (.tuple #[m, .int .i64 er])

theorem get_lt (l : List Nat) (hb : ∀ x ∈ l, x < 256) (i n : Nat) : be ((l.drop i).take n) < 256 ^ n := by
  have h := be_lt ((l.drop i).take n) (fun x hx => hb x (List.mem_of_mem_drop (List.mem_of_mem_take hx)))
  exact Nat.lt_of_lt_of_le h (Nat.pow_le_pow_right (by omega) (by simp; omega))

set_option maxHeartbeats 4000000 in
theorem dec_short (A : Option Addr) (len c : Nat) (w : World) (hs : len < 18) :
    Calls Try.prog 16 #[.slice A len c] w fun e w' => e = .returned (.tuple #[zeroMsg, .int .i64 16]) ∧ Below w.heap.size w w' := by
  go_enter Try.func16, Try.ntmps16
  go_wp2
  exact bodyPost_ret (v := .tuple #[zeroMsg, .int .i64 16]) (by simp [results, zeroMsg, Try.results16, go_sem]) rfl ⟨rfl, below_alloc _ _⟩

theorem Rd.dropAt {w : World} {b o : Nat} {k : IntKind} {l : List Nat} (h : Rd w (some ⟨b, o, none⟩) (nums k l)) (i : Nat) : Rd w (some ⟨b, o + i, none⟩) (nums k (l.drop i)) := by
  have := h.drop (k := i) (cap := l.length + i + 1) (by simp [nums]; omega)
  rw [if_neg (by omega)] at this
  have e : (nums k l).drop i = nums k (l.drop i) := by simp [nums, List.map_drop]
  rw [e] at this
  have ea : (Option.map (fun x => Addr.add x i) (some ⟨b, o, none⟩)) = some ⟨b, o + i, none⟩ := by simp only [Option.map_some, Addr.add]; split <;> simp_all
  rw [ea] at this
  exact this

theorem mem_drop {l : List Nat} (hb : ∀ x ∈ l, x < 256) (i : Nat) : ∀ x ∈ l.drop i, x < 256 := fun x hx => hb x (List.mem_of_mem_drop hx)

set_option maxHeartbeats 4000000 in
theorem dec_len (b o : Nat) (l : List Nat) (len c : Nat) (w : World) (hl : l.length = len) (hs : 18 ≤ len) (hc : len ≤ c) (hc2 : c ≤ 9223372036854775807) (hr : Rd w (some ⟨b, o, none⟩) (nums .u8 l)) (hb : ∀ x ∈ l, x < 256)
    (h : len ≠ 18 + be ((l.drop 16).take 2)) :
    Calls Try.prog 16 #[.slice (some ⟨b, o, none⟩) len c] w fun e w' => e = .returned (.tuple #[zeroMsg, .int .i64 ((if len < 18 + be ((l.drop 16).take 2) then 16 else 17 : Nat))]) ∧ Below w.heap.size w w' := by
  have g2 : be ((l.drop 16).take 2) < 65536 := get_lt l hb 16 2
  have H1 := Lib.hid (show (l.drop 16).length = len - 16 by simp [hl])
  have H2 := Lib.hid (mem_drop hb 16)
  have H3 := Lib.hid (hr.dropAt 16)
  clear hl hb hr
  by_cases hlt : len < 18 + be ((l.drop 16).take 2)
  · rw [if_pos hlt]
    clear h
    go_enter Try.func16, Try.ntmps16
    go_wp2_with (go_at_call 19; refine (wire_get_calls _ (l.drop 16) (len - 16) (c - 16) 2 _ ((H3.out).alloc _) H1.out (by omega) (by omega) (by omega) H2.out).mono ?_; rintro e w1 ⟨rfl, rfl⟩)
    exact bodyPost_ret (v := .tuple #[zeroMsg, .int .i64 16]) (by simp [results, zeroMsg, Try.results16, go_sem]) rfl ⟨rfl, below_alloc _ _⟩
  · rw [if_neg hlt]
    have hgt : 18 + be ((l.drop 16).take 2) < len := by omega
    clear h
    go_enter Try.func16, Try.ntmps16
    go_wp2_with (go_at_call 19; refine (wire_get_calls _ (l.drop 16) (len - 16) (c - 16) 2 _ ((H3.out).alloc _) H1.out (by omega) (by omega) (by omega) H2.out).mono ?_; rintro e w1 ⟨rfl, rfl⟩)
    exact bodyPost_ret (v := .tuple #[zeroMsg, .int .i64 17]) (by simp [results, zeroMsg, Try.results16, go_sem]) rfl ⟨rfl, below_alloc _ _⟩

set_option maxHeartbeats 4000000 in
theorem dec_round (b o : Nat) (l : List Nat) (len c : Nat) (w : World) (hl : l.length = len) (hs : 18 ≤ len) (hc : len ≤ c) (hc2 : c ≤ 9223372036854775807) (hr : Rd w (some ⟨b, o, none⟩) (nums .u8 l)) (hb : ∀ x ∈ l, x < 256)
    (h : len = 18 + be ((l.drop 16).take 2)) (h8 : 1099511627776 < be ((l.drop 8).take 8)) :
    Calls Try.prog 16 #[.slice (some ⟨b, o, none⟩) len c] w fun e w' => e = .returned (.tuple #[zeroMsg, .int .i64 60]) ∧ Below w.heap.size w w' := by
  have g2 : be ((l.drop 16).take 2) < 65536 := get_lt l hb 16 2
  have g8 : be ((l.drop 8).take 8) < 18446744073709551616 := get_lt l hb 8 8
  have H1 := Lib.hid (show (l.drop 16).length = len - 16 by simp [hl])
  have H2 := Lib.hid (mem_drop hb 16)
  have H3 := Lib.hid (hr.dropAt 16)
  have K1 := Lib.hid (show (l.drop 8).length = len - 8 by simp [hl])
  have K2 := Lib.hid (mem_drop hb 8)
  have K3 := Lib.hid (hr.dropAt 8)
  have q1 : len ≤ 18 + be ((l.drop 16).take 2) := by omega
  have q2 : 18 + be ((l.drop 16).take 2) ≤ len := by omega
  clear hl hb hr h
  go_enter Try.func16, Try.ntmps16
  go_wp2_with fail
  refine (wire_get_calls _ (l.drop 16) (len - 16) (c - 16) 2 _ ((H3.out).alloc _) H1.out (by omega) (by omega) (by omega) H2.out).mono ?_
  rintro e w1 ⟨rfl, rfl⟩
  go_wp2_with fail
  refine (wire_get_calls _ (l.drop 8) (len - 8) (c - 8) 8 _ ((K3.out).alloc _) K1.out (by omega) (by omega) (by omega) K2.out).mono ?_
  rintro e w1 ⟨rfl, rfl⟩
  go_wp2_with fail
  exact bodyPost_ret (v := .tuple #[zeroMsg, .int .i64 60]) (by simp [results, zeroMsg, Try.results16, go_sem]) rfl ⟨rfl, below_alloc _ _⟩

set_option maxHeartbeats 4000000 in
set_option maxRecDepth 100000 in
theorem dec_last (b o : Nat) (l : List Nat) (len c : Nat) (w : World) (hl : l.length = len) (hs : 18 ≤ len) (hc : len ≤ c) (hc2 : c ≤ 9223372036854775807) (hr : Rd w (some ⟨b, o, none⟩) (nums .u8 l)) (hb : ∀ x ∈ l, x < 256)
    (h : len = 18 + be ((l.drop 16).take 2)) (h8 : be ((l.drop 8).take 8) ≤ 1099511627776) :
    Calls Try.prog 16 #[.slice (some ⟨b, o, none⟩) len c] w fun e w' =>
      (¬ MsgOk (l.getD 0 0) (be ((l.drop 1).take 4)) (l.getD 5 0) (l.getD 6 0) (l.getD 7 0) (be ((l.drop 8).take 8)) (len - 18) → e = .returned (.tuple #[zeroMsg, .int .i64 60])) ∧
      (MsgOk (l.getD 0 0) (be ((l.drop 1).take 4)) (l.getD 5 0) (l.getD 6 0) (l.getD 7 0) (be ((l.drop 8).take 8)) (len - 18) →
        ∃ A' c', e = .returned (.tuple #[msgV (l.getD 0 0) (be ((l.drop 1).take 4)) (l.getD 5 0) (l.getD 6 0) (l.getD 7 0) (be ((l.drop 8).take 8)) A' (len - 18) c', .int .i64 0]) ∧ Own w' w.heap.size 5 A' (len - 18) c' (nums .u8 (l.drop 18))) ∧ Below w.heap.size w w' := by
  obtain ⟨i0, hi0, hz0, hz1, hzb⟩ := info_parts u8_info
  have g2 : be ((l.drop 16).take 2) < 65536 := get_lt l hb 16 2
  have g1 : be ((l.drop 1).take 4) < 4294967296 := get_lt l hb 1 4
  have H1 := Lib.hid (show (l.drop 16).length = len - 16 by simp [hl])
  have H2 := Lib.hid (mem_drop hb 16)
  have H3 := Lib.hid (hr.dropAt 16)
  have K1 := Lib.hid (show (l.drop 8).length = len - 8 by simp [hl])
  have K2 := Lib.hid (mem_drop hb 8)
  have K3 := Lib.hid (hr.dropAt 8)
  have J1 := Lib.hid (show (l.drop 1).length = len - 1 by simp [hl])
  have J2 := Lib.hid (mem_drop hb 1)
  have J3 := Lib.hid (hr.dropAt 1)
  have q1 : len ≤ 18 + be ((l.drop 16).take 2) := by omega
  have q2 : 18 + be ((l.drop 16).take 2) ≤ len := by omega
  have cell : ∀ j, j < len → w.cell? ⟨b, o + j, none⟩ = some (.int .u8 ((l.getD j 0 : Nat) : Int)) := by
    intro j hj
    obtain ⟨b', o', hA, _, hcell⟩ := hr.num (k := j) (by omega)
    injection hA with hA; injection hA with e1 e2; subst e1 e2
    rw [hcell, List.getD_eq_getElem?_getD, List.getElem?_eq_getElem (by omega)]; rfl
  have c0 : w.cell? ⟨b, o, none⟩ = some (.int .u8 ((l.getD 0 0 : Nat) : Int)) := cell 0 (by omega)
  have c5 := cell 5 (by omega)
  have c6 := cell 6 (by omega)
  have c7 := cell 7 (by omega)
  have bd : ∀ j, l.getD j 0 < 256 := by
    intro j
    rw [List.getD_eq_getElem?_getD]
    by_cases hj : j < l.length
    · rw [List.getElem?_eq_getElem hj]; exact hb _ (List.getElem_mem _)
    · rw [List.getElem?_eq_none (by omega)]; simp
  have d0 := bd 0
  have d5 := bd 5
  have d6 := bd 6
  have d7 := bd 7
  have blt : b < w.heap.size := block_lt_of_cell c0
  have HR := Lib.hid hr
  have HL := Lib.hid hl
  clear hl hb hr h cell bd
  have i0' : (0 : Int) < (len : Int) := by omega
  have i0n : 0 < len := by omega
  have i5' : (5 : Int) < (len : Int) := by omega
  have i6' : (6 : Int) < (len : Int) := by omega
  have i7' : (7 : Int) < (len : Int) := by omega
  have i1' : (1 : Int) ≤ (len : Int) := by omega
  have i1'' : (1 : Int) ≤ (c : Int) := by omega
  have i1c : ¬ c = 1 := by omega
  obtain ⟨ep, hEP⟩ : ∃ ep, be ((l.drop 1).take 4) = ep := ⟨_, rfl⟩
  obtain ⟨rd, hRD⟩ : ∃ rd, be ((l.drop 8).take 8) = rd := ⟨_, rfl⟩
  obtain ⟨nb, hNB⟩ : ∃ nb, be ((l.drop 16).take 2) = nb := ⟨_, rfl⟩
  rw [hEP] at g1 ⊢
  rw [hRD] at h8 ⊢
  rw [hNB] at g2 q1 q2
  have HEP := Lib.hid hEP
  have HRD := Lib.hid hRD
  have HNB := Lib.hid hNB
  clear hEP hRD hNB
  generalize l.getD 0 0 = k at *
  generalize l.getD 5 0 = fr at *
  generalize l.getD 6 0 = wh at *
  generalize l.getD 7 0 = tp at *
  go_enter Try.func16, Try.ntmps16
  go_wp2_with fail
  refine (wire_get_calls _ (l.drop 16) (len - 16) (c - 16) 2 _ ((H3.out).alloc _) H1.out (by omega) (by omega) (by omega) H2.out).mono ?_
  rintro e w1 ⟨he, rfl⟩
  rw [HNB.out] at he
  subst he
  go_wp2_with fail
  refine (wire_get_calls _ (l.drop 8) (len - 8) (c - 8) 8 _ ((K3.out).alloc _) K1.out (by omega) (by omega) (by omega) K2.out).mono ?_
  rintro e w1 ⟨he, rfl⟩
  rw [HRD.out] at he
  subst he
  go_wp2_with fail
  have wk : IntKind.i64.wrap (k : Int) = k := by rw [IntKind.wrap_i64]; omega
  have we : IntKind.i64.wrap (ep : Int) = ep := by rw [IntKind.wrap_i64]; omega
  have WK := Lib.hid wk
  have WE := Lib.hid we
  clear wk we
  go_cut [6] (fun s6 wx => ∃ g, s6 = .pointer (some ⟨g, 0, none⟩) ∧ Bk wx g 24 #[.int .i64 k, .int .i64 ep, .int .i64 fr, .int .i64 wh, .int .i64 tp, .int .i64 rd, .slice none 0 0] ∧ w.heap.size + 1 ≤ g ∧
    Below (w.heap.size + 1) (w.alloc (.cells #[.int .i64 0, .int .i64 0, .int .i64 0, .int .i64 0, .int .i64 0, .int .i64 0, .slice none 0 0] 24)) wx)
  case first =>
    go_region_held3 (fun w' => w'.cell? ⟨b, o, none⟩ = some (.int .u8 k) ∧ w'.cell? ⟨b, o + 5, none⟩ = some (.int .u8 fr) ∧ w'.cell? ⟨b, o + 6, none⟩ = some (.int .u8 wh) ∧ w'.cell? ⟨b, o + 7, none⟩ = some (.int .u8 tp)) (go_keep)
      (first
        | (go_at_call 19; refine (wire_get_calls _ (l.drop 1) (len - 1) (c - 1) 4 _ (by first | exact ((J3.out).alloc _).drew | exact (((J3.out).alloc _).alloc _).drew) J1.out (by omega) (by omega) (by omega) J2.out).mono ?_; rintro e w1 ⟨he, rfl⟩; rw [HEP.out] at he; subst he))
    all_goals (go_wp2_with fail; go_meet)
    all_goals
      refine ⟨w.heap.size + 1, rfl, ?_, Nat.le_refl _, ?_⟩
      · have wk := WK.out
        have we := WE.out
        have wn : ∀ x : Nat, x < 4611686018427387904 → IntKind.i64.wrap (x : Int) = x := fun x hx => by rw [IntKind.wrap_i64]; omega
        have w8 := wn rd (by omega)
        simp only [wk, we, wn fr (by omega), wn wh (by omega), wn tp (by omega), w8]
        exact (Bk.new1 (w.alloc _) _ _ (World.size_alloc _ _).symm).drew
      · exact (((Below.refl _ _).alloc (by simp) _).drew)
  case rest =>
    clear WK WE
    obtain ⟨g, rfl, hbk, hg, hb⟩ := hcut
    have hzc := hb.size
    simp only [World.size_alloc] at hzc
    have hbw : Below w.heap.size w wc := (below_alloc w _).trans (hb.mono (by omega))
    have hrc := HR.out.below hbw
    have srcB : Src wc (some ⟨b, o + 18, none⟩) (len - 18) (nums .u8 (l.drop 18)) := (hrc.dropAt 18).src (nums_one _ _) (by have := HL.out; simp [nums]; omega)
    have srcA : c = 18 → Src wc (some ⟨b, o, none⟩) (len - 18) (nums .u8 (l.drop 18)) := fun h => ⟨by have := HL.out; simp [nums]; omega, nums_one _ _, .inl (by omega)⟩
    have m7 := msg_size
    have bz := (Bk.new w 24 _).below hb (by omega)
    have gne : w.heap.size ≠ g := by omega
    have glt := hbk.lt
    go_upto_region 12 with (fail)
    go_cut [6] (fun s6 wx => ∃ A1 c1, s6 = .pointer (some ⟨g, 0, none⟩) ∧ Bk wx g 24 #[.int .i64 k, .int .i64 ep, .int .i64 fr, .int .i64 wh, .int .i64 tp, .int .i64 rd, .slice A1 (len - 18) c1] ∧ Own wx wc.heap.size 5 A1 (len - 18) c1 (nums .u8 (l.drop 18)) ∧ Bk wx w.heap.size 24 #[.int .i64 0, .int .i64 0, .int .i64 0, .int .i64 0, .int .i64 0, .int .i64 0, .slice none 0 0] ∧ Below w.heap.size w wx ∧ wc.heap.size ≤ wx.heap.size)
    case first =>
      by_cases hc18 : c = 18
      · have srcA' := srcA hc18
        have hif : ∀ x y : Option Addr, (if c = 18 then x else y) = x := fun x y => if_pos hc18
        clear hc18
        go_wp2_with (at_builtin; refine wpList_app _ rfl _ _ _ rfl wc.heap.size 5 i0 _ 1 Try.underlying22 hi0 hz0 hz1 hzb rfl (by decide) none 0 0 [] rfl (Own.nil_ _ _ _) _ (len - 18) _ _ rfl srcA' (by omega) (Nat.le_refl _) ?_; intro A1 c1 w1 hown1 hgr1 hat1; have bk1 := hbk.grown hgr1 (by simp [blk]); have k6 : w1.cell? ⟨g, 6, none⟩ = some (.slice none 0 0) := bk1.cell 6; have f6 : w1.frozen? ⟨g, 6, none⟩ = false := bk1.free 6)
        go_meet
        refine ⟨A1, c1, rfl, bk1.set_ 6 (.slice A1 (len - 18) c1), ?_, (bz.grown hgr1 (by simp [blk])).far (p := ⟨g, 6, none⟩) gne _, (hbw.grown hgr1 (by omega) (by simp [blk])).setCell (p := ⟨g, 6, none⟩) (by simp only; omega) _, by have := hgr1.size; simpa [World.setCell] using this⟩
        have own2 := hown1.cellUnder (p := ⟨g, 6, none⟩) glt (.slice A1 (len - 18) c1)
        rwa [Nat.zero_add] at own2
      · go_wp2_with (at_builtin; refine wpList_app _ rfl _ _ _ rfl wc.heap.size 5 i0 _ 1 Try.underlying22 hi0 hz0 hz1 hzb rfl (by decide) none 0 0 [] rfl (Own.nil_ _ _ _) _ (len - 18) _ _ rfl srcB (by omega) (Nat.le_refl _) ?_; intro A1 c1 w1 hown1 hgr1 hat1; have bk1 := hbk.grown hgr1 (by simp [blk]); have k6 : w1.cell? ⟨g, 6, none⟩ = some (.slice none 0 0) := bk1.cell 6; have f6 : w1.frozen? ⟨g, 6, none⟩ = false := bk1.free 6)
        go_meet
        refine ⟨A1, c1, rfl, bk1.set_ 6 (.slice A1 (len - 18) c1), ?_, (bz.grown hgr1 (by simp [blk])).far (p := ⟨g, 6, none⟩) gne _, (hbw.grown hgr1 (by omega) (by simp [blk])).setCell (p := ⟨g, 6, none⟩) (by simp only; omega) _, by have := hgr1.size; simpa [World.setCell] using this⟩
        have own2 := hown1.cellUnder (p := ⟨g, 6, none⟩) glt (.slice A1 (len - 18) c1)
        rwa [Nat.zero_add] at own2
    case rest =>
      clear srcA srcB HR H1 H2 H3 K1 K2 K3 J1 J2 J3 c0 c5 c6 c7 bz hbk hb hrc hbw
      obtain ⟨A1, c1, rfl, bk2, own2, bz2, hb2, hz2⟩ := hcut
      by_cases hok : MsgOk k ep fr wh tp rd (len - 18)
      · have HOK := Lib.hid hok
        clear hok
        go_wp2_with (refine wpList_load_row rfl _ _ rfl _ rfl _ _ _ _ bk2 Try.underlying24 rfl m7 ?_)
        refine (check_yes _ _ _ _ _ _ _ _ _ _ HOK.out).mono ?_
        rintro e w3 ⟨rfl, hb3⟩
        have bk3 := bk2.under hb3
        have bz3 := bz2.under hb3
        have own3 := own2.below hb3
        have hb4 := hb2.trans (hb3.mono (by have := hb2.size; omega))
        clear bk2 bz2 own2 hb2 hb3
        go_wp2_with (first
          | (refine wpList_load_row rfl _ _ rfl _ rfl _ _ _ _ bk3 Try.underlying24 rfl m7 ?_)
          | (refine wpList_store_row rfl _ _ _ rfl _ _ rfl rfl _ _ bz3 m7 rfl (by simp [Value.oneCell']) ?_))
        have bz4 := bz3.row #[.int .i64 k, .int .i64 ep, .int .i64 fr, .int .i64 wh, .int .i64 tp, .int .i64 rd, .slice A1 (len - 18) c1]
        refine bodyPost_ret (results_row_tmp rfl _ _ w.heap.size _ _ _ _ rfl bz4 Try.underlying24 rfl m7 rfl) rfl ⟨fun hno => absurd HOK.out hno, fun _ => ⟨A1, c1, rfl, ?_⟩, ?_⟩
        · exact (own3.rowUnder (g := w.heap.size) (by omega) #[.int .i64 k, .int .i64 ep, .int .i64 fr, .int .i64 wh, .int .i64 tp, .int .i64 rd, .slice A1 (len - 18) c1]).from_ (by omega)
        · exact below_setRow hb4 (Nat.le_refl _) _
      · have HOK := Lib.hid hok
        clear hok
        go_wp2_with (refine wpList_load_row rfl _ _ rfl _ rfl _ _ _ _ bk2 Try.underlying24 rfl m7 ?_)
        refine (check_no _ _ _ _ _ _ _ _ _ _ HOK.out).mono ?_
        rintro e w3 ⟨rfl, hb3⟩
        have bz3 := bz2.under hb3
        have hb4 := hb2.trans (hb3.mono (by have := hb2.size; omega))
        clear bk2 bz2 own2 hb2 hb3
        go_wp2_with (refine wpList_store_row rfl _ _ _ rfl _ _ rfl rfl _ _ bz3 m7 rfl (by simp [Value.oneCell']) ?_)
        have bz4 := bz3.row #[.int .i64 0, .int .i64 0, .int .i64 0, .int .i64 0, .int .i64 0, .int .i64 0, .slice none 0 0]
        refine bodyPost_ret (results_row_tmp rfl _ _ w.heap.size _ _ _ _ rfl bz4 Try.underlying24 rfl m7 rfl) rfl ⟨fun _ => rfl, fun hyes => absurd hyes HOK.out, ?_⟩
        exact below_setRow hb4 (Nat.le_refl _) _
end Go.Proofs.Ytkdimoijfkikoaa
