/- The walk of wire.Encode. Conditions: those of each theorem. -/
import Derived.Test.YtkdimoijfkikoaaWirerf
import Derived.Deep.DeepCutAuto
import Derived.Deep.RegionLaw
import Derived.Deep.RegionHeld3
namespace Go.Proofs.Ytkdimoijfkikoaa
open Go.RowKit
set_option linter.unusedVariables false

theorem Own.madeAt (w : World) (cur : Array Value) (e : TypeId) {g c base : Nat} (hg : w.heap.size = g) (hb : base ≤ g) (hm : c ≤ maxLen) (hs : cur.size = c) :
    Own (w.alloc (.cells cur e)) base e (some ⟨g, 0, none⟩) 0 c [] := by
  subst hg
  exact World.ownsRow_made w cur c hb hm (by omega)

theorem Src.litAt (w : World) (e : TypeId) (k : Int) {g : Nat} (hg : w.heap.size = g) : Src (w.alloc (.cells #[.int .u8 (IntKind.u8.wrap k)] e)).drew (some ⟨g, 0, none⟩) 1 [.int .u8 (IntKind.u8.wrap k)] := by
  subst hg
  exact Src.lit1 w e _ _
theorem Src.litOld (w : World) (e : TypeId) (k : Int) (o : Obj) : Src ((w.alloc (.cells #[.int .u8 (IntKind.u8.wrap k)] e)).alloc o).drew (some ⟨w.heap.size, 0, none⟩) 1 [.int .u8 (IntKind.u8.wrap k)] := by
  obtain ⟨h1, h2, h3⟩ := Src.lit1 w e .u8 (IntKind.u8.wrap k)
  refine ⟨h1, h2, ?_⟩
  rcases h3 with h3 | ⟨a, ha, hc⟩
  · exact .inl h3
  · refine .inr ⟨a, ha, fun j u hu => ?_⟩
    have := hc j u hu
    exact (World.cell?_alloc_lt _ _ _ (block_lt_of_cell this)).trans this

set_option maxHeartbeats 4000000 in
theorem encode_no (k ep fr wh tp rd : Int) (A : Option Addr) (n c : Nat) (w : World) (h : ¬ MsgOk k ep fr wh tp rd n) :
    Calls Try.prog 9 #[.agg #[.int .i64 k, .int .i64 ep, .int .i64 fr, .int .i64 wh, .int .i64 tp, .int .i64 rd, .slice A n c]] w fun e w' => e = .returned (.tuple #[.slice none 0 0, .int .i64 60]) ∧ Below w.heap.size w w' := by
  have H := Lib.hid h
  clear h
  go_enter Try.func9, Try.ntmps9
  go_wp2_with (go_at_call 10; refine (check_no k ep fr wh tp rd A n c _ H.out).mono ?_; rintro e w1 ⟨rfl, hb1⟩)
  go_ret2
  exact ⟨rfl, (below_alloc _ _).trans (hb1.mono (by simp))⟩

set_option maxHeartbeats 4000000 in
theorem encode_yes (k ep fr wh tp rd : Nat) (A : Option Addr) (n c : Nat) (l : List Nat) (w : World)
    (hl : l.length = n) (h1 : Rd w A (nums .u8 l)) (h : MsgOk k ep fr wh tp rd n) :
    Calls Try.prog 9 #[.agg #[.int .i64 k, .int .i64 ep, .int .i64 fr, .int .i64 wh, .int .i64 tp, .int .i64 rd, .slice A n c]] w fun e w' =>
      ∃ A' c', e = .returned (.tuple #[.slice A' (18 + n) c', .int .i64 0]) ∧ Own w' w.heap.size 5 A' (18 + n) c' (nums .u8 (msgBytes k ep fr wh tp rd l)) ∧ Below w.heap.size w w' := by
  have hk : k < 256 := by unfold MsgOk at h; omega
  have hep : ep < 4294967296 := by unfold MsgOk at h; omega
  have hfr : fr < 256 := by unfold MsgOk at h; omega
  have hwh : wh < 256 := by unfold MsgOk at h; omega
  have htp : tp < 256 := by unfold MsgOk at h; omega
  have hrd : rd < 9223372036854775808 := by unfold MsgOk at h; omega
  have hn : n ≤ 4096 := by unfold MsgOk at h; omega
  obtain ⟨i0, hi0, hz0, hz1, hzb⟩ := info_parts u8_info
  have hmk : ∀ W : World, (Instr.makeSlice 22 (.int .i64 0) (.int .i64 (IntKind.i64.wrap (18 + (n : Int))))).run Try.prog W = .ok (.slice (some ⟨W.heap.size, 0, none⟩) 0 (18 + n)) (W.alloc (.cells (madeCells #[.int .u8 0] (18 + n)) 5)) := by
    intro W
    have := run_make (P := Try.prog) W 22 5 i0 (.int .u8 0) Try.underlying22 hi0 hz0 .i64 .i64 0 (18 + (n : Int)) (by omega) (by omega) (by rw [hzb]; omega) (by omega)
    rw [hz1] at this
    have ew : IntKind.i64.wrap (18 + (n : Int)) = 18 + (n : Int) := by rw [IntKind.wrap_i64]; omega
    rw [ew]
    have e1 : (18 + (n : Int)).toNat = 18 + n := by omega
    rw [e1] at this
    simpa [Value.cells] using this
  have H := Lib.hid h
  clear h
  go_enter Try.func9, Try.ntmps9
  go_wp2_with (go_at_call 10; refine (check_yes k ep fr wh tp rd A n c _ H.out).mono ?_; rintro e w1 ⟨rfl, hb1⟩; have bx1 := (Bk.new w 24 _).under hb1; have q0 : w1.cell? ⟨w.heap.size, 0, none⟩ = some (.int .i64 k) := bx1.cell 0; have q6 : w1.cell? ⟨w.heap.size, 6, none⟩ = some (.slice A n c) := bx1.cell 6)
  have hz1' := hb1.size
  simp only [World.size_alloc] at hz1'
  simp only [World.size_alloc] at hb1
  have e1 : (([] : List Value) ++ [Value.int .u8 (IntKind.u8.wrap k)]) = nums .u8 [k] := by
    have : IntKind.u8.wrap (k : Int) = k := by rw [IntKind.wrap_u8']; omega
    rw [this]; rfl
  have sz : (madeCells #[Value.int .u8 0] (18 + n)).size = 18 + n := size_madeCells _ _
  have smax : 18 + n ≤ maxLen := by simp only [maxLen]; omega
  go_cut [5] (fun s5 wx => ∃ A' c', s5 = .slice A' 1 c' ∧ Own wx (w.heap.size + 1) 5 A' 1 c' (nums .u8 [k]) ∧ Below (w.heap.size + 1) w1 wx)
  case first =>
    go_region_held3 (fun w' => w'.cell? ⟨w.heap.size, 0, none⟩ = some (.int .i64 k) ∧ w'.cell? ⟨w.heap.size, 6, none⟩ = some (.slice A n c)) (first | exact ⟨‹_›, ‹_›⟩ | go_keep)
      (first
        | (refine step_app _ rfl _ _ _ rfl (w.heap.size + 1) 5 i0 _ 1 Try.underlying22 hi0 hz0 hz1 hzb rfl (by decide) _ 0 (18 + n) [] rfl ((Own.madeAt w1 _ _ rfl hz1' smax sz).alloc _).drew _ 1 1 [.int .u8 (IntKind.u8.wrap k)] rfl (Src.litAt _ _ _ (World.size_alloc _ _)) (by omega) (by simp only [World.size_drew, World.size_alloc]; omega) ?_; intro A2 c2 w2 hown2 hgr2 hat2; have hbb : Below (w.heap.size + 1) w1 w2 := (((((Below.refl (w.heap.size + 1) w1).drew).alloc hz1' _).alloc (by simp only [World.size_drew, World.size_alloc]; omega) _)).grown hgr2 (by simp only [World.size_drew, World.size_alloc]; omega) (by intro g hg; simp only [blk, Option.some.injEq] at hg; omega); have q0' : w2.cell? ⟨w.heap.size, 0, none⟩ = some (.int .i64 k) := hgr2.cell (v := .int .i64 k) (((World.cell?_alloc_lt _ _ _ (by simp only [World.size_alloc]; omega)).trans (World.cell?_alloc_lt _ _ _ (by simp only; omega))).trans q0) (by simp only [blk, ne_eq, Option.some.injEq]; omega); have q6' : w2.cell? ⟨w.heap.size, 6, none⟩ = some (.slice A n c) := hgr2.cell (v := .slice A n c) (((World.cell?_alloc_lt _ _ _ (by simp only [World.size_alloc]; omega)).trans (World.cell?_alloc_lt _ _ _ (by simp only; omega))).trans q6) (by simp only [blk, ne_eq, Option.some.injEq]; omega))
        | (refine step_app _ rfl _ _ _ rfl (w.heap.size + 1) 5 i0 _ 1 Try.underlying22 hi0 hz0 hz1 hzb rfl (by decide) _ 0 (18 + n) [] rfl (Own.madeAt _ _ _ (World.size_alloc _ _) (by omega) smax sz).drew _ 1 1 [.int .u8 (IntKind.u8.wrap k)] rfl (Src.litOld _ _ _ _) (by omega) (by simp only [World.size_drew, World.size_alloc]; omega) ?_; intro A2 c2 w2 hown2 hgr2 hat2; have hbb : Below (w.heap.size + 1) w1 w2 := (((((Below.refl (w.heap.size + 1) w1).drew).alloc hz1' _).alloc (by simp only [World.size_drew, World.size_alloc]; omega) _)).grown hgr2 (by simp only [World.size_drew, World.size_alloc]; omega) (by intro g hg; simp only [blk, Option.some.injEq] at hg; omega); have q0' : w2.cell? ⟨w.heap.size, 0, none⟩ = some (.int .i64 k) := hgr2.cell (v := .int .i64 k) (((World.cell?_alloc_lt _ _ _ (by simp only [World.size_alloc]; omega)).trans (World.cell?_alloc_lt _ _ _ (by simp only; omega))).trans q0) (by simp only [blk, ne_eq, Option.some.injEq]; omega); have q6' : w2.cell? ⟨w.heap.size, 6, none⟩ = some (.slice A n c) := hgr2.cell (v := .slice A n c) (((World.cell?_alloc_lt _ _ _ (by simp only [World.size_alloc]; omega)).trans (World.cell?_alloc_lt _ _ _ (by simp only; omega))).trans q6) (by simp only [blk, ne_eq, Option.some.injEq]; omega)))
    all_goals
      go_wp2_with fail
      go_meet
      exact ⟨A2, c2, rfl, e1 ▸ hown2, hbb⟩
  case rest =>
    obtain ⟨A1, c1, rfl, hown, hb⟩ := hcut
    have bxc := bx1.below hb (by omega)
    have k1 : wc.cell? ⟨w.heap.size, 1, none⟩ = some (.int .i64 ep) := bxc.cell 1
    have hzc := hb.size
    clear bx1 q0 q6 hmk sz e1
    go_wp2_with fail
    refine (wire_put_calls A1 1 c1 ep 4 (w.heap.size + 1) (nums .u8 [k]) _ hown (by omega) (by omega) (by omega) (by omega)).mono ?_
    rintro e w2 ⟨A2, c2, rfl, hown2, hgr2, hat2⟩
    have bx2 := bxc.grown hgr2 (hown.ne_ (by omega))
    have hb2 := hb.grown hgr2 (by omega) (fun g hg => (hown.lt g hg).1)
    have hz2 := hgr2.size
    have k2 : w2.cell? ⟨w.heap.size, 2, none⟩ = some (.int .i64 fr) := bx2.cell 2
    have k3 : w2.cell? ⟨w.heap.size, 3, none⟩ = some (.int .i64 wh) := bx2.cell 3
    have k4 : w2.cell? ⟨w.heap.size, 4, none⟩ = some (.int .i64 tp) := bx2.cell 4
    clear hgr2 hat2 bxc hb hown k1
    have lt3 : w.heap.size + 1 ≤ (w2.alloc (.cells #[.int .u8 fr, .int .u8 wh, .int .u8 tp] 5)).heap.size := by simp only [World.size_alloc]; omega
    go_wp2_with (at_builtin; refine wpList_app _ rfl _ _ _ rfl (w.heap.size + 1) 5 i0 _ 1 Try.underlying22 hi0 hz0 hz1 hzb rfl (by decide) _ 5 _ _ rfl (hown2.alloc _) _ 3 _ _ rfl (Src.lit3 _ _ _ _ _ _) (by omega) lt3 ?_; intro A3 c3 w3 hown3 hgr3 hat3; have bx3 := (bx2.alloc (.cells #[.int .u8 fr, .int .u8 wh, .int .u8 tp] 5)).grown hgr3 (hown2.ne_ (by omega)); have k5 : w3.cell? ⟨w.heap.size, 5, none⟩ = some (.int .i64 rd) := bx3.cell 5)
    have hb3 := (hb2.alloc (by omega) (.cells #[.int .u8 fr, .int .u8 wh, .int .u8 tp] 5)).grown hgr3 lt3 (fun g hg => (hown2.lt g hg).1)
    have hz3 := hgr3.size
    simp only [World.size_alloc] at hz3
    clear k2 k3 k4 k5 lt3 hgr3 hat3 hown2 hb2 bx2
    refine (wire_put_calls A3 8 c3 rd 8 (w.heap.size + 1) _ _ hown3 (by omega) (by omega) (by omega) (by omega)).mono ?_
    rintro e w4 ⟨A4, c4, rfl, hown4, hgr4, hat4⟩
    have bx4 := bx3.grown hgr4 (hown3.ne_ (by omega))
    have hb4 := hb3.grown hgr4 (by omega) (fun g hg => (hown3.lt g hg).1)
    have hz4 := hgr4.size
    have k6 : w4.cell? ⟨w.heap.size, 6, none⟩ = some (.slice A n c) := bx4.cell 6
    clear hgr4 hat4 bx3 hb3 hown3
    go_wp2_with fail
    refine (wire_put_calls A4 16 c4 n 2 (w.heap.size + 1) _ _ hown4 (by omega) (by omega) (by omega) (by omega)).mono ?_
    rintro e w5 ⟨A5, c5, rfl, hown5, hgr5, hat5⟩
    have bx5 := bx4.grown hgr5 (hown4.ne_ (by omega))
    have hb5 := hb4.grown hgr5 (by omega) (fun g hg => (hown4.lt g hg).1)
    have hz5 := hgr5.size
    have k6' : w5.cell? ⟨w.heap.size, 6, none⟩ = some (.slice A n c) := bx5.cell 6
    have hb0 : Below w.heap.size w w5 := (below_alloc w _).trans ((hb1.mono (by omega)).trans (hb5.mono (by omega)))
    clear hgr5 hat5 bx4 hb4 hown4 k6
    go_wp2_with (at_builtin; refine wpList_app _ rfl _ _ _ rfl (w.heap.size + 1) 5 i0 _ 1 Try.underlying22 hi0 hz0 hz1 hzb rfl (by decide) _ 18 _ _ rfl hown5 _ n _ _ rfl ((h1.below hb0).src (nums_one _ _) (by simpa [nums] using hl)) (by omega) (by omega) ?_; intro A7 c7 w7 hown7 hgr7 hat7)
    go_ret2
    refine ⟨A7, c7, rfl, ?_, ?_⟩
    · have e3 : [Value.int .u8 (fr : Int), .int .u8 (wh : Int), .int .u8 (tp : Int)] = nums .u8 [fr, wh, tp] := rfl
      have e : (nums .u8 [k] ++ nums .u8 (digs 4 ep) ++ [Value.int .u8 (fr : Int), .int .u8 (wh : Int), .int .u8 (tp : Int)] ++ nums .u8 (digs 8 rd) ++ nums .u8 (digs 2 n) ++ nums .u8 l) = nums .u8 (msgBytes k ep fr wh tp rd l) := by
        rw [e3, ← nums_append, ← nums_append, ← nums_append, ← nums_append, ← nums_append]
        simp only [msgBytes, hl, Nat.mod_eq_of_lt hk, Nat.mod_eq_of_lt hfr, Nat.mod_eq_of_lt hwh, Nat.mod_eq_of_lt htp]
      rw [e] at hown7
      exact hown7.from_ (by omega)
    · exact hb0.grown hgr7 (by omega) (fun g hg => by have := (hown5.lt g hg).1; omega)
end Go.Proofs.Ytkdimoijfkikoaa
