/- The walk of cressetref16.Bytes. Conditions: those of each theorem. -/
import Derived.Test.YtkdimoijfkikoaaWirerf
import Derived.Deep.DeepCutAuto
import Derived.Deep.RegionLaw
import Derived.Deep.RegionHeld3
namespace Go.Proofs.Ytkdimoijfkikoaa
open Go.RowKit
set_option linter.unusedVariables false

set_option maxHeartbeats 4000000 in
theorem bytes16_calls (k ep fr wh tp rd : Nat) (A : Option Addr) (n c : Nat) (l : List Nat) (w : World)
    (hl : l.length = n) (hn : n ≤ 4096) (h1 : Rd w A (nums .u8 l)) (hk : k < 256) (hep : ep < 9223372036854775808) (hfr : fr < 256) (hwh : wh < 256) (htp : tp < 256) (hrd : rd < 9223372036854775808) :
    Calls Try.prog 14 #[.agg #[.int .i64 k, .int .i64 ep, .int .i64 fr, .int .i64 wh, .int .i64 tp, .int .i64 rd, .slice A n c]] w fun e w' =>
      ∃ A' c', e = .returned (.slice A' (18 + n) c') ∧ Own w' w.heap.size 5 A' (18 + n) c' (nums .u8 (msgBytes k ep fr wh tp rd l)) ∧ Below w.heap.size w w' := by
  obtain ⟨i0, hi0, hz0, hz1, hzb⟩ := info_parts u8_info
  go_enter Try.func14, Try.ntmps14
  have e1 : [Value.int .u8 (IntKind.u8.wrap k)] ++ nums .u8 (digs 4 ep) = nums .u8 ([k] ++ digs 4 ep) := by
    have : IntKind.u8.wrap (k : Int) = k := by rw [IntKind.wrap_u8']; omega
    rw [this]; rfl
  go_upto_region 1 with fail
  go_cut [3] (fun s3 wx => ∃ A' c', s3 = .slice A' 5 c' ∧ Own wx (w.heap.size + 1) 5 A' 5 c' (nums .u8 ([k] ++ digs 4 ep)) ∧ Below (w.heap.size + 1) (w.alloc (.cells #[.int .i64 k, .int .i64 ep, .int .i64 fr, .int .i64 wh, .int .i64 tp, .int .i64 rd, .slice A n c] 24)) wx)
  case first =>
    go_region_held3 (fun w' => w'.cell? ⟨w.heap.size, 0, none⟩ = some (.int .i64 k) ∧ w'.cell? ⟨w.heap.size, 1, none⟩ = some (.int .i64 ep)) (first | exact ⟨‹_›, ‹_›⟩ | go_keep)
      (first
        | (go_at_call 18; refine (word_calls ep 4 _ (by omega) hep).mono ?_; rintro e w1 ⟨A1, c1, rfl, hown1, hb1⟩; have q0 : w1.cell? ⟨w.heap.size, 0, none⟩ = some (.int .i64 k) := (hb1.cell (p := ⟨w.heap.size, 0, none⟩) (by simp <;> omega)).trans (by simp); have q1 : w1.cell? ⟨w.heap.size, 1, none⟩ = some (.int .i64 ep) := (hb1.cell (p := ⟨w.heap.size, 1, none⟩) (by simp <;> omega)).trans (by simp))
        | (refine step_app _ rfl _ _ _ rfl (w.heap.size + 1) 5 i0 _ 1 Try.underlying22 hi0 hz0 hz1 hzb rfl (by decide) _ 1 1 [.int .u8 (IntKind.u8.wrap k)] rfl (((Own.litAt _ [.int .u8 (IntKind.u8.wrap k)] _ (World.size_alloc _ _) (by omega) rfl (by simp [maxLen])).drew).below hb1) _ 4 _ _ rfl (hown1.src (nums_one _ _)) (by omega) (by have := hb1.size; simp at this; omega) ?_; intro A2 c2 w2 hown2 hgr2 hat2; have lt1 : w.heap.size < w1.heap.size := (by have := hb1.size; simp at this; omega); have hbb : Below (w.heap.size + 1) (w.alloc (.cells #[.int .i64 k, .int .i64 ep, .int .i64 fr, .int .i64 wh, .int .i64 tp, .int .i64 rd, .slice A n c] 24)) w2 := ((((Below.refl (w.heap.size + 1) (w.alloc (.cells #[.int .i64 k, .int .i64 ep, .int .i64 fr, .int .i64 wh, .int .i64 tp, .int .i64 rd, .slice A n c] 24))).alloc (by simp) _).drew).trans (hb1.mono (by simp))).grown hgr2 (by omega) (by intro g hg; simp only [blk, Option.some.injEq] at hg; omega); have q0 : w2.cell? ⟨w.heap.size, 0, none⟩ = some (.int .i64 k) := hgr2.cell q0 (by simp [blk]); have q1 : w2.cell? ⟨w.heap.size, 1, none⟩ = some (.int .i64 ep) := hgr2.cell q1 (by simp [blk]))
        | (refine step_app _ rfl _ _ _ rfl (w.heap.size + 1) 5 i0 _ 1 Try.underlying22 hi0 hz0 hz1 hzb rfl (by decide) _ 1 1 [.int .u8 (IntKind.u8.wrap k)] rfl (Own.litAt w1 [.int .u8 (IntKind.u8.wrap k)] _ rfl (by have := hb1.size; simp at this; omega) rfl (by simp [maxLen])) _ 4 _ _ rfl ((hown1.alloc _).src (nums_one _ _)) (by omega) (by have := hb1.size; simp at this ⊢; omega) ?_; intro A2 c2 w2 hown2 hgr2 hat2; have lt1 : w.heap.size < w1.heap.size := (by have := hb1.size; simp at this; omega); have hbb : Below (w.heap.size + 1) (w.alloc (.cells #[.int .i64 k, .int .i64 ep, .int .i64 fr, .int .i64 wh, .int .i64 tp, .int .i64 rd, .slice A n c] 24)) w2 := ((((Below.refl (w.heap.size + 1) (w.alloc (.cells #[.int .i64 k, .int .i64 ep, .int .i64 fr, .int .i64 wh, .int .i64 tp, .int .i64 rd, .slice A n c] 24))).drew).trans (hb1.mono (by simp))).alloc (by omega) _).grown hgr2 (by simp only [World.size_alloc]; omega) (by intro g hg; simp only [blk, Option.some.injEq] at hg; omega); have q0 : w2.cell? ⟨w.heap.size, 0, none⟩ = some (.int .i64 k) := hgr2.cell (v := .int .i64 k) ((World.cell?_alloc_lt _ _ _ lt1).trans q0) (by simp only [blk, ne_eq, Option.some.injEq]; exact Nat.ne_of_lt lt1); have q1 : w2.cell? ⟨w.heap.size, 1, none⟩ = some (.int .i64 ep) := hgr2.cell (v := .int .i64 ep) ((World.cell?_alloc_lt _ _ _ lt1).trans q1) (by simp only [blk, ne_eq, Option.some.injEq]; exact Nat.ne_of_lt lt1)))
    all_goals
      go_wp2_with fail
      go_meet
      exact ⟨A2, c2, rfl, e1 ▸ hown2, hbb⟩
  case rest =>
    clear e1
    obtain ⟨A1, c1, rfl, hown, hb⟩ := hcut
    have bx := (Bk.new w 24 _).below hb (by omega)
    have k2 := bx.cell 2
    have k3 := bx.cell 3
    have k4 := bx.cell 4
    simp at k2 k3 k4
    have hz := hb.size
    simp only [World.size_alloc] at hz
    have lt3 : w.heap.size + 1 ≤ (wc.alloc (.cells #[.int .u8 fr, .int .u8 wh, .int .u8 tp] 5)).heap.size := by simp only [World.size_alloc]; omega
    go_wp2_with (at_builtin; refine wpList_app _ rfl _ _ _ rfl (w.heap.size + 1) 5 i0 _ 1 Try.underlying22 hi0 hz0 hz1 hzb rfl (by decide) _ 5 _ _ rfl (hown.alloc _) _ 3 _ _ rfl (Src.lit3 _ _ _ _ _ _) (by omega) lt3 ?_; intro A2 c2 w2 hown2 hgr2 hat2; have bx2 := (bx.alloc (.cells #[.int .u8 fr, .int .u8 wh, .int .u8 tp] 5)).grown hgr2 (hown.ne_ (by omega)); have k5 : w2.cell? ⟨w.heap.size, 5, none⟩ = some (.int .i64 rd) := bx2.cell 5)
    clear k2 k3 k4 k5
    have hb2 := (hb.alloc hz (.cells #[.int .u8 fr, .int .u8 wh, .int .u8 tp] 5)).grown hgr2 lt3 (fun g hg => (hown.lt g hg).1)
    have hz2 := hb2.size
    simp only [World.size_alloc] at hz2
    clear bx hb hgr2 hat2 hown lt3 hz
    refine (word_calls rd 8 _ (by omega) hrd).mono ?_
    rintro e w3 ⟨A3, c3, rfl, hown3, hb3⟩
    have hz3 := hb3.size
    have bx3 := bx2.under hb3
    have hown2' := hown2.below hb3
    have hb3' := hb2.trans (hb3.mono hz2)
    clear hb2 bx2 hown2
    go_wp2_with (at_builtin; refine wpList_app _ rfl _ _ _ rfl (w.heap.size + 1) 5 i0 _ 1 Try.underlying22 hi0 hz0 hz1 hzb rfl (by decide) _ 8 _ _ rfl hown2' _ 8 _ _ rfl (hown3.src (nums_one _ _)) (by omega) (by omega) ?_; intro A4 c4 w4 hown4 hgr4 hat4; have bx4 := bx3.grown hgr4 (hown2'.ne_ (by omega)); have k6 : w4.cell? ⟨w.heap.size, 6, none⟩ = some (.slice A n c) := bx4.cell 6)
    have hb4 := hb3'.grown hgr4 (by omega) (fun g hg => (hown2'.lt g hg).1)
    have hz4 := hgr4.size
    clear k6 hb3' hgr4 hat4 hown2' bx3 hb3
    refine (word_calls n 2 _ (by omega) (by omega)).mono ?_
    rintro e w5 ⟨A5, c5, rfl, hown5, hb5⟩
    have hz5 := hb5.size
    have bx5 := bx4.under hb5
    have hown4' := hown4.below hb5
    have hb5' := hb4.trans (hb5.mono (by omega))
    clear hb4 bx4 hown4
    go_wp2_with (first
      | (at_builtin; refine wpList_app _ rfl _ _ _ rfl (w.heap.size + 1) 5 i0 _ 1 Try.underlying22 hi0 hz0 hz1 hzb rfl (by decide) _ 16 _ _ rfl hown4' _ 2 _ _ rfl (hown5.src (nums_one _ _)) (by omega) (by omega) ?_; intro A6 c6 w6 hown6 hgr6 hat6; have bx6 := bx5.grown hgr6 (hown4'.ne_ (by omega)); have k6 : w6.cell? ⟨w.heap.size, 6, none⟩ = some (.slice A n c) := bx6.cell 6; have hb6 := hb5'.grown hgr6 (by omega) (fun g hg => (hown4'.lt g hg).1); have hb0 : Below w.heap.size w w6 := (below_alloc w _).trans (hb6.mono (by omega)); have hz6 := hgr6.size)
      | (at_builtin; refine wpList_app _ rfl _ _ _ rfl (w.heap.size + 1) 5 i0 _ 1 Try.underlying22 hi0 hz0 hz1 hzb rfl (by decide) _ 18 _ _ rfl hown6 _ n _ _ rfl ((h1.below hb0).src (nums_one _ _) (by simpa [nums] using hl)) (by omega) (by omega) ?_; intro A7 c7 w7 hown7 hgr7 hat7))
    go_ret
    refine ⟨A7, c7, rfl, ?_, ?_⟩
    · have e3 : [Value.int .u8 (fr : Int), .int .u8 (wh : Int), .int .u8 (tp : Int)] = nums .u8 [fr, wh, tp] := rfl
      have e : (nums .u8 ([k] ++ digs 4 ep) ++ [Value.int .u8 (fr : Int), .int .u8 (wh : Int), .int .u8 (tp : Int)] ++ nums .u8 (digs 8 rd) ++ nums .u8 (digs 2 n) ++ nums .u8 l) = nums .u8 (msgBytes k ep fr wh tp rd l) := by
        rw [e3, ← nums_append, ← nums_append, ← nums_append, ← nums_append]
        simp only [msgBytes, hl, Nat.mod_eq_of_lt hk, Nat.mod_eq_of_lt hfr, Nat.mod_eq_of_lt hwh, Nat.mod_eq_of_lt htp]
      rw [e] at hown7
      exact hown7.from_ (by omega)
    · exact hb0.grown hgr7 (by omega) (fun g hg => by have := (hown6.lt g hg).1; omega)
end Go.Proofs.Ytkdimoijfkikoaa
