/- Package fr: elements as numbers: Inv, Bytes. Conditions: those of each theorem. -/
import Derived.Test.YtdconlmpjehohaaDoorFpD
import Derived.Laws.CopyOwn
import Derived.Deep.RegionHeld3
namespace Go.Proofs.YtdconlmpjehohaaDoor
open Go.RowKit
set_option linter.unusedVariables false

/-- copy into a row that is known whole, as one step of a region that draws: the world behind it is told -/
theorem step_copy_lay {P : Program} {ops : Array Oper} {o : Oper} {a : Act} {w : World} {K : Act → World → Prop} {Q : Exit → Act → World → Prop} {E : Prop} (hgd : o.guard = none) (d s : Operand) (dT sT : TypeId)
    (ho : o.op = .call { callee := .builtin .copy, args := #[d, s], argTypes := #[dT, sT] }) (elem : TypeId) (hu : P.underlying dT = some (.slice elem)) (hsz : (P.info? elem).map (·.size) = some 1)
    (sp : Option Addr) (g off dLen dCap sLen sCap : Nat) (hd : a.eval d = .slice (some ⟨g, off, none⟩) dLen dCap) (hs : a.eval s = .slice sp sLen sCap)
    (cur : List Value) (t : TypeId) (hg : w.heap[g]? = some (.cells cur.toArray t (0, 0))) (cs : List Value) (hn : cs.length = Nat.min sLen dLen)
    (hpos : ∃ ad, sp = some ad ∧ ∀ j v, cs[j]? = some v → w.cell? (ad.add j) = some v)
    (hfit : off + cs.length ≤ cur.length) (h1 : ∀ v ∈ cs, v.oneCell' = true)
    (h : K (a.put o.dst (goInt cs.length)) (w.setRow g (splice cur off cs).toArray)) :
    if Region.wanted o (yielded ops a.tmps) = true then Oper.wp P o a w K Q else E := by
  have hw : Region.wanted o (yielded ops a.tmps) = true := by simp [Region.wanted, hgd]
  rw [if_pos hw]
  obtain ⟨ad, rfl, hsrc⟩ := hpos
  have hrun := run_copy_row (P := P) w dT sT o.type elem g off dLen dCap ad sLen sCap cur.toArray t cs hu hsz hg hn hsrc (by simpa using hfit) h1
  unfold Oper.wp
  simp [execOp, ho, resolve, invoke, builtin, hd, hs, hrun, Result.andThen]
  have h2 : K (a.put o.dst (goInt cs.length)) (w.setRow g (cur.take off ++ (cs ++ cur.drop (off + cs.length))).toArray) := h
  exact h2

theorem splice_app {α : Type} (A Z C : List α) (k : Nat) (hk : A.length = k) : splice (A ++ Z) k C = (A ++ C) ++ Z.drop C.length := by
  subst hk
  simp [splice, List.drop_append]

theorem digs_split (m n x : Nat) : digs (m + n) x = digs m (x / 256 ^ n) ++ digs n x := by
  apply List.ext_getElem
  · simp [digs_length]
  · intro i h1 h2
    rw [digs_get]
    rw [digs_length] at h1
    by_cases h : i < m
    · rw [List.getElem_append_left (by rw [digs_length]; exact h), digs_get, Nat.div_div_eq_div_mul, ← Nat.pow_add, show n + (m - 1 - i) = m + n - 1 - i by omega]
    · rw [List.getElem_append_right (by rw [digs_length]; omega), digs_get, digs_length, show n - 1 - (i - m) = m + n - 1 - i by omega]

theorem digs8 (x : Nat) : digs 8 (x % 18446744073709551616) = digs 8 x := digs_mod 8 x 0

/-- the bytes of a number from those of its words -/
theorem fp_digs {v0 v1 v2 v3 v4 v5 : Nat} (l0 : v0 < 18446744073709551616) (l1 : v1 < 18446744073709551616) (l2 : v2 < 18446744073709551616) (l3 : v3 < 18446744073709551616) (l4 : v4 < 18446744073709551616) (l5 : v5 < 18446744073709551616) :
    digs 8 v5 ++ digs 8 v4 ++ digs 8 v3 ++ digs 8 v2 ++ digs 8 v1 ++ digs 8 v0 = digs 48 (fpNum v0 v1 v2 v3 v4 v5) := by
  rw [show 48 = 8 + (8 + (8 + (8 + (8 + 8)))) from rfl, digs_split, digs_split 8 (8 + (8 + (8 + 8))), digs_split 8 (8 + (8 + 8)), digs_split 8 (8 + 8), digs_split 8 8, show (256 : Nat) ^ (8 + (8 + (8 + (8 + 8)))) = 2135987035920910082395021706169552114602704522356652769947041607822219725780640550022962086936576 by decide, show (256 : Nat) ^ (8 + (8 + (8 + 8))) = 115792089237316195423570985008687907853269984665640564039457584007913129639936 by decide, show (256 : Nat) ^ (8 + (8 + 8)) = 6277101735386680763835789423207666416102355444464034512896 by decide, show (256 : Nat) ^ (8 + 8) = 340282366920938463463374607431768211456 by decide, show (256 : Nat) ^ 8 = 18446744073709551616 by decide]
  rw [← digs8 (fpNum v0 v1 v2 v3 v4 v5 / 2135987035920910082395021706169552114602704522356652769947041607822219725780640550022962086936576), ← digs8 (fpNum v0 v1 v2 v3 v4 v5 / 115792089237316195423570985008687907853269984665640564039457584007913129639936), ← digs8 (fpNum v0 v1 v2 v3 v4 v5 / 6277101735386680763835789423207666416102355444464034512896), ← digs8 (fpNum v0 v1 v2 v3 v4 v5 / 340282366920938463463374607431768211456), ← digs8 (fpNum v0 v1 v2 v3 v4 v5 / 18446744073709551616), ← digs8 (fpNum v0 v1 v2 v3 v4 v5)]
  have e0 : fpNum v0 v1 v2 v3 v4 v5 % 18446744073709551616 = v0 := by unfold fpNum; omega
  have e1 : fpNum v0 v1 v2 v3 v4 v5 / 18446744073709551616 % 18446744073709551616 = v1 := by unfold fpNum; omega
  have e2 : fpNum v0 v1 v2 v3 v4 v5 / 340282366920938463463374607431768211456 % 18446744073709551616 = v2 := by unfold fpNum; omega
  have e3 : fpNum v0 v1 v2 v3 v4 v5 / 6277101735386680763835789423207666416102355444464034512896 % 18446744073709551616 = v3 := by unfold fpNum; omega
  have e4 : fpNum v0 v1 v2 v3 v4 v5 / 115792089237316195423570985008687907853269984665640564039457584007913129639936 % 18446744073709551616 = v4 := by unfold fpNum; omega
  have e5 : fpNum v0 v1 v2 v3 v4 v5 / 2135987035920910082395021706169552114602704522356652769947041607822219725780640550022962086936576 % 18446744073709551616 = v5 := by unfold fpNum; omega
  rw [e0, e1, e2, e3, e4, e5]
  simp only [List.append_assoc]

theorem fp_fill {v0 v1 v2 v3 v4 v5 : Nat} (l0 : v0 < 18446744073709551616) (l1 : v1 < 18446744073709551616) (l2 : v2 < 18446744073709551616) (l3 : v3 < 18446744073709551616) (l4 : v4 < 18446744073709551616) (l5 : v5 < 18446744073709551616) :
    splice (splice (splice (splice (splice (splice (nums .u8 (List.replicate 48 0)) 0 (nums .u8 (digs 8 v5))) 8 (nums .u8 (digs 8 v4))) 16 (nums .u8 (digs 8 v3))) 24 (nums .u8 (digs 8 v2))) 32 (nums .u8 (digs 8 v1))) 40 (nums .u8 (digs 8 v0)) = nums .u8 (digs 48 (fpNum v0 v1 v2 v3 v4 v5)) := by
  rw [← fp_digs l0 l1 l2 l3 l4 l5, show nums .u8 (List.replicate 48 0) = [] ++ nums .u8 (List.replicate 48 0) from rfl]
  rw [splice_app [] _ _ 0 rfl, splice_app _ _ _ 8 (by simp [nums_length, digs_length]), splice_app _ _ _ 16 (by simp [nums_length, digs_length]), splice_app _ _ _ 24 (by simp [nums_length, digs_length]), splice_app _ _ _ 32 (by simp [nums_length, digs_length]), splice_app _ _ _ 40 (by simp [nums_length, digs_length])]
  simp only [nums_append, List.drop_drop, nums_length, digs_length, List.nil_append]
  rw [List.drop_eq_nil_of_le (by simp [nums_length])]
  simp only [List.append_nil]

/-- the exponent of the inverse -/
def fpI : Nat := 4002409555221667393417789825735904156556882819939007885332058136124031650490837864442687629129015664037894272559785

theorem fpI_val : fpV fpI = .agg #[.int .u64 13402431016077863593, .int .u64 2210141511517208575, .int .u64 7435674573564081700, .int .u64 7239337960414712511, .int .u64 5412103778470702295, .int .u64 1873798617647539866] := by kernel_rfl

set_option maxHeartbeats 1000000 in
set_option maxRecDepth 100000 in
theorem fp_bytes_calls (a : Nat) (w : World) (ht : FpTab w) :
    Calls Tryd.prog 24 #[fpE a] w fun e w' => e = .returned (.agg (nums .u8 (digs 48 (a % fpQ))).toArray) ∧ Below w.heap.size w w' := by
  have hlt : a % fpQ < fpQ := Nat.mod_lt _ (by decide)
  have HM := fun W hW => fp_plain_calls a W hW
  have HT := Lib.hid ht
  obtain ⟨x0, x1, x2, x3, x4, x5, hx⟩ := fpV_agg (a * fpR % fpQ) (fpE_lt a)
  obtain ⟨v0, v1, v2, v3, v4, v5, l0, l1, l2, l3, l4, l5, hn, hv⟩ := fpV_ex (a % fpQ) (by unfold fpQ at hlt ⊢; omega)
  have HXV : fpE a = .agg #[.int .u64 x0, .int .u64 x1, .int .u64 x2, .int .u64 x3, .int .u64 x4, .int .u64 x5] := hx
  rw [HXV, hv] at HM
  rw [HXV]
  have HN := Lib.hid hn
  have HM := Lib.hid HM
  clear hx hv hn ht hlt HXV
  go_enter Tryd.func24, Tryd.ntmps24
  go_wp2_with fail
  refine (HM.out _ (HT.out.below (by repeat (first | exact Below.refl _ _ | refine Below.drew ?_ | refine below_drewN ?_ _ | refine Below.alloc ?_ (by simp <;> omega) _)))).mono ?_
  rintro e xw ⟨he, hb1⟩
  subst he
  go_wp2_with fail
  have pz : Bk (((w.alloc (.cells #[.int .u64 x0, .int .u64 x1, .int .u64 x2, .int .u64 x3, .int .u64 x4, .int .u64 x5] 34)).alloc (.cells (nums .u8 (List.replicate 48 0)).toArray 53)).alloc (.cells (nums .u8 (List.replicate 48 0)).toArray 53)) (w.heap.size + 1) 53 (nums .u8 (List.replicate 48 0)).toArray := (Bk.new1 (w.alloc (.cells #[.int .u64 x0, .int .u64 x1, .int .u64 x2, .int .u64 x3, .int .u64 x4, .int .u64 x5] 34)) 53 _ (by simp)).alloc _
  have pb : Bk (((w.alloc (.cells #[.int .u64 x0, .int .u64 x1, .int .u64 x2, .int .u64 x3, .int .u64 x4, .int .u64 x5] 34)).alloc (.cells (nums .u8 (List.replicate 48 0)).toArray 53)).alloc (.cells (nums .u8 (List.replicate 48 0)).toArray 53)) (w.heap.size + 1 + 1) 53 (nums .u8 (List.replicate 48 0)).toArray := Bk.new1 ((w.alloc (.cells #[.int .u64 x0, .int .u64 x1, .int .u64 x2, .int .u64 x3, .int .u64 x4, .int .u64 x5] 34)).alloc (.cells (nums .u8 (List.replicate 48 0)).toArray 53)) 53 _ (by simp)
  have pz := (Bk.under pz hb1).alloc (.cells #[.int .u64 v0, .int .u64 v1, .int .u64 v2, .int .u64 v3, .int .u64 v4, .int .u64 v5] 32)
  have pb := (Bk.under pb hb1).alloc (.cells #[.int .u64 v0, .int .u64 v1, .int .u64 v2, .int .u64 v3, .int .u64 v4, .int .u64 v5] 32)
  have pv := Bk.new xw 32 #[.int .u64 v0, .int .u64 v1, .int .u64 v2, .int .u64 v3, .int .u64 v4, .int .u64 v5]
  have hsz := hb1.size
  have hb := (show Below w.heap.size w _ from (by repeat (first | exact Below.refl _ _ | refine Below.drew ?_ | refine below_drewN ?_ _ | refine Below.alloc ?_ (by simp <;> omega) _))).trans (hb1.mono (by simp <;> omega))
  have hb := hb.alloc hb.size (.cells #[.int .u64 v0, .int .u64 v1, .int .u64 v2, .int .u64 v3, .int .u64 v4, .int .u64 v5] 32)
  simp only [World.size_alloc] at hsz
  clear hb1
  obtain ⟨B, hB⟩ : ∃ B, w.heap.size + 1 + 1 = B := ⟨_, rfl⟩
  obtain ⟨Y, hY⟩ : ∃ Y, w.heap.size + 1 = Y := ⟨_, rfl⟩
  rw [hB] at pb hsz ⊢
  rw [hY] at pz hB ⊢
  generalize hW : xw.alloc (.cells #[.int .u64 v0, .int .u64 v1, .int .u64 v2, .int .u64 v3, .int .u64 v4, .int .u64 v5] 32) = W at *
  clear hW
  generalize xw.heap.size = V at *
  have hu8 : (Tryd.prog.info? 5).map (·.size) = some 1 := by kernel_rfl
  have hw0 : IntKind.i64.wrap 0 = 0 := by decide
  have hw1 : IntKind.i64.wrap 1 = 1 := by decide
  have hw2 : IntKind.i64.wrap 2 = 2 := by decide
  have hw3 : IntKind.i64.wrap 3 = 3 := by decide
  have hw8 : IntKind.i64.wrap 8 = 8 := by decide
  have hw16 : IntKind.i64.wrap 16 = 16 := by decide
  have hw24 : IntKind.i64.wrap 24 = 24 := by decide
  have hw32 : IntKind.i64.wrap 32 = 32 := by decide
  have hw40 : IntKind.i64.wrap 40 = 40 := by decide
  have hw4 : IntKind.i64.wrap 4 = 4 := by decide
  have hw5 : IntKind.i64.wrap 5 = 5 := by decide
  refine wp_loop_rounds 7 ?_
  rw [rounds_succ]
  go_wp2_with fail
  have own0 : ∀ W : World, Own W W.heap.size 5 none 0 0 [] := fun W => Own.nil_ W _ _
  go_region_held3 (fun w' => w'.cell? ⟨V, 5, none⟩ = some (.int .u64 v5)) (first | exact pv.cell 5 | go_keep) (first | (go_at_call 48; refine (fp_put_calls none 0 0 v5 8 _ [] _ (own0 _) (Nat.le_refl _) (by omega) (by omega) l5).mono ?_; rintro e u0 ⟨A0, c0, rfl, ow0, gr0, -⟩; have hbl := below_of_grown gr0 (Nat.le_refl _) (by simp [blk]); have pb := pb.drew.under hbl; have pv := pv.drew.under hbl; have pz := pz.drew.under hbl; have hb := hb.drew.trans (hbl.mono hb.drew.size); have hsr := ow0.src (nums_one _ _)) | (refine step_copy_lay rfl _ _ _ _ rfl 5 Tryd.underlying22 hu8 _ B 0 _ _ _ _ rfl rfl (nums .u8 (List.replicate 48 0)) 53 pb (nums .u8 (digs 8 v5)) (by simp [nums_length, digs_length]) (by obtain ⟨_, _, h0 | h⟩ := hsr; exact absurd h0 (by simp); exact h) (by simp [nums_length, digs_length]) (nums_one _ _) ?_; have pv := pv.rowFar (g' := B) (by omega) (splice (nums .u8 (List.replicate 48 0)) 0 (nums .u8 (digs 8 v5))).toArray; have pz := pz.rowFar (g' := B) (by omega) (splice (nums .u8 (List.replicate 48 0)) 0 (nums .u8 (digs 8 v5))).toArray; have hb := below_setRow hb (g := B) (by omega) (splice (nums .u8 (List.replicate 48 0)) 0 (nums .u8 (digs 8 v5))).toArray; have pb := pb.row (splice (nums .u8 (List.replicate 48 0)) 0 (nums .u8 (digs 8 v5))).toArray))
  obtain ⟨R1, hR1⟩ : ∃ R, splice (nums .u8 (List.replicate 48 0)) 0 (nums .u8 (digs 8 v5)) = R := ⟨_, rfl⟩
  have lR1 : R1.length = 48 := by rw [← hR1]; simp [splice, nums_length, digs_length]
  rw [hR1] at pb pv pz hb ⊢
  go_wp2_with fail
  rw [rounds_succ]
  go_wp2_with fail
  have own1 : ∀ W : World, Own W W.heap.size 5 none 0 0 [] := fun W => Own.nil_ W _ _
  go_region_held3 (fun w' => w'.cell? ⟨V, 4, none⟩ = some (.int .u64 v4)) (first | exact pv.cell 4 | go_keep) (first | (go_at_call 48; refine (fp_put_calls none 0 0 v4 8 _ [] _ (own1 _) (Nat.le_refl _) (by omega) (by omega) l4).mono ?_; rintro e u1 ⟨A1, c1, rfl, ow1, gr1, -⟩; have hbl := below_of_grown gr1 (Nat.le_refl _) (by simp [blk]); have pb := pb.drew.under hbl; have pv := pv.drew.under hbl; have pz := pz.drew.under hbl; have hb := hb.drew.trans (hbl.mono hb.drew.size); have hsr := ow1.src (nums_one _ _)) | (refine step_copy_lay rfl _ _ _ _ rfl 5 Tryd.underlying22 hu8 _ B 8 _ _ _ _ rfl rfl R1 53 pb (nums .u8 (digs 8 v4)) (by simp [nums_length, digs_length]) (by obtain ⟨_, _, h0 | h⟩ := hsr; exact absurd h0 (by simp); exact h) (by simp [nums_length, digs_length, lR1]) (nums_one _ _) ?_; have pv := pv.rowFar (g' := B) (by omega) (splice R1 8 (nums .u8 (digs 8 v4))).toArray; have pz := pz.rowFar (g' := B) (by omega) (splice R1 8 (nums .u8 (digs 8 v4))).toArray; have hb := below_setRow hb (g := B) (by omega) (splice R1 8 (nums .u8 (digs 8 v4))).toArray; have pb := pb.row (splice R1 8 (nums .u8 (digs 8 v4))).toArray))
  obtain ⟨R2, hR2⟩ : ∃ R, splice R1 8 (nums .u8 (digs 8 v4)) = R := ⟨_, rfl⟩
  have lR2 : R2.length = 48 := by rw [← hR2]; simp [splice, nums_length, digs_length, lR1]
  rw [hR2] at pb pv pz hb ⊢
  go_wp2_with fail
  rw [rounds_succ]
  go_wp2_with fail
  have own2 : ∀ W : World, Own W W.heap.size 5 none 0 0 [] := fun W => Own.nil_ W _ _
  go_region_held3 (fun w' => w'.cell? ⟨V, 3, none⟩ = some (.int .u64 v3)) (first | exact pv.cell 3 | go_keep) (first | (go_at_call 48; refine (fp_put_calls none 0 0 v3 8 _ [] _ (own2 _) (Nat.le_refl _) (by omega) (by omega) l3).mono ?_; rintro e u2 ⟨A2, c2, rfl, ow2, gr2, -⟩; have hbl := below_of_grown gr2 (Nat.le_refl _) (by simp [blk]); have pb := pb.drew.under hbl; have pv := pv.drew.under hbl; have pz := pz.drew.under hbl; have hb := hb.drew.trans (hbl.mono hb.drew.size); have hsr := ow2.src (nums_one _ _)) | (refine step_copy_lay rfl _ _ _ _ rfl 5 Tryd.underlying22 hu8 _ B 16 _ _ _ _ rfl rfl R2 53 pb (nums .u8 (digs 8 v3)) (by simp [nums_length, digs_length]) (by obtain ⟨_, _, h0 | h⟩ := hsr; exact absurd h0 (by simp); exact h) (by simp [nums_length, digs_length, lR2]) (nums_one _ _) ?_; have pv := pv.rowFar (g' := B) (by omega) (splice R2 16 (nums .u8 (digs 8 v3))).toArray; have pz := pz.rowFar (g' := B) (by omega) (splice R2 16 (nums .u8 (digs 8 v3))).toArray; have hb := below_setRow hb (g := B) (by omega) (splice R2 16 (nums .u8 (digs 8 v3))).toArray; have pb := pb.row (splice R2 16 (nums .u8 (digs 8 v3))).toArray))
  obtain ⟨R3, hR3⟩ : ∃ R, splice R2 16 (nums .u8 (digs 8 v3)) = R := ⟨_, rfl⟩
  have lR3 : R3.length = 48 := by rw [← hR3]; simp [splice, nums_length, digs_length, lR2]
  rw [hR3] at pb pv pz hb ⊢
  go_wp2_with fail
  rw [rounds_succ]
  go_wp2_with fail
  have own3 : ∀ W : World, Own W W.heap.size 5 none 0 0 [] := fun W => Own.nil_ W _ _
  go_region_held3 (fun w' => w'.cell? ⟨V, 2, none⟩ = some (.int .u64 v2)) (first | exact pv.cell 2 | go_keep) (first | (go_at_call 48; refine (fp_put_calls none 0 0 v2 8 _ [] _ (own3 _) (Nat.le_refl _) (by omega) (by omega) l2).mono ?_; rintro e u3 ⟨A3, c3, rfl, ow3, gr3, -⟩; have hbl := below_of_grown gr3 (Nat.le_refl _) (by simp [blk]); have pb := pb.drew.under hbl; have pv := pv.drew.under hbl; have pz := pz.drew.under hbl; have hb := hb.drew.trans (hbl.mono hb.drew.size); have hsr := ow3.src (nums_one _ _)) | (refine step_copy_lay rfl _ _ _ _ rfl 5 Tryd.underlying22 hu8 _ B 24 _ _ _ _ rfl rfl R3 53 pb (nums .u8 (digs 8 v2)) (by simp [nums_length, digs_length]) (by obtain ⟨_, _, h0 | h⟩ := hsr; exact absurd h0 (by simp); exact h) (by simp [nums_length, digs_length, lR3]) (nums_one _ _) ?_; have pv := pv.rowFar (g' := B) (by omega) (splice R3 24 (nums .u8 (digs 8 v2))).toArray; have pz := pz.rowFar (g' := B) (by omega) (splice R3 24 (nums .u8 (digs 8 v2))).toArray; have hb := below_setRow hb (g := B) (by omega) (splice R3 24 (nums .u8 (digs 8 v2))).toArray; have pb := pb.row (splice R3 24 (nums .u8 (digs 8 v2))).toArray))
  obtain ⟨R4, hR4⟩ : ∃ R, splice R3 24 (nums .u8 (digs 8 v2)) = R := ⟨_, rfl⟩
  have lR4 : R4.length = 48 := by rw [← hR4]; simp [splice, nums_length, digs_length, lR3]
  rw [hR4] at pb pv pz hb ⊢
  go_wp2_with fail
  rw [rounds_succ]
  go_wp2_with fail
  have own4 : ∀ W : World, Own W W.heap.size 5 none 0 0 [] := fun W => Own.nil_ W _ _
  go_region_held3 (fun w' => w'.cell? ⟨V, 1, none⟩ = some (.int .u64 v1)) (first | exact pv.cell 1 | go_keep) (first | (go_at_call 48; refine (fp_put_calls none 0 0 v1 8 _ [] _ (own4 _) (Nat.le_refl _) (by omega) (by omega) l1).mono ?_; rintro e u4 ⟨A4, c4, rfl, ow4, gr4, -⟩; have hbl := below_of_grown gr4 (Nat.le_refl _) (by simp [blk]); have pb := pb.drew.under hbl; have pv := pv.drew.under hbl; have pz := pz.drew.under hbl; have hb := hb.drew.trans (hbl.mono hb.drew.size); have hsr := ow4.src (nums_one _ _)) | (refine step_copy_lay rfl _ _ _ _ rfl 5 Tryd.underlying22 hu8 _ B 32 _ _ _ _ rfl rfl R4 53 pb (nums .u8 (digs 8 v1)) (by simp [nums_length, digs_length]) (by obtain ⟨_, _, h0 | h⟩ := hsr; exact absurd h0 (by simp); exact h) (by simp [nums_length, digs_length, lR4]) (nums_one _ _) ?_; have pv := pv.rowFar (g' := B) (by omega) (splice R4 32 (nums .u8 (digs 8 v1))).toArray; have pz := pz.rowFar (g' := B) (by omega) (splice R4 32 (nums .u8 (digs 8 v1))).toArray; have hb := below_setRow hb (g := B) (by omega) (splice R4 32 (nums .u8 (digs 8 v1))).toArray; have pb := pb.row (splice R4 32 (nums .u8 (digs 8 v1))).toArray))
  obtain ⟨R5, hR5⟩ : ∃ R, splice R4 32 (nums .u8 (digs 8 v1)) = R := ⟨_, rfl⟩
  have lR5 : R5.length = 48 := by rw [← hR5]; simp [splice, nums_length, digs_length, lR4]
  rw [hR5] at pb pv pz hb ⊢
  go_wp2_with fail
  rw [rounds_succ]
  go_wp2_with fail
  have own5 : ∀ W : World, Own W W.heap.size 5 none 0 0 [] := fun W => Own.nil_ W _ _
  go_region_held3 (fun w' => w'.cell? ⟨V, 0, none⟩ = some (.int .u64 v0)) (first | exact pv.cell 0 | go_keep) (first | (go_at_call 48; refine (fp_put_calls none 0 0 v0 8 _ [] _ (own5 _) (Nat.le_refl _) (by omega) (by omega) l0).mono ?_; rintro e u5 ⟨A5, c5, rfl, ow5, gr5, -⟩; have hbl := below_of_grown gr5 (Nat.le_refl _) (by simp [blk]); have pb := pb.drew.under hbl; have pv := pv.drew.under hbl; have pz := pz.drew.under hbl; have hb := hb.drew.trans (hbl.mono hb.drew.size); have hsr := ow5.src (nums_one _ _)) | (refine step_copy_lay rfl _ _ _ _ rfl 5 Tryd.underlying22 hu8 _ B 40 _ _ _ _ rfl rfl R5 53 pb (nums .u8 (digs 8 v0)) (by simp [nums_length, digs_length]) (by obtain ⟨_, _, h0 | h⟩ := hsr; exact absurd h0 (by simp); exact h) (by simp [nums_length, digs_length, lR5]) (nums_one _ _) ?_; have pv := pv.rowFar (g' := B) (by omega) (splice R5 40 (nums .u8 (digs 8 v0))).toArray; have pz := pz.rowFar (g' := B) (by omega) (splice R5 40 (nums .u8 (digs 8 v0))).toArray; have hb := below_setRow hb (g := B) (by omega) (splice R5 40 (nums .u8 (digs 8 v0))).toArray; have pb := pb.row (splice R5 40 (nums .u8 (digs 8 v0))).toArray))
  obtain ⟨R6, hR6⟩ : ∃ R, splice R5 40 (nums .u8 (digs 8 v0)) = R := ⟨_, rfl⟩
  have lR6 : R6.length = 48 := by rw [← hR6]; simp [splice, nums_length, digs_length, lR5]
  rw [hR6] at pb pv pz hb ⊢
  go_wp2_with fail
  rw [rounds_succ]
  have hfin := fp_fill l0 l1 l2 l3 l4 l5
  rw [hR1, hR2, hR3, hR4, hR5, hR6, HN.out] at hfin
  subst hfin
  have hone := nums_one .u8 (digs 48 (a % fpQ))
  have m48 : (Tryd.prog.info? 53).map (·.size) = some (nums .u8 (digs 48 (a % fpQ))).toArray.size := by rw [List.size_toArray, lR6]; kernel_rfl
  go_wp2_with (first | (refine wpList_load_row rfl _ _ rfl _ rfl _ _ _ _ pb Tryd.underlying53 rfl m48 ?_) | (refine wpList_store_row rfl _ _ _ rfl _ _ rfl rfl _ _ pz m48 rfl (by simpa using hone) ?_))
  exact bodyPost_ret (results_cell_row rfl _ _ Y _ _ _ _ rfl (pz.row _) Tryd.underlying53 rfl m48) rfl ⟨rfl, below_setRow hb (by omega) _⟩
end Go.Proofs.YtdconlmpjehohaaDoor
