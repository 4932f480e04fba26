/- Package fr: elements as numbers: Inv, Bytes. Conditions: those of each theorem. -/
import Derived.Test.YtpinopjnlcbipaaDoorFrD
import Derived.Laws.CopyOwn
import Derived.Deep.RegionHeld3
namespace Go.Proofs.YtpinopjnlcbipaaDoor
open Go.RowKit
set_option linter.unusedVariables false

/-- copy into a row that is known whole, as one step of a region that draws: the world behind it is told -/
theorem step_copy_lay {P : Program} {ops : Array Oper} {o : Oper} {a : Act} {w : World} {K : Act → World → Prop} {Q : Exit → Act → World → Prop} {E : Prop} (hgd : o.guard = none) (d s : Operand) (dT sT : TypeId)
    (ho : o.op = .call { callee := .builtin .copy, args := #[d, s], argTypes := #[dT, sT] }) (elem : TypeId) (hu : P.underlying dT = some (.slice elem)) (hsz : (P.info? elem).map (·.size) = some 1)
    (sp : Option Addr) (g off dLen dCap sLen sCap : Nat) (hd : a.eval d = .slice (some ⟨g, off, none⟩) dLen dCap) (hs : a.eval s = .slice sp sLen sCap)
    (cur : List Value) (t : TypeId) (hg : w.heap[g]? = some (.cells cur.toArray t (0, 0))) (cs : List Value) (hn : cs.length = Nat.min sLen dLen)
    (hpos : ∃ ad, sp = some ad ∧ ∀ j v, cs[j]? = some v → w.cell? (ad.add j) = some v)
    (hfit : off + cs.length ≤ cur.length) (h1 : ∀ v ∈ cs, v.oneCell' = true)
    (h : K (a.put o.dst (goInt cs.length)) (w.setRow g (splice cur off cs).toArray)) :
    if Region.wanted o (yielded ops a.tmps) = true then Oper.wp P o a w K Q else E := by
  have hw : Region.wanted o (yielded ops a.tmps) = true := by simp [Region.wanted, hgd]
  rw [if_pos hw]
  obtain ⟨ad, rfl, hsrc⟩ := hpos
  have hrun := run_copy_row (P := P) w dT sT o.type elem g off dLen dCap ad sLen sCap cur.toArray t cs hu hsz hg hn hsrc (by simpa using hfit) h1
  unfold Oper.wp
  simp [execOp, ho, resolve, invoke, builtin, hd, hs, hrun, Result.andThen]
  have h2 : K (a.put o.dst (goInt cs.length)) (w.setRow g (cur.take off ++ (cs ++ cur.drop (off + cs.length))).toArray) := h
  exact h2

theorem splice_app {α : Type} (A Z C : List α) (k : Nat) (hk : A.length = k) : splice (A ++ Z) k C = (A ++ C) ++ Z.drop C.length := by
  subst hk
  simp [splice, List.drop_append]

theorem digs_split (m n x : Nat) : digs (m + n) x = digs m (x / 256 ^ n) ++ digs n x := by
  apply List.ext_getElem
  · simp [digs_length]
  · intro i h1 h2
    rw [digs_get]
    rw [digs_length] at h1
    by_cases h : i < m
    · rw [List.getElem_append_left (by rw [digs_length]; exact h), digs_get, Nat.div_div_eq_div_mul, ← Nat.pow_add, show n + (m - 1 - i) = m + n - 1 - i by omega]
    · rw [List.getElem_append_right (by rw [digs_length]; omega), digs_get, digs_length, show n - 1 - (i - m) = m + n - 1 - i by omega]

theorem digs8 (x : Nat) : digs 8 (x % 18446744073709551616) = digs 8 x := digs_mod 8 x 0

/-- the bytes of a number from those of its words -/
theorem fr_digs {v0 v1 v2 v3 : Nat} (l0 : v0 < 18446744073709551616) (l1 : v1 < 18446744073709551616) (l2 : v2 < 18446744073709551616) (l3 : v3 < 18446744073709551616) :
    digs 8 v3 ++ digs 8 v2 ++ digs 8 v1 ++ digs 8 v0 = digs 32 (frNum v0 v1 v2 v3) := by
  rw [show 32 = 8 + (8 + (8 + 8)) from rfl, digs_split, digs_split 8 (8 + 8), digs_split 8 8, show (256 : Nat) ^ (8 + (8 + 8)) = 6277101735386680763835789423207666416102355444464034512896 by decide, show (256 : Nat) ^ (8 + 8) = 340282366920938463463374607431768211456 by decide, show (256 : Nat) ^ 8 = 18446744073709551616 by decide]
  rw [← digs8 (frNum v0 v1 v2 v3 / 6277101735386680763835789423207666416102355444464034512896), ← digs8 (frNum v0 v1 v2 v3 / 340282366920938463463374607431768211456), ← digs8 (frNum v0 v1 v2 v3 / 18446744073709551616), ← digs8 (frNum v0 v1 v2 v3)]
  have e0 : frNum v0 v1 v2 v3 % 18446744073709551616 = v0 := by unfold frNum; omega
  have e1 : frNum v0 v1 v2 v3 / 18446744073709551616 % 18446744073709551616 = v1 := by unfold frNum; omega
  have e2 : frNum v0 v1 v2 v3 / 340282366920938463463374607431768211456 % 18446744073709551616 = v2 := by unfold frNum; omega
  have e3 : frNum v0 v1 v2 v3 / 6277101735386680763835789423207666416102355444464034512896 % 18446744073709551616 = v3 := by unfold frNum; omega
  rw [e0, e1, e2, e3]
  simp only [List.append_assoc]

theorem fr_fill {v0 v1 v2 v3 : Nat} (l0 : v0 < 18446744073709551616) (l1 : v1 < 18446744073709551616) (l2 : v2 < 18446744073709551616) (l3 : v3 < 18446744073709551616) :
    splice (splice (splice (splice (nums .u8 (List.replicate 32 0)) 0 (nums .u8 (digs 8 v3))) 8 (nums .u8 (digs 8 v2))) 16 (nums .u8 (digs 8 v1))) 24 (nums .u8 (digs 8 v0)) = nums .u8 (digs 32 (frNum v0 v1 v2 v3)) := by
  rw [← fr_digs l0 l1 l2 l3, show nums .u8 (List.replicate 32 0) = [] ++ nums .u8 (List.replicate 32 0) from rfl]
  rw [splice_app [] _ _ 0 rfl, splice_app _ _ _ 8 (by simp [nums_length, digs_length]), splice_app _ _ _ 16 (by simp [nums_length, digs_length]), splice_app _ _ _ 24 (by simp [nums_length, digs_length])]
  simp only [nums_append, List.drop_drop, nums_length, digs_length, List.nil_append]
  rw [List.drop_eq_nil_of_le (by simp [nums_length])]
  simp only [List.append_nil]

/-- the exponent of the inverse -/
def frI : Nat := 52435875175126190479447740508185965837690552500527637822603658699938581184511

theorem frI_val : frV frI = .agg #[.int .u64 18446744069414584319, .int .u64 6034159408538082302, .int .u64 3691218898639771653, .int .u64 8353516859464449352] := by kernel_rfl

set_option maxHeartbeats 1000000 in
set_option maxRecDepth 100000 in
theorem fr_inv_calls (a : Nat) (w : World) (ht : FrTab w) :
    Calls Tryd.prog 24 #[frE a] w fun e w' => e = .returned (frE (a ^ frI)) ∧ Below w.heap.size w w' := by
  have HM := fun W hW => fr_power_calls a frI W hW (by decide)
  have HT := Lib.hid ht
  rw [frI_val] at HM
  obtain ⟨x0, x1, x2, x3, hx⟩ := frV_agg (a * frR % frQ) (frE_lt a)
  obtain ⟨r0, r1, r2, r3, hr⟩ := frV_agg (a ^ frI * frR % frQ) (frE_lt _)
  have HM' : ∀ W, FrTab W → Calls Tryd.prog 41 #[.agg #[.int .u64 x0, .int .u64 x1, .int .u64 x2, .int .u64 x3], .agg #[.int .u64 18446744069414584319, .int .u64 6034159408538082302, .int .u64 3691218898639771653, .int .u64 8353516859464449352]] W fun e w' => e = .returned (.agg #[.int .u64 r0, .int .u64 r1, .int .u64 r2, .int .u64 r3]) ∧ Below W.heap.size W w' := by
    intro W hW
    have h := HM W hW
    unfold frE at h
    rw [hx, hr] at h
    exact h
  have HP := Lib.hid HM'
  have HRV : Hid (frE (a ^ frI) = .agg #[.int .u64 r0, .int .u64 r1, .int .u64 r2, .int .u64 r3]) := hr
  have HXV : frE a = .agg #[.int .u64 x0, .int .u64 x1, .int .u64 x2, .int .u64 x3] := hx
  rw [HXV]
  generalize hR : frE (a ^ frI) = R at *
  clear HM HM' hx hr HXV hR
  obtain ⟨g1, g2, q0, q1, q2, q3, _⟩ := ht
  go_enter Tryd.func24, Tryd.ntmps24
  go_wp2_with fail
  have HT2 := HT.out
  refine (HP.out _ (HT.out.below (by repeat (first | exact Below.refl _ _ | refine Below.drew ?_ | refine below_drewN ?_ _ | refine Below.alloc ?_ (by simp <;> omega) _)))).mono ?_
  rintro e xw ⟨he, hb1⟩
  subst he
  have p4 := ((Bk.new1 (w.alloc (.cells #[.int .u64 x0, .int .u64 x1, .int .u64 x2, .int .u64 x3] 27)) 27 #[.int .u64 0, .int .u64 0, .int .u64 0, .int .u64 0] (n := w.heap.size + 1) (by simp)).alloc (.cells #[.int .u64 18446744069414584319, .int .u64 6034159408538082302, .int .u64 3691218898639771653, .int .u64 8353516859464449352] 25)).under hb1
  have hb := (show Below w.heap.size w _ from (by repeat (first | exact Below.refl _ _ | refine Below.drew ?_ | refine below_drewN ?_ _ | refine Below.alloc ?_ (by simp <;> omega) _))).trans (hb1.mono (by simp <;> omega))
  have m4 := fr_size
  go_wp2_with (refine wpList_store_row rfl _ _ _ rfl _ _ rfl rfl _ _ p4 m4 rfl (by simp [Value.oneCell']) ?_)
  exact bodyPost_ret (results_cell_row rfl _ _ (w.heap.size + 1) _ _ _ _ rfl (p4.row _) Tryd.underlying27 rfl m4) rfl ⟨congrArg Ending.returned HRV.out.symm, below_setRow hb (by omega) _⟩

set_option maxHeartbeats 1000000 in
set_option maxRecDepth 100000 in
theorem fr_bytes_calls (a : Nat) (w : World) (ht : FrTab w) :
    Calls Tryd.prog 33 #[frE a] w fun e w' => e = .returned (.agg (nums .u8 (digs 32 (a % frQ))).toArray) ∧ Below w.heap.size w w' := by
  have hlt : a % frQ < frQ := Nat.mod_lt _ (by decide)
  have HM := fun W hW => fr_plain_calls a W hW
  have HT := Lib.hid ht
  obtain ⟨x0, x1, x2, x3, hx⟩ := frV_agg (a * frR % frQ) (frE_lt a)
  obtain ⟨v0, v1, v2, v3, l0, l1, l2, l3, hn, hv⟩ := frV_ex (a % frQ) (by unfold frQ at hlt ⊢; omega)
  have HXV : frE a = .agg #[.int .u64 x0, .int .u64 x1, .int .u64 x2, .int .u64 x3] := hx
  rw [HXV, hv] at HM
  rw [HXV]
  have HN := Lib.hid hn
  have HM := Lib.hid HM
  clear hx hv hn ht hlt HXV
  go_enter Tryd.func33, Tryd.ntmps33
  go_wp2_with fail
  refine (HM.out _ (HT.out.below (by repeat (first | exact Below.refl _ _ | refine Below.drew ?_ | refine below_drewN ?_ _ | refine Below.alloc ?_ (by simp <;> omega) _)))).mono ?_
  rintro e xw ⟨he, hb1⟩
  subst he
  go_wp2_with fail
  have pz : Bk (((w.alloc (.cells #[.int .u64 x0, .int .u64 x1, .int .u64 x2, .int .u64 x3] 27)).alloc (.cells (nums .u8 (List.replicate 32 0)).toArray 52)).alloc (.cells (nums .u8 (List.replicate 32 0)).toArray 52)) (w.heap.size + 1) 52 (nums .u8 (List.replicate 32 0)).toArray := (Bk.new1 (w.alloc (.cells #[.int .u64 x0, .int .u64 x1, .int .u64 x2, .int .u64 x3] 27)) 52 _ (by simp)).alloc _
  have pb : Bk (((w.alloc (.cells #[.int .u64 x0, .int .u64 x1, .int .u64 x2, .int .u64 x3] 27)).alloc (.cells (nums .u8 (List.replicate 32 0)).toArray 52)).alloc (.cells (nums .u8 (List.replicate 32 0)).toArray 52)) (w.heap.size + 1 + 1) 52 (nums .u8 (List.replicate 32 0)).toArray := Bk.new1 ((w.alloc (.cells #[.int .u64 x0, .int .u64 x1, .int .u64 x2, .int .u64 x3] 27)).alloc (.cells (nums .u8 (List.replicate 32 0)).toArray 52)) 52 _ (by simp)
  have pz := (Bk.under pz hb1).alloc (.cells #[.int .u64 v0, .int .u64 v1, .int .u64 v2, .int .u64 v3] 25)
  have pb := (Bk.under pb hb1).alloc (.cells #[.int .u64 v0, .int .u64 v1, .int .u64 v2, .int .u64 v3] 25)
  have pv := Bk.new xw 25 #[.int .u64 v0, .int .u64 v1, .int .u64 v2, .int .u64 v3]
  have hsz := hb1.size
  have hb := (show Below w.heap.size w _ from (by repeat (first | exact Below.refl _ _ | refine Below.drew ?_ | refine below_drewN ?_ _ | refine Below.alloc ?_ (by simp <;> omega) _))).trans (hb1.mono (by simp <;> omega))
  have hb := hb.alloc hb.size (.cells #[.int .u64 v0, .int .u64 v1, .int .u64 v2, .int .u64 v3] 25)
  simp only [World.size_alloc] at hsz
  clear hb1
  obtain ⟨B, hB⟩ : ∃ B, w.heap.size + 1 + 1 = B := ⟨_, rfl⟩
  obtain ⟨Y, hY⟩ : ∃ Y, w.heap.size + 1 = Y := ⟨_, rfl⟩
  rw [hB] at pb hsz ⊢
  rw [hY] at pz hB ⊢
  generalize hW : xw.alloc (.cells #[.int .u64 v0, .int .u64 v1, .int .u64 v2, .int .u64 v3] 25) = W at *
  clear hW
  generalize xw.heap.size = V at *
  have hu8 : (Tryd.prog.info? 5).map (·.size) = some 1 := by kernel_rfl
  have hw0 : IntKind.i64.wrap 0 = 0 := by decide
  have hw1 : IntKind.i64.wrap 1 = 1 := by decide
  have hw2 : IntKind.i64.wrap 2 = 2 := by decide
  have hw3 : IntKind.i64.wrap 3 = 3 := by decide
  have hw8 : IntKind.i64.wrap 8 = 8 := by decide
  have hw16 : IntKind.i64.wrap 16 = 16 := by decide
  have hw24 : IntKind.i64.wrap 24 = 24 := by decide
  refine wp_loop_rounds 5 ?_
  rw [rounds_succ]
  go_wp2_with fail
  have own0 : ∀ W : World, Own W W.heap.size 5 none 0 0 [] := fun W => Own.nil_ W _ _
  go_region_held3 (fun w' => w'.cell? ⟨V, 3, none⟩ = some (.int .u64 v3)) (first | exact pv.cell 3 | go_keep) (first | (go_at_call 48; refine (fr_put_calls none 0 0 v3 8 _ [] _ (own0 _) (Nat.le_refl _) (by omega) (by omega) l3).mono ?_; rintro e u0 ⟨A0, c0, rfl, ow0, gr0, -⟩; have hbl := below_of_grown gr0 (Nat.le_refl _) (by simp [blk]); have pb := pb.drew.under hbl; have pv := pv.drew.under hbl; have pz := pz.drew.under hbl; have hb := hb.drew.trans (hbl.mono hb.drew.size); have hsr := ow0.src (nums_one _ _)) | (refine step_copy_lay rfl _ _ _ _ rfl 5 Tryd.underlying32 hu8 _ B 0 _ _ _ _ rfl rfl (nums .u8 (List.replicate 32 0)) 52 pb (nums .u8 (digs 8 v3)) (by simp [nums_length, digs_length]) (by obtain ⟨_, _, h0 | h⟩ := hsr; exact absurd h0 (by simp); exact h) (by simp [nums_length, digs_length]) (nums_one _ _) ?_; have pv := pv.rowFar (g' := B) (by omega) (splice (nums .u8 (List.replicate 32 0)) 0 (nums .u8 (digs 8 v3))).toArray; have pz := pz.rowFar (g' := B) (by omega) (splice (nums .u8 (List.replicate 32 0)) 0 (nums .u8 (digs 8 v3))).toArray; have hb := below_setRow hb (g := B) (by omega) (splice (nums .u8 (List.replicate 32 0)) 0 (nums .u8 (digs 8 v3))).toArray; have pb := pb.row (splice (nums .u8 (List.replicate 32 0)) 0 (nums .u8 (digs 8 v3))).toArray))
  obtain ⟨R1, hR1⟩ : ∃ R, splice (nums .u8 (List.replicate 32 0)) 0 (nums .u8 (digs 8 v3)) = R := ⟨_, rfl⟩
  have lR1 : R1.length = 32 := by rw [← hR1]; simp [splice, nums_length, digs_length]
  rw [hR1] at pb pv pz hb ⊢
  go_wp2_with fail
  rw [rounds_succ]
  go_wp2_with fail
  have own1 : ∀ W : World, Own W W.heap.size 5 none 0 0 [] := fun W => Own.nil_ W _ _
  go_region_held3 (fun w' => w'.cell? ⟨V, 2, none⟩ = some (.int .u64 v2)) (first | exact pv.cell 2 | go_keep) (first | (go_at_call 48; refine (fr_put_calls none 0 0 v2 8 _ [] _ (own1 _) (Nat.le_refl _) (by omega) (by omega) l2).mono ?_; rintro e u1 ⟨A1, c1, rfl, ow1, gr1, -⟩; have hbl := below_of_grown gr1 (Nat.le_refl _) (by simp [blk]); have pb := pb.drew.under hbl; have pv := pv.drew.under hbl; have pz := pz.drew.under hbl; have hb := hb.drew.trans (hbl.mono hb.drew.size); have hsr := ow1.src (nums_one _ _)) | (refine step_copy_lay rfl _ _ _ _ rfl 5 Tryd.underlying32 hu8 _ B 8 _ _ _ _ rfl rfl R1 52 pb (nums .u8 (digs 8 v2)) (by simp [nums_length, digs_length]) (by obtain ⟨_, _, h0 | h⟩ := hsr; exact absurd h0 (by simp); exact h) (by simp [nums_length, digs_length, lR1]) (nums_one _ _) ?_; have pv := pv.rowFar (g' := B) (by omega) (splice R1 8 (nums .u8 (digs 8 v2))).toArray; have pz := pz.rowFar (g' := B) (by omega) (splice R1 8 (nums .u8 (digs 8 v2))).toArray; have hb := below_setRow hb (g := B) (by omega) (splice R1 8 (nums .u8 (digs 8 v2))).toArray; have pb := pb.row (splice R1 8 (nums .u8 (digs 8 v2))).toArray))
  obtain ⟨R2, hR2⟩ : ∃ R, splice R1 8 (nums .u8 (digs 8 v2)) = R := ⟨_, rfl⟩
  have lR2 : R2.length = 32 := by rw [← hR2]; simp [splice, nums_length, digs_length, lR1]
  rw [hR2] at pb pv pz hb ⊢
  go_wp2_with fail
  rw [rounds_succ]
  go_wp2_with fail
  have own2 : ∀ W : World, Own W W.heap.size 5 none 0 0 [] := fun W => Own.nil_ W _ _
  go_region_held3 (fun w' => w'.cell? ⟨V, 1, none⟩ = some (.int .u64 v1)) (first | exact pv.cell 1 | go_keep) (first | (go_at_call 48; refine (fr_put_calls none 0 0 v1 8 _ [] _ (own2 _) (Nat.le_refl _) (by omega) (by omega) l1).mono ?_; rintro e u2 ⟨A2, c2, rfl, ow2, gr2, -⟩; have hbl := below_of_grown gr2 (Nat.le_refl _) (by simp [blk]); have pb := pb.drew.under hbl; have pv := pv.drew.under hbl; have pz := pz.drew.under hbl; have hb := hb.drew.trans (hbl.mono hb.drew.size); have hsr := ow2.src (nums_one _ _)) | (refine step_copy_lay rfl _ _ _ _ rfl 5 Tryd.underlying32 hu8 _ B 16 _ _ _ _ rfl rfl R2 52 pb (nums .u8 (digs 8 v1)) (by simp [nums_length, digs_length]) (by obtain ⟨_, _, h0 | h⟩ := hsr; exact absurd h0 (by simp); exact h) (by simp [nums_length, digs_length, lR2]) (nums_one _ _) ?_; have pv := pv.rowFar (g' := B) (by omega) (splice R2 16 (nums .u8 (digs 8 v1))).toArray; have pz := pz.rowFar (g' := B) (by omega) (splice R2 16 (nums .u8 (digs 8 v1))).toArray; have hb := below_setRow hb (g := B) (by omega) (splice R2 16 (nums .u8 (digs 8 v1))).toArray; have pb := pb.row (splice R2 16 (nums .u8 (digs 8 v1))).toArray))
  obtain ⟨R3, hR3⟩ : ∃ R, splice R2 16 (nums .u8 (digs 8 v1)) = R := ⟨_, rfl⟩
  have lR3 : R3.length = 32 := by rw [← hR3]; simp [splice, nums_length, digs_length, lR2]
  rw [hR3] at pb pv pz hb ⊢
  go_wp2_with fail
  rw [rounds_succ]
  go_wp2_with fail
  have own3 : ∀ W : World, Own W W.heap.size 5 none 0 0 [] := fun W => Own.nil_ W _ _
  go_region_held3 (fun w' => w'.cell? ⟨V, 0, none⟩ = some (.int .u64 v0)) (first | exact pv.cell 0 | go_keep) (first | (go_at_call 48; refine (fr_put_calls none 0 0 v0 8 _ [] _ (own3 _) (Nat.le_refl _) (by omega) (by omega) l0).mono ?_; rintro e u3 ⟨A3, c3, rfl, ow3, gr3, -⟩; have hbl := below_of_grown gr3 (Nat.le_refl _) (by simp [blk]); have pb := pb.drew.under hbl; have pv := pv.drew.under hbl; have pz := pz.drew.under hbl; have hb := hb.drew.trans (hbl.mono hb.drew.size); have hsr := ow3.src (nums_one _ _)) | (refine step_copy_lay rfl _ _ _ _ rfl 5 Tryd.underlying32 hu8 _ B 24 _ _ _ _ rfl rfl R3 52 pb (nums .u8 (digs 8 v0)) (by simp [nums_length, digs_length]) (by obtain ⟨_, _, h0 | h⟩ := hsr; exact absurd h0 (by simp); exact h) (by simp [nums_length, digs_length, lR3]) (nums_one _ _) ?_; have pv := pv.rowFar (g' := B) (by omega) (splice R3 24 (nums .u8 (digs 8 v0))).toArray; have pz := pz.rowFar (g' := B) (by omega) (splice R3 24 (nums .u8 (digs 8 v0))).toArray; have hb := below_setRow hb (g := B) (by omega) (splice R3 24 (nums .u8 (digs 8 v0))).toArray; have pb := pb.row (splice R3 24 (nums .u8 (digs 8 v0))).toArray))
  obtain ⟨R4, hR4⟩ : ∃ R, splice R3 24 (nums .u8 (digs 8 v0)) = R := ⟨_, rfl⟩
  have lR4 : R4.length = 32 := by rw [← hR4]; simp [splice, nums_length, digs_length, lR3]
  rw [hR4] at pb pv pz hb ⊢
  go_wp2_with fail
  rw [rounds_succ]
  have hfin := fr_fill l0 l1 l2 l3
  rw [hR1, hR2, hR3, hR4, HN.out] at hfin
  subst hfin
  have hone := nums_one .u8 (digs 32 (a % frQ))
  have m32 : (Tryd.prog.info? 52).map (·.size) = some (nums .u8 (digs 32 (a % frQ))).toArray.size := by rw [List.size_toArray, lR4]; kernel_rfl
  go_wp2_with (first | (refine wpList_load_row rfl _ _ rfl _ rfl _ _ _ _ pb Tryd.underlying52 rfl m32 ?_) | (refine wpList_store_row rfl _ _ _ rfl _ _ rfl rfl _ _ pz m32 rfl (by simpa using hone) ?_))
  exact bodyPost_ret (results_cell_row rfl _ _ Y _ _ _ _ rfl (pz.row _) Tryd.underlying52 rfl m32) rfl ⟨rfl, below_setRow hb (by omega) _⟩
end Go.Proofs.YtpinopjnlcbipaaDoor
