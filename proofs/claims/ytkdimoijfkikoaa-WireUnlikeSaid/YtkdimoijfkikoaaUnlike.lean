/- WireUnlike is true for every input. Conditions: none (the statement's own). -/
import Derived.Test.YtkdimoijfkikoaaWirerow
import Derived.Test.YtkdimoijfkikoaaWirelu
namespace Go.Proofs.Ytkdimoijfkikoaa.Unlike
open Go.ChangeShapes Go.WideShapes Go.ChangeAt Go.RowKit Go.Proofs.Ytkdimoijfkikoaa
set_option linter.unusedVariables false

theorem toNats {k ep fr wh tp rd : Int} {n : Nat} (h : MsgOk k ep fr wh tp rd n) : ∃ k' ep' fr' wh' tp' rd' : Nat, k = k' ∧ ep = ep' ∧ fr = fr' ∧ wh = wh' ∧ tp = tp' ∧ rd = rd' := by
  unfold MsgOk at h
  exact ⟨k.toNat, ep.toNat, fr.toNat, wh.toNat, tp.toNat, rd.toNat, by omega, by omega, by omega, by omega, by omega, by omega⟩

theorem walk (k ep fr wh tp rd k' ep' fr' wh' tp' rd' : Int) (A A' : Option Addr) (n c n' c' : Nat) (l l' : List Nat) (w : World) (hl : l.length = n) (hn : n ≤ 140737488355328) (h1 : Rd w A (nums .u8 l)) (hl' : l'.length = n') (hn' : n' ≤ 140737488355328) (h1' : Rd w A' (nums .u8 l')) :
    Calls Try.prog 4 #[.agg #[.int .i64 k, .int .i64 ep, .int .i64 fr, .int .i64 wh, .int .i64 tp, .int .i64 rd, .slice A n c], .agg #[.int .i64 k', .int .i64 ep', .int .i64 fr', .int .i64 wh', .int .i64 tp', .int .i64 rd', .slice A' n' c']] w fun e w' => e = .returned (.bool true) ∧ Below w.heap.size w w' := by
  by_cases h : MsgOk k ep fr wh tp rd n
  · obtain ⟨a0, a1, a2, a3, a4, a5, rfl, rfl, rfl, rfl, rfl, rfl⟩ := toNats h
    by_cases h' : MsgOk k' ep' fr' wh' tp' rd' n'
    · obtain ⟨b0, b1, b2, b3, b4, b5, rfl, rfl, rfl, rfl, rfl, rfl⟩ := toNats h'
      exact unlike_both _ _ _ _ _ _ _ _ _ _ _ _ A A' n c n' c' l l' w hl hn h1 hl' hn' h1' h h'
    · exact unlike_two _ _ _ _ _ _ _ _ _ _ _ _ A A' n c n' c' l l' w hl hn h1 hl' hn' h1' h h'
  · exact unlike_one _ _ _ _ _ _ _ _ _ _ _ _ A A' n c n' c' l l' w hl hn h1 hl' hn' h1' h

set_option maxRecDepth 100000 in
theorem lifted (os : Os) (started : os.Started) (H : Type) (enc : TypeId × Value → H) :
    ReturnsInHanded {} Try.checked os 4 .any (Rows.wireUnlikeSpec.pre6 enc Try.prog Try.f4 Rows.wireUnlikeRow.domain false) (Rows.wireUnlikeSpec.post enc Try.prog Try.f4 false true false false) := by
  refine returnsInHanded_of_change_sized (C := Try.checked) ownKnobNone started (by kernel_rfl) Try.func4
    (ChangeSpec.witness6 (enc := enc) (C := Try.checked) false ⟨#[], #[.agg #[.int .i64 0, .int .i64 0, .int .i64 0, .int .i64 0, .int .i64 0, .int .i64 0, .slice none 0 0], .agg #[.int .i64 0, .int .i64 0, .int .i64 0, .int .i64 0, .int .i64 0, .int .i64 0, .slice none 0 0]], []⟩ 8 (by kernel_rfl) (by kernel_rfl) (by kernel_rfl) (by kernel_rfl)) ?_
  intro W base args ds gs before hval0 hW hcnd hsz0 _
  have hval : ∀ (j : Nat) t v, Try.f4.params[j]? = some t → args[j]? = some v → Value.okWide Try.prog W .any base t v := hval0
  have hW' := hW
  obtain ⟨p, q, hA0, hV, rfl, hfz, hnd⟩ := hW
  have hA : DataW.TrodAll enc Try.prog W 0 (fun _ => true) true Try.f4.params.toList args.toList ds p := hA0
  have hsz : (DataW.weightsEach Try.prog (Try.f4.params.toList ++ Rows.wireUnlikeSpec.plain.varTypes Try.prog) (ds ++ gs)).all (· ≤ reachBytes) = true := hsz0
  rw [Try.params4] at hA hval hsz
  obtain ⟨v0, vs0, d0, ds0, p0, q0, hargs, rfl, rfl, h0, r0⟩ := trodAll_cons hA
  obtain ⟨v1, vs1, d1, ds1, p1, q1, rfl, rfl, rfl, h1, r1⟩ := trodAll_cons r0
  obtain ⟨rfl, rfl, rfl⟩ := trodAll_nil r1
  obtain rfl : args = #[v0, v1] := by cases args; simp_all
  obtain ⟨rfl, rfl⟩ := trodVars_none hV
  have t0 := h0
  have lt0 : ∀ x ∈ p0, x.block < W.heap.size := by obtain ⟨m, hm⟩ := t0; exact DataW.trod_lt m _ _ _ hm
  have t1 := h1
  have lt1 : ∀ x ∈ p1, x.block < W.heap.size := by obtain ⟨m, hm⟩ := t1; exact DataW.trod_lt m _ _ _ hm
  obtain ⟨k0, ep0, fr0, wh0, tp0, rd0, A0, n0, c0, l0, rfl, hll0, hnc0, hcm0, hrd0, hlt0, hel0⟩ := open_msg (hval 0 _ v0 rfl rfl) h0
  have hn0 : n0 ≤ 140737488355328 := by
    rcases hel0 with h | ⟨e0, e1, e2, e3, e4, e5, elems, spare, rfl, he⟩
    · omega
    · have := msg_reach hsz (j := 0) rfl rfl
      omega
  obtain ⟨k1, ep1, fr1, wh1, tp1, rd1, A1, n1, c1, l1, rfl, hll1, hnc1, hcm1, hrd1, hlt1, hel1⟩ := open_msg (hval 1 _ v1 rfl rfl) h1
  have hn1 : n1 ≤ 140737488355328 := by
    rcases hel1 with h | ⟨e0, e1, e2, e3, e4, e5, elems, spare, rfl, he⟩
    · omega
    · have := msg_reach hsz (j := 1) rfl rfl
      omega
  clear hA0 hval0
  refine (walk k0 ep0 fr0 wh0 tp0 rd0 k1 ep1 fr1 wh1 tp1 rd1 A0 A1 n0 c0 n1 c1 l0 l1 W hll0 hn0 hrd0 hll1 hn1 hrd1).mono fun e W' ⟨he, bel⟩ => ?_
  subst he
  exact ⟨_, rfl, _, _, _, [], _, [], hW', trodAll_mk1 (shut_bool Try.underlying4 _), (trodAll_cons_mk (Below.trod laidOut (by kernel_rfl) (of_decide_eq_true (by kernel_rfl)) t0 bel lt0) (trodAll_cons_mk (Below.trod laidOut (by kernel_rfl) (of_decide_eq_true (by kernel_rfl)) t1 bel lt1) trodAll_mk0)), rfl, bel.frame _, fun h => by cases h⟩

theorem over : Rows.wireUnlikeRow.holds Try.pinned (OpenSpec.ofChange Rows.wireUnlikeSpec) :=
  OpenClaim.holds_of_wide 4 Try.f4 rfl rfl rfl rfl rfl rfl rfl ⟨rfl, rfl, rfl, rfl, rfl⟩ rfl rfl rfl rfl rfl (by kernel_rfl) Try.func4 (by kernel_rfl)
    (of_decide_eq_true (by kernel_rfl)) (by unfold Func.isWrapper; first | (rw [if_pos (by decide +kernel)]; kernel_rfl) | (rw [if_neg (by decide +kernel)]; exact ⟨rfl, rfl⟩))
    (fun os started H enc _ => lifted os started H enc)
end Go.Proofs.Ytkdimoijfkikoaa.Unlike

namespace Go.Proofs.Ytkdimoijfkikoaa
theorem wireUnlike_holds : Rows.WireUnlikeSaid := Unlike.over
end Go.Proofs.Ytkdimoijfkikoaa
