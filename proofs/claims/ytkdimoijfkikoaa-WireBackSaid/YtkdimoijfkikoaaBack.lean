/- WireBack is true for every input. Conditions: none (the statement's own). -/
import Derived.Test.YtkdimoijfkikoaaWirerow
import Derived.Test.YtkdimoijfkikoaaWireba
namespace Go.Proofs.Ytkdimoijfkikoaa.Back
open Go.ChangeShapes Go.WideShapes Go.ChangeAt Go.RowKit Go.Proofs.Ytkdimoijfkikoaa
set_option linter.unusedVariables false

theorem walk (k ep fr wh tp rd cut : Int) (A : Option Addr) (n c : Nat) (l : List Nat) (w : World) (hl : l.length = n) (hn : n ≤ 140737488355328) (h1 : Rd w A (nums .u8 l)) (hb : ∀ x ∈ l, x < 256) :
    Calls Try.prog 6 #[.agg #[.int .i64 k, .int .i64 ep, .int .i64 fr, .int .i64 wh, .int .i64 tp, .int .i64 rd, .slice A n c], .int .i64 cut] w fun e w' => e = .returned (.bool true) ∧ Below w.heap.size w w' := by
  by_cases h : MsgOk k ep fr wh tp rd n
  · have h' := h
    unfold MsgOk at h'
    obtain ⟨k, rfl⟩ := Int.eq_ofNat_of_zero_le (show 0 ≤ k by omega)
    obtain ⟨ep, rfl⟩ := Int.eq_ofNat_of_zero_le (show 0 ≤ ep by omega)
    obtain ⟨fr, rfl⟩ := Int.eq_ofNat_of_zero_le (show 0 ≤ fr by omega)
    obtain ⟨wh, rfl⟩ := Int.eq_ofNat_of_zero_le (show 0 ≤ wh by omega)
    obtain ⟨tp, rfl⟩ := Int.eq_ofNat_of_zero_le (show 0 ≤ tp by omega)
    obtain ⟨rd, rfl⟩ := Int.eq_ofNat_of_zero_le (show 0 ≤ rd by omega)
    by_cases hc : cut < 0 ∨ (18 + n : Nat) ≤ cut
    · exact back_yes k ep fr wh tp rd cut (17 + n) A n c l w hl hn h1 hb h (.inl ⟨hc, rfl⟩)
    · exact back_yes k ep fr wh tp rd cut cut.toNat A n c l w hl hn h1 hb h (.inr (by omega))
  · exact back_no k ep fr wh tp rd cut A n c l w hl hn h1 h

set_option maxRecDepth 100000 in
theorem lifted (os : Os) (started : os.Started) (H : Type) (enc : TypeId × Value → H) :
    ReturnsInHanded {} Try.checked os 6 .any (Rows.wireBackSpec.pre6 enc Try.prog Try.f6 Rows.wireBackRow.domain false) (Rows.wireBackSpec.post enc Try.prog Try.f6 false true false false) := by
  refine returnsInHanded_of_change_sized (C := Try.checked) ownKnobNone started (by kernel_rfl) Try.func6
    (ChangeSpec.witness6 (enc := enc) (C := Try.checked) false ⟨#[], #[.agg #[.int .i64 0, .int .i64 0, .int .i64 0, .int .i64 0, .int .i64 0, .int .i64 0, .slice none 0 0], .int .i64 0], []⟩ 8 (by kernel_rfl) (by kernel_rfl) (by kernel_rfl) (by kernel_rfl)) ?_
  intro W base args ds gs before hval0 hW hcnd hsz0 _
  have hval : ∀ (j : Nat) t v, Try.f6.params[j]? = some t → args[j]? = some v → Value.okWide Try.prog W .any base t v := hval0
  have hW' := hW
  obtain ⟨p, q, hA0, hV, rfl, hfz, hnd⟩ := hW
  have hA : DataW.TrodAll enc Try.prog W 0 (fun _ => true) true Try.f6.params.toList args.toList ds p := hA0
  have hsz : (DataW.weightsEach Try.prog (Try.f6.params.toList ++ Rows.wireBackSpec.plain.varTypes Try.prog) (ds ++ gs)).all (· ≤ reachBytes) = true := hsz0
  rw [Try.params6] at hA hval hsz
  obtain ⟨v0, vs0, d0, ds0, p0, q0, hargs, rfl, rfl, h0, r0⟩ := trodAll_cons hA
  obtain ⟨v1, vs1, d1, ds1, p1, q1, rfl, rfl, rfl, h1, r1⟩ := trodAll_cons r0
  obtain ⟨rfl, rfl, rfl⟩ := trodAll_nil r1
  obtain rfl : args = #[v0, v1] := by cases args; simp_all
  obtain ⟨rfl, rfl⟩ := trodVars_none hV
  have t0 := h0
  have lt0 : ∀ x ∈ p0, x.block < W.heap.size := by obtain ⟨m, hm⟩ := t0; exact DataW.trod_lt m _ _ _ hm
  obtain ⟨k0, ep0, fr0, wh0, tp0, rd0, A0, n0, c0, l0, rfl, hll0, hnc0, hcm0, hrd0, hlt0, hel0⟩ := open_msg (hval 0 _ v0 rfl rfl) h0
  have hn0 : n0 ≤ 140737488355328 := by
    rcases hel0 with h | ⟨e0, e1, e2, e3, e4, e5, elems, spare, rfl, he⟩
    · omega
    · have := msg_reach hsz (j := 0) rfl rfl
      omega
  obtain ⟨x1, rfl, rfl, rfl, wf1⟩ := open_int Try.underlying3 (hval 1 _ v1 rfl rfl) h1
  have wx1 := wf_i64 wf1
  clear hA0 hval0
  refine (walk k0 ep0 fr0 wh0 tp0 rd0 x1 A0 n0 c0 l0 W hll0 hn0 hrd0 hlt0).mono fun e W' ⟨he, bel⟩ => ?_
  subst he
  exact ⟨_, rfl, _, _, _, [], _, [], hW', trodAll_mk1 (shut_bool Try.underlying4 _), (trodAll_cons_mk (Below.trod laidOut (by kernel_rfl) (of_decide_eq_true (by kernel_rfl)) t0 bel lt0) (trodAll_cons_mk (shut_int Try.underlying3 wf1) trodAll_mk0)), rfl, bel.frame _, fun h => by cases h⟩

theorem over : Rows.wireBackRow.holds Try.pinned (OpenSpec.ofChange Rows.wireBackSpec) :=
  OpenClaim.holds_of_wide 6 Try.f6 rfl rfl rfl rfl rfl rfl rfl ⟨rfl, rfl, rfl, rfl, rfl⟩ rfl rfl rfl rfl rfl (by kernel_rfl) Try.func6 (by kernel_rfl)
    (of_decide_eq_true (by kernel_rfl)) (by unfold Func.isWrapper; first | (rw [if_pos (by decide +kernel)]; kernel_rfl) | (rw [if_neg (by decide +kernel)]; exact ⟨rfl, rfl⟩))
    (fun os started H enc _ => lifted os started H enc)
end Go.Proofs.Ytkdimoijfkikoaa.Back

namespace Go.Proofs.Ytkdimoijfkikoaa
theorem wireBack_holds : Rows.WireBackSaid := Back.over
end Go.Proofs.Ytkdimoijfkikoaa
