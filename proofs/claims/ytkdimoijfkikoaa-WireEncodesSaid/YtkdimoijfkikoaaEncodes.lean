/- WireEncodes is true for every input. Conditions: none (the statement's own). -/
import Derived.Test.YtkdimoijfkikoaaWirerow
import Derived.Test.YtkdimoijfkikoaaWirelb
namespace Go.Proofs.Ytkdimoijfkikoaa.Encodes
open Go.ChangeShapes Go.WideShapes Go.ChangeAt Go.RowKit Go.Proofs.Ytkdimoijfkikoaa
set_option linter.unusedVariables false

theorem walk (k ep fr wh tp rd : Int) (A : Option Addr) (n c : Nat) (l : List Nat) (w : World) (hl : l.length = n) (hn : n ≤ 140737488355328) (h1 : Rd w A (nums .u8 l)) (hb : ∀ x ∈ l, x < 256) :
    Calls Try.prog 3 #[.agg #[.int .i64 k, .int .i64 ep, .int .i64 fr, .int .i64 wh, .int .i64 tp, .int .i64 rd, .slice A n c]] w fun e w' => e = .returned (.bool true) ∧ Below w.heap.size w w' := by
  by_cases h : MsgOk k ep fr wh tp rd n
  · have h' := h
    unfold MsgOk at h'
    obtain ⟨k, rfl⟩ := Int.eq_ofNat_of_zero_le (show 0 ≤ k by omega)
    obtain ⟨ep, rfl⟩ := Int.eq_ofNat_of_zero_le (show 0 ≤ ep by omega)
    obtain ⟨fr, rfl⟩ := Int.eq_ofNat_of_zero_le (show 0 ≤ fr by omega)
    obtain ⟨wh, rfl⟩ := Int.eq_ofNat_of_zero_le (show 0 ≤ wh by omega)
    obtain ⟨tp, rfl⟩ := Int.eq_ofNat_of_zero_le (show 0 ≤ tp by omega)
    obtain ⟨rd, rfl⟩ := Int.eq_ofNat_of_zero_le (show 0 ≤ rd by omega)
    exact encodes_yes k ep fr wh tp rd A n c l w hl hn h1 hb h
  · exact encodes_no k ep fr wh tp rd A n c l w hl hn h1 h

set_option maxRecDepth 100000 in
theorem lifted (os : Os) (started : os.Started) (H : Type) (enc : TypeId × Value → H) :
    ReturnsInHanded {} Try.checked os 3 .any (Rows.wireEncodesSpec.pre6 enc Try.prog Try.f3 Rows.wireEncodesRow.domain false) (Rows.wireEncodesSpec.post enc Try.prog Try.f3 false true false false) := by
  refine returnsInHanded_of_change_sized (C := Try.checked) ownKnobNone started (by kernel_rfl) Try.func3
    (ChangeSpec.witness6 (enc := enc) (C := Try.checked) false ⟨#[], #[.agg #[.int .i64 0, .int .i64 0, .int .i64 0, .int .i64 0, .int .i64 0, .int .i64 0, .slice none 0 0]], []⟩ 8 (by kernel_rfl) (by kernel_rfl) (by kernel_rfl) (by kernel_rfl)) ?_
  intro W base args ds gs before hval0 hW hcnd hsz0 _
  have hval : ∀ (j : Nat) t v, Try.f3.params[j]? = some t → args[j]? = some v → Value.okWide Try.prog W .any base t v := hval0
  have hW' := hW
  obtain ⟨p, q, hA0, hV, rfl, hfz, hnd⟩ := hW
  have hA : DataW.TrodAll enc Try.prog W 0 (fun _ => true) true Try.f3.params.toList args.toList ds p := hA0
  have hsz : (DataW.weightsEach Try.prog (Try.f3.params.toList ++ Rows.wireEncodesSpec.plain.varTypes Try.prog) (ds ++ gs)).all (· ≤ reachBytes) = true := hsz0
  rw [Try.params3] at hA hval hsz
  obtain ⟨v0, vs0, d0, ds0, p0, q0, hargs, rfl, rfl, h0, r0⟩ := trodAll_cons hA
  obtain ⟨rfl, rfl, rfl⟩ := trodAll_nil r0
  obtain rfl : args = #[v0] := by cases args; simp_all
  obtain ⟨rfl, rfl⟩ := trodVars_none hV
  have k0 := h0
  have lt0 : ∀ x ∈ p0, x.block < W.heap.size := by obtain ⟨m, hm⟩ := k0; exact DataW.trod_lt m _ _ _ hm
  obtain ⟨k, ep, fr, wh, tp, rd, A, n, c, l, rfl, hll, hnc, hcm, hrd, hlt, hel⟩ := open_msg (hval 0 _ v0 rfl rfl) h0
  have hn : n ≤ 140737488355328 := by
    rcases hel with h | ⟨d0, d1, d2, d3, d4, d5, elems, spare, rfl, he⟩
    · omega
    · have := msg_reach hsz (j := 0) rfl rfl
      omega
  clear hA0 hval0
  refine (walk k ep fr wh tp rd A n c l W hll hn hrd hlt).mono fun e W' ⟨he, bel⟩ => ?_
  subst he
  exact ⟨_, rfl, _, _, _, [], _, [], hW', trodAll_mk1 (shut_bool Try.underlying4 _), (trodAll_cons_mk (Below.trod laidOut (by kernel_rfl) (of_decide_eq_true (by kernel_rfl)) k0 bel lt0) trodAll_mk0), rfl, bel.frame _, fun h => by cases h⟩

theorem over : Rows.wireEncodesRow.holds Try.pinned (OpenSpec.ofChange Rows.wireEncodesSpec) :=
  OpenClaim.holds_of_wide 3 Try.f3 rfl rfl rfl rfl rfl rfl rfl ⟨rfl, rfl, rfl, rfl, rfl⟩ rfl rfl rfl rfl rfl (by kernel_rfl) Try.func3 (by kernel_rfl)
    (of_decide_eq_true (by kernel_rfl)) (by unfold Func.isWrapper; first | (rw [if_pos (by decide +kernel)]; kernel_rfl) | (rw [if_neg (by decide +kernel)]; exact ⟨rfl, rfl⟩))
    (fun os started H enc _ => lifted os started H enc)
end Go.Proofs.Ytkdimoijfkikoaa.Encodes

namespace Go.Proofs.Ytkdimoijfkikoaa
theorem wireEncodes_holds : Rows.WireEncodesSaid := Encodes.over
end Go.Proofs.Ytkdimoijfkikoaa
