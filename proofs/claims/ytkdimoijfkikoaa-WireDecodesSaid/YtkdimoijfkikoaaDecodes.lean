/- WireDecodes is true for every input. Conditions: none (the statement's own). -/
import Derived.Test.YtkdimoijfkikoaaOpen
import Derived.Test.YtkdimoijfkikoaaWirelc
namespace Go.Proofs.Ytkdimoijfkikoaa.Decodes
open Go.ChangeShapes Go.WideShapes Go.ChangeAt Go.RowKit Go.Proofs.Ytkdimoijfkikoaa
set_option linter.unusedVariables false

theorem walk (A : Option Addr) (len c : Nat) (l : List Nat) (w : World) (hl : l.length = len) (hlc : len ≤ c) (hc : c ≤ 9223372036854775807) (hn : len ≤ 140737488355328) (h1 : Rd w A (nums .u8 l)) (hb : ∀ x ∈ l, x < 256) :
    Calls Try.prog 5 #[.slice A len c] w fun e w' => e = .returned (.bool true) ∧ Below w.heap.size w w' := by
  by_cases h : decE l = 0
  · exact decodes_yes A len c l w hl hlc hc hn h1 hb h
  · exact decodes_no A len c l w hl hlc hc hn h1 hb h

set_option maxRecDepth 100000 in
theorem lifted (os : Os) (started : os.Started) (H : Type) (enc : TypeId × Value → H) :
    ReturnsInHanded {} Try.checked os 5 .any (Rows.wireDecodesSpec.pre6 enc Try.prog Try.f5 Rows.wireDecodesRow.domain false) (Rows.wireDecodesSpec.post enc Try.prog Try.f5 false true false false) := by
  refine returnsInHanded_of_change_sized (C := Try.checked) ownKnobNone started (by kernel_rfl) Try.func5
    (ChangeSpec.witness6 (enc := enc) (C := Try.checked) false ⟨#[], #[.slice none 0 0], []⟩ 8 (by kernel_rfl) (by kernel_rfl) (by kernel_rfl) (by kernel_rfl)) ?_
  intro W base args ds gs before hval0 hW hcnd hsz0 _
  have hval : ∀ (j : Nat) t v, Try.f5.params[j]? = some t → args[j]? = some v → Value.okWide Try.prog W .any base t v := hval0
  have hW' := hW
  obtain ⟨p, q, hA0, hV, rfl, hfz, hnd⟩ := hW
  have hA : DataW.TrodAll enc Try.prog W 0 (fun _ => true) true Try.f5.params.toList args.toList ds p := hA0
  have hsz : (DataW.weightsEach Try.prog (Try.f5.params.toList ++ Rows.wireDecodesSpec.plain.varTypes Try.prog) (ds ++ gs)).all (· ≤ reachBytes) = true := hsz0
  rw [Try.params5] at hA hval hsz
  obtain ⟨v0, vs0, d0, ds0, p0, q0, hargs, rfl, rfl, h0, r0⟩ := trodAll_cons hA
  obtain ⟨rfl, rfl, rfl⟩ := trodAll_nil r0
  obtain rfl : args = #[v0] := by cases args; simp_all
  obtain ⟨rfl, rfl⟩ := trodVars_none hV
  have t0 := h0
  have lt0 : ∀ x ∈ p0, x.block < W.heap.size := by obtain ⟨m, hm⟩ := t0; exact DataW.trod_lt m _ _ _ hm
  obtain ⟨a0, len0, cap0, rfl⟩ := okWide_slice Try.underlying22 (hval 0 _ v0 rfl rfl)
  obtain ⟨A0, n0, c0, l0, hv0, hnc0, hcm0, hll0, hrd0, hlt0, hel0⟩ := open_bytes_arg h0
  obtain ⟨rfl, rfl, rfl⟩ := slice_inj hv0
  have hn0 : len0 ≤ 140737488355328 := by
    rcases hel0 with h | ⟨elems, spare, rfl, he⟩
    · omega
    · have := bytes_reach hsz (j := 0) rfl rfl
      omega
  clear hA0 hval0
  refine (walk a0 len0 cap0 l0 W hll0 hnc0 (by simpa [maxLen] using hcm0) hn0 hrd0 hlt0).mono fun e W' ⟨he, bel⟩ => ?_
  subst he
  exact ⟨_, rfl, _, _, _, [], _, [], hW', trodAll_mk1 (shut_bool Try.underlying4 _), (trodAll_cons_mk (Below.trod laidOut (by kernel_rfl) (of_decide_eq_true (by kernel_rfl)) t0 bel lt0) trodAll_mk0), rfl, bel.frame _, fun h => by cases h⟩

theorem over : Rows.wireDecodesRow.holds Try.pinned (OpenSpec.ofChange Rows.wireDecodesSpec) :=
  OpenClaim.holds_of_wide 5 Try.f5 rfl rfl rfl rfl rfl rfl rfl ⟨rfl, rfl, rfl, rfl, rfl⟩ rfl rfl rfl rfl rfl (by kernel_rfl) Try.func5 (by kernel_rfl)
    (of_decide_eq_true (by kernel_rfl)) (by unfold Func.isWrapper; first | (rw [if_pos (by decide +kernel)]; kernel_rfl) | (rw [if_neg (by decide +kernel)]; exact ⟨rfl, rfl⟩))
    (fun os started H enc _ => lifted os started H enc)
end Go.Proofs.Ytkdimoijfkikoaa.Decodes

namespace Go.Proofs.Ytkdimoijfkikoaa
theorem wireDecodes_holds : Rows.WireDecodesSaid := Decodes.over
end Go.Proofs.Ytkdimoijfkikoaa
