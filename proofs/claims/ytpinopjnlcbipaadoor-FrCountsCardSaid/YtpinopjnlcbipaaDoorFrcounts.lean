/- FrCounts is true for every input. Conditions: none (the statement's own). -/
import Derived.Test.YtpinopjnlcbipaaDoorCards
import Derived.Test.YtpinopjnlcbipaaDoorTie
import Derived.Test.YtpinopjnlcbipaaDoorOpen
import Derived.Test.YtpinopjnlcbipaaDoorFrG
import Derived.WalkKit
import Derived.Deep.DeepHandedRow
import Derived.Lib.LaidTab
namespace Go.Proofs.YtpinopjnlcbipaaDoor.Frcounts
open Go.ChangeShapes Go.WideShapes Go.ChangeAt Go.RowKit Go.Proofs.YtpinopjnlcbipaaDoor
set_option linter.unusedVariables false

theorem own : ownKnob Tryd.prog.godebug = none := by kernel_rfl
theorem gM : Tryd.prog.globalNamed "cresset/fr.modulus" = some 1 := by kernel_rfl
theorem gMT : (Tryd.prog.globals[1]?).map (·.type) = some 25 := by kernel_rfl
theorem gS : Tryd.prog.globalNamed "cresset/fr.square" = some 0 := by kernel_rfl
theorem gST : (Tryd.prog.globals[0]?).map (·.type) = some 25 := by kernel_rfl
theorem cellsA : Tryd.prog.cellsOf 25 = 4 := by kernel_rfl
theorem cellsE : Tryd.prog.cellsOf 24 = 1 := by kernel_rfl

theorem lt_of_cell {w : World} {g i : Nat} {v : Value} (h : w.cell? ⟨g, i, none⟩ = some v) : g < w.heap.size := by
  by_cases hg : g < w.heap.size
  · exact hg
  · have : w.heap[g]? = none := Array.getElem?_eq_none (by omega)
    simp [World.cell?, this] at h

theorem laidTail {P : Program} {x : String × DataW Unit} {rest : List (String × DataW Unit)} {W : World} (h : laidMet P (x :: rest) W) : laidMet P rest W := by
  obtain ⟨ps, ⟨g, t, cs, fuel, p, q, hg, ht, hvar, hd, hq, rfl⟩, hnd, hb⟩ := h
  exact ⟨q, hq, (List.nodup_append.1 hnd).2.1, fun b off hm => hb b off (List.mem_append_right _ hm)⟩

theorem frTab {W : World} (h : laidMetH Tryd.prog Rows.frCountsRow.laid W) : FrTab W := by
  have tm : Lib.TabIs Tryd.prog W "cresset/fr.modulus" .u64 [18446744069414584321, 6034159408538082302, 3691218898639771653, 8353516859464449352] :=
    Lib.tabIs_of_head gM gMT Tryd.underlying25 Tryd.underlying24 cellsE cellsA h
  have ts : Lib.TabIs Tryd.prog W "cresset/fr.square" .u64 [14526898881837571181, 3129137299524312099, 419701826671360399, 524908885293268753] :=
    Lib.tabIs_of_head (rest := []) gS gST Tryd.underlying25 Tryd.underlying24 cellsE cellsA (laidTail h)
  have m0 : W.cell? ⟨1, 0, none⟩ = some (.int .u64 18446744069414584321) := tm.cell gM 0 (by decide)
  have s0 : W.cell? ⟨0, 0, none⟩ = some (.int .u64 14526898881837571181) := ts.cell gS 0 (by decide)
  exact ⟨lt_of_cell m0, lt_of_cell s0, m0, tm.cell gM 1 (by decide), tm.cell gM 2 (by decide), tm.cell gM 3 (by decide), s0, ts.cell gS 1 (by decide), ts.cell gS 2 (by decide), ts.cell gS 3 (by decide)⟩

theorem contract (H : Type) (enc : TypeId × Value → H) (W : World) (base : Nat) (args : Array Value) (ds gs : List (DataW H)) (before : List MemPlace)
    (hval : ∀ (j : Nat) t v, Tryd.f3.params[j]? = some t → args[j]? = some v → Value.okWide Tryd.prog W .any base t v)
    (hW : DataW.Whole enc Tryd.prog Tryd.f3.params.toList Rows.frCountsSpec.vars false W args.toList ds gs before) (hL : laidMetH Tryd.prog Rows.frCountsRow.laid W) :
    Calls Tryd.prog 3 args W fun e W' => ∃ v, e = .returned v ∧ Rows.frCountsSpec.post enc Tryd.prog Tryd.f3 false true false false W args v W' := by
  have hW' := hW
  obtain ⟨p, q, hA0, hV, rfl, hfz, hnd⟩ := hW
  have hA : DataW.TrodAll enc Tryd.prog W 0 (fun _ => true) true Tryd.f3.params.toList args.toList ds p := hA0
  rw [Tryd.params3] at hA hval
  obtain ⟨v0, vs0, d0, ds0, p0, q0, hargs, rfl, rfl, h0, r0⟩ := trodAll_cons hA
  obtain ⟨v1, vs1, d1, ds1, p1, q1, rfl, rfl, rfl, h1, r1⟩ := trodAll_cons r0
  obtain ⟨rfl, rfl, rfl⟩ := trodAll_nil r1
  obtain rfl : args = #[v0, v1] := by cases args; simp_all
  obtain ⟨rfl, rfl⟩ := trodVars_none hV
  obtain ⟨x0, rfl, rfl, rfl, wf0⟩ := open_int Tryd.underlying22 (hval 0 _ v0 rfl rfl) h0
  obtain ⟨x1, rfl, rfl, rfl, wf1⟩ := open_int Tryd.underlying22 (hval 1 _ v1 rfl rfl) h1
  obtain ⟨y0, rfl, wx0⟩ := wf_u32 wf0
  obtain ⟨y1, rfl, wx1⟩ := wf_u32 wf1
  clear hA0
  refine (frCounts_calls y0 y1 W (frTab hL) wx0 wx1).mono fun e W' ⟨he, bel⟩ => ?_
  subst he
  exact ⟨_, rfl, _, _, _, [], _, [], hW', trodAll_mk1 (shut_bool Tryd.underlying4 _), (trodAll_cons_mk (shut_int Tryd.underlying22 wf0) (trodAll_cons_mk (shut_int Tryd.underlying22 wf1) trodAll_mk0)), rfl, bel.frame _, fun h => by cases h⟩

def tables (h : Array Obj) : Array Obj :=
  (h.modify 1 (fun o => match o with
      | .cells _ t frozen => .cells #[.int .u64 18446744069414584321, .int .u64 6034159408538082302, .int .u64 3691218898639771653, .int .u64 8353516859464449352] t frozen
      | o => o)).modify 0 (fun o => match o with
      | .cells _ t frozen => .cells #[.int .u64 14526898881837571181, .int .u64 3129137299524312099, .int .u64 419701826671360399, .int .u64 524908885293268753] t frozen
      | o => o)
noncomputable def laidWorld (os : Os) : World :=
  { World.holding Tryd.prog os ⟨#[], #[], []⟩ with heap := tables (World.holding Tryd.prog os ⟨#[], #[], []⟩).heap }
theorem laid_met (os : Os) : laidMet Tryd.prog Rows.frCountsRow.laid ((laidWorld os).forCall (fun _ _ => 0) ⟨#[], #[.int .u32 0, .int .u32 0], []⟩).memory :=
  laidMet_of_run' 8 (by kernel_rfl) (by kernel_rfl)
theorem reads (os : Os) {H : Type} (enc : TypeId × Value → H) : ∃ places, DataW.whole enc Tryd.prog ((laidWorld os).forCall (fun _ _ => 0) ⟨#[], #[.int .u32 0, .int .u32 0], []⟩).memory Tryd.f3.params.toList Rows.frCountsSpec.vars false #[Value.int .u32 0, Value.int .u32 0].toList 8 = some ([.lit (.int .u32 0), .lit (.int .u32 0)], [], places) :=
  ⟨[], by kernel_rfl⟩

set_option maxRecDepth 100000 in
theorem lifted (os : Os) (started : os.Started) (H : Type) (enc : TypeId × Value → H) (F : Stop.Interp) :
    ReturnsInHanded {} Tryd.checked os 3 .any ((OpenSpec.ofChange Rows.frCountsSpec).preRow enc Tryd.prog Tryd.f3 Rows.frCountsRow.domain false Rows.frCountsRow.laid) (((OpenSpec.ofChange Rows.frCountsSpec).at F).post enc Tryd.prog Tryd.f3 false true false false) := by
  obtain ⟨places, hx⟩ := reads os enc
  refine returnsInHanded_of_row (C := Tryd.checked) (s := OpenSpec.ofChange Rows.frCountsSpec) own started (by kernel_rfl) Tryd.func3
    (witness_row_at (enc := enc) (C := Tryd.checked) false (laidWorld os) #[.int .u32 0, .int .u32 0] rfl (by kernel_rfl) (by kernel_rfl) (by kernel_rfl)
      (OpenSpec.preRow_of_cond 8 hx (by kernel_rfl) (fun k hk => by cases hk) (by kernel_rfl) (laid_met os))) ?_
  intro W base args ds gs before hval hW _ _ _ hL _ _
  exact contract H enc W base args ds gs before hval hW hL

theorem said : Rows.FrCountsSaid :=
  OpenClaim.holds_of_cond 3 Tryd.f3 rfl rfl rfl rfl rfl rfl rfl ⟨rfl, rfl, rfl, rfl, rfl⟩ rfl rfl rfl rfl rfl (by kernel_rfl) Tryd.func3 (by kernel_rfl)
    (of_decide_eq_true (by kernel_rfl)) (by unfold Func.isWrapper; first | (rw [if_pos (by decide +kernel)]; kernel_rfl) | (rw [if_neg (by decide +kernel)]; exact ⟨rfl, rfl⟩))
    (fun os started H enc _ F => by rw [OpenClaim.pre_eq_preRow]; exact lifted os started H enc F)

theorem plain (f : FuncId) (fn : Func) (hf : Tryd.pinned.checked.prog.funcNamed "cresset/cressetlaw03.FrCounts" = some f) (hfn : Tryd.pinned.checked.prog.funcs[f]? = some fn) :
    false = Tryd.pinned.checked.prog.looks [] ∧ ∀ (j : Nat) t, fn.params[j]? = some t → Tryd.pinned.checked.prog.wantsStandIn t = false := by
  obtain rfl : f = 3 := Option.some.inj ((show Tryd.prog.funcNamed "cresset/cressetlaw03.FrCounts" = some 3 by kernel_rfl).symm.trans hf) |>.symm
  obtain rfl : fn = Tryd.f3 := (Option.some.inj (Tryd.func3.symm.trans hfn)).symm
  refine ⟨by kernel_rfl, fun j t ht => ?_⟩
  rw [Tryd.params3] at ht
  obtain rfl : t = 22 := by simpa using Array.mem_of_getElem? ht
  exact (show Tryd.prog.wantsStandIn 22 = false by kernel_rfl)
end Go.Proofs.YtpinopjnlcbipaaDoor.Frcounts

namespace Go.Proofs.YtpinopjnlcbipaaDoor
theorem frCounts_holds : Rows.FrCountsCardSaid :=
  Claim7.holds_tied_plain_at .later [] _ _ _ _ Frcounts.said (fun _ h => by cases h) (by kernel_rfl) (fun _ h => by cases h) frCounts_row_tie rfl ⟨rfl, rfl⟩ (by kernel_rfl) rfl Frcounts.plain (by kernel_rfl)
end Go.Proofs.YtpinopjnlcbipaaDoor
