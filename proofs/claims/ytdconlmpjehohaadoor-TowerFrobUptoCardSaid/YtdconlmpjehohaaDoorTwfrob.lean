/- TowerFrob is true for every input of bulk at most 2^20. Conditions: none (the statement's own). -/
import Derived.Test.YtdconlmpjehohaaDoorCards
import Derived.Test.YtdconlmpjehohaaDoorTie
import Derived.Test.YtdconlmpjehohaaDoorOpen
import Derived.Test.YtdconlmpjehohaaDoorTwI
import Derived.WalkKit
import Derived.Deep.DeepHandedRow
import Derived.Lib.LaidTab
namespace Go.Proofs.YtdconlmpjehohaaDoor.Twfrob
open Go.ChangeShapes Go.WideShapes Go.ChangeAt Go.RowKit Go.Proofs.YtdconlmpjehohaaDoor
set_option linter.unusedVariables false

theorem own : ownKnob Tryd.prog.godebug = none := by kernel_rfl
theorem gM : Tryd.prog.globalNamed "cresset/fp.modulus" = some 1 := by kernel_rfl
theorem gMT : (Tryd.prog.globals[1]?).map (·.type) = some 32 := by kernel_rfl
theorem gS : Tryd.prog.globalNamed "cresset/fp.square" = some 0 := by kernel_rfl
theorem gST : (Tryd.prog.globals[0]?).map (·.type) = some 32 := by kernel_rfl
theorem cellsA : Tryd.prog.cellsOf 32 = 6 := by kernel_rfl
theorem cellsE : Tryd.prog.cellsOf 31 = 1 := by kernel_rfl

theorem lt_of_cell {w : World} {g i : Nat} {v : Value} (h : w.cell? ⟨g, i, none⟩ = some v) : g < w.heap.size := by
  by_cases hg : g < w.heap.size
  · exact hg
  · have : w.heap[g]? = none := Array.getElem?_eq_none (by omega)
    simp [World.cell?, this] at h

theorem slice_lt {P : Program} {W : World} {r : Reach} {base : Nat} {t e : TypeId} {a : Option Addr} {n c : Nat} (ht : P.underlying t = some (.slice e)) (h : Value.okWide P W r base t (.slice a n c)) : ∀ g, blk a = some g → g < W.heap.size := by
  intro g hg
  cases a with
  | none => cases hg
  | some x =>
    injection hg with hg; subst hg
    simp only [Value.okWide, ht, Cell.okWide, Cell.ok] at h
    obtain ⟨_, _, _, _, row, cells, hs, _⟩ := h
    unfold World.shape? at hs
    rcases Nat.lt_or_ge x.block W.heap.size with h' | h'
    · exact h'
    · rw [Array.getElem?_eq_none h'] at hs; cases hs

theorem laidTail {P : Program} {x : String × DataW Unit} {rest : List (String × DataW Unit)} {W : World} (h : laidMet P (x :: rest) W) : laidMet P rest W := by
  obtain ⟨ps, ⟨g, t, cs, fuel, p, q, hg, ht, hvar, hd, hq, rfl⟩, hnd, hb⟩ := h
  exact ⟨q, hq, (List.nodup_append.1 hnd).2.1, fun b off hm => hb b off (List.mem_append_right _ hm)⟩

theorem tabs {W : World} (h : laidMetH Tryd.prog Rows.towerFrobUptoRow.laid W) : FpTab W := by
  have tM : Lib.TabIs Tryd.prog W "cresset/fp.modulus" .u64 [13402431016077863595, 2210141511517208575, 7435674573564081700, 7239337960414712511, 5412103778470702295, 1873798617647539866] :=
    Lib.tabIs_of_head gM gMT Tryd.underlying32 Tryd.underlying31 cellsE cellsA h
  have tS : Lib.TabIs Tryd.prog W "cresset/fp.square" .u64 [17644856173732828998, 754043588434789617, 10224657059481499349, 7488229067341005760, 11130996698012816685, 1267921511277847466] :=
    Lib.tabIs_of_head (rest := []) gS gST Tryd.underlying32 Tryd.underlying31 cellsE cellsA (laidTail h)
  have m0 : W.cell? ⟨1, 0, none⟩ = some (.int .u64 13402431016077863595) := tM.cell gM 0 (by decide)
  have s0 : W.cell? ⟨0, 0, none⟩ = some (.int .u64 17644856173732828998) := tS.cell gS 0 (by decide)
  exact ⟨lt_of_cell m0, lt_of_cell s0, m0, tM.cell gM 1 (by decide), tM.cell gM 2 (by decide), tM.cell gM 3 (by decide), tM.cell gM 4 (by decide), tM.cell gM 5 (by decide), s0, tS.cell gS 1 (by decide), tS.cell gS 2 (by decide), tS.cell gS 3 (by decide), tS.cell gS 4 (by decide), tS.cell gS 5 (by decide)⟩

theorem contract (H : Type) (enc : TypeId × Value → H) (W : World) (base : Nat) (args : Array Value) (ds gs : List (DataW H)) (before : List MemPlace)
    (hval : ∀ (j : Nat) t v, Tryd.f6.params[j]? = some t → args[j]? = some v → Value.okWide Tryd.prog W .any base t v)
    (hW : DataW.Whole enc Tryd.prog Tryd.f6.params.toList Rows.towerFrobSpec.vars false W args.toList ds gs before)
    (hsz : (DataW.weightsEach Tryd.prog (Tryd.f6.params.toList ++ Rows.towerFrobSpec.plain.varTypes Tryd.prog) (ds ++ gs)).all (· ≤ reachBytes) = true)
    (hL : laidMetH Tryd.prog Rows.towerFrobUptoRow.laid W) :
    Calls Tryd.prog 6 args W fun e W' => ∃ v, e = .returned v ∧ Rows.towerFrobSpec.post enc Tryd.prog Tryd.f6 false true false false W args v W' := by
  have hW' := hW
  obtain ⟨p, q, hA0, hV, rfl, hfz, hnd⟩ := hW
  have hA : DataW.TrodAll enc Tryd.prog W 0 (fun _ => true) true Tryd.f6.params.toList args.toList ds p := hA0
  rw [Tryd.params6] at hA hval hsz
  obtain ⟨v0, vs0, d0, ds0, p0, q0, hargs, rfl, rfl, h0, r0⟩ := trodAll_cons hA
  obtain ⟨v1, vs1, d1, ds1, p1, q1, rfl, rfl, rfl, h1, r1⟩ := trodAll_cons r0
  obtain ⟨rfl, rfl, rfl⟩ := trodAll_nil r1
  obtain rfl : args = #[v0, v1] := by cases args; simp_all
  obtain ⟨rfl, rfl⟩ := trodVars_none hV
  have t0 := h0
  have lt0 : ∀ x ∈ p0, x.block < W.heap.size := by obtain ⟨m, hm⟩ := t0; exact DataW.trod_lt m _ _ _ hm
  have t1 := h1
  have lt1 : ∀ x ∈ p1, x.block < W.heap.size := by obtain ⟨m, hm⟩ := t1; exact DataW.trod_lt m _ _ _ hm
  obtain ⟨a0, len0, cap0, rfl⟩ := okWide_slice Tryd.underlying22 (hval 0 _ v0 rfl rfl)
  have hk0 := slice_lt Tryd.underlying22 (hval 0 _ _ rfl rfl)
  obtain ⟨A0, n0, c0, l0, hv0, hnc0, hcm0, hll0, hrd0, hlt0, hel0⟩ := open_bytes_arg h0
  obtain ⟨rfl, rfl, rfl⟩ := slice_inj hv0
  have hn0 : len0 ≤ 140737488355328 := by
    rcases hel0 with h | ⟨elems, spare, rfl, he⟩
    · omega
    · have := bytes_reach hsz (j := 0) rfl rfl
      omega
  obtain ⟨a1, len1, cap1, rfl⟩ := okWide_slice Tryd.underlying22 (hval 1 _ v1 rfl rfl)
  have hk1 := slice_lt Tryd.underlying22 (hval 1 _ _ rfl rfl)
  obtain ⟨A1, n1, c1, l1, hv1, hnc1, hcm1, hll1, hrd1, hlt1, hel1⟩ := open_bytes_arg h1
  obtain ⟨rfl, rfl, rfl⟩ := slice_inj hv1
  have hn1 : len1 ≤ 140737488355328 := by
    rcases hel1 with h | ⟨elems, spare, rfl, he⟩
    · omega
    · have := bytes_reach hsz (j := 1) rfl rfl
      omega
  clear hA0
  refine (towerFrob_calls _ _ len0 len1 cap0 cap1 l0 l1 W (tabs hL) hrd0 hll0 hnc0 hn0 hlt0 hk0 hrd1 hll1 hnc1 hn1 hlt1 hk1).mono fun e W' ⟨he, bel⟩ => ?_
  subst he
  exact ⟨_, rfl, _, _, _, [], _, [], hW', trodAll_mk1 (shut_bool Tryd.underlying4 _), (trodAll_cons_mk (Below.trod laidOut (by kernel_rfl) (of_decide_eq_true (by kernel_rfl)) t0 bel lt0) (trodAll_cons_mk (Below.trod laidOut (by kernel_rfl) (of_decide_eq_true (by kernel_rfl)) t1 bel lt1) trodAll_mk0)), rfl, bel.frame _, fun h => by cases h⟩

def tables (h : Array Obj) : Array Obj :=
  ((h.modify 1 (fun o => match o with
      | .cells _ t frozen => .cells #[.int .u64 13402431016077863595, .int .u64 2210141511517208575, .int .u64 7435674573564081700, .int .u64 7239337960414712511, .int .u64 5412103778470702295, .int .u64 1873798617647539866] t frozen
      | o => o)).modify 0 (fun o => match o with
      | .cells _ t frozen => .cells #[.int .u64 17644856173732828998, .int .u64 754043588434789617, .int .u64 10224657059481499349, .int .u64 7488229067341005760, .int .u64 11130996698012816685, .int .u64 1267921511277847466] t frozen
      | o => o))
noncomputable def laidWorld (os : Os) : World :=
  { World.holding Tryd.prog os ⟨#[], #[], []⟩ with heap := tables (World.holding Tryd.prog os ⟨#[], #[], []⟩).heap }
theorem laid_met (os : Os) : laidMet Tryd.prog Rows.towerFrobUptoRow.laid ((laidWorld os).forCall (fun _ _ => 0) ⟨#[], #[.slice none 0 0, .slice none 0 0], []⟩).memory :=
  laidMet_of_run' 8 (by kernel_rfl) (by kernel_rfl)
theorem reads (os : Os) {H : Type} (enc : TypeId × Value → H) : ∃ ds places, DataW.whole enc Tryd.prog ((laidWorld os).forCall (fun _ _ => 0) ⟨#[], #[.slice none 0 0, .slice none 0 0], []⟩).memory Tryd.f6.params.toList Rows.towerFrobSpec.vars false (#[.slice none 0 0, .slice none 0 0] : Array Value).toList 8 = some (ds, [], places) ∧ ds = [.nil, .nil] :=
  ⟨_, [], by kernel_rfl, rfl⟩

set_option maxRecDepth 100000 in
theorem lifted (os : Os) (started : os.Started) (H : Type) (enc : TypeId × Value → H) (F : Stop.Interp) :
    ReturnsInHanded {} Tryd.checked os 6 .any ((Rows.OpenSpec.upto Rows.towerFrobSpec).preRow enc Tryd.prog Tryd.f6 Rows.towerFrobUptoRow.domain false Rows.towerFrobUptoRow.laid) (((Rows.OpenSpec.upto Rows.towerFrobSpec).at F).post enc Tryd.prog Tryd.f6 false true false false) := by
  obtain ⟨ds, places, hx, rfl⟩ := reads os enc
  refine returnsInHanded_of_row (C := Tryd.checked) (s := Rows.OpenSpec.upto Rows.towerFrobSpec) own started (by kernel_rfl) Tryd.func6
    (witness_row_at (enc := enc) (C := Tryd.checked) false (laidWorld os) #[.slice none 0 0, .slice none 0 0] rfl (by kernel_rfl) (by kernel_rfl) (by kernel_rfl)
      (OpenSpec.preRow_of_cond 8 hx (by kernel_rfl) (fun k hk => by cases hk; kernel_rfl) (by kernel_rfl) (laid_met os))) ?_
  intro W base args ds gs before hval hW _ _ hsz hL _ _
  exact contract H enc W base args ds gs before hval hW hsz hL

theorem said : Rows.TowerFrobUptoSaid :=
  OpenClaim.holds_of_cond 6 Tryd.f6 rfl rfl rfl rfl rfl rfl rfl ⟨rfl, rfl, rfl, rfl, rfl⟩ rfl rfl rfl rfl rfl (by kernel_rfl) Tryd.func6 (by kernel_rfl)
    (of_decide_eq_true (by kernel_rfl)) (by unfold Func.isWrapper; first | (rw [if_pos (by decide +kernel)]; kernel_rfl) | (rw [if_neg (by decide +kernel)]; exact ⟨rfl, rfl⟩))
    (fun os started H enc _ F => by rw [OpenClaim.pre_eq_preRow]; exact lifted os started H enc F)

theorem plain (f : FuncId) (fn : Func) (hf : Tryd.pinned.checked.prog.funcNamed "cresset/cressetlaw06.TowerFrob" = some f) (hfn : Tryd.pinned.checked.prog.funcs[f]? = some fn) :
    false = Tryd.pinned.checked.prog.looks [] ∧ ∀ (j : Nat) t, fn.params[j]? = some t → Tryd.pinned.checked.prog.wantsStandIn t = false := by
  obtain rfl : f = 6 := Option.some.inj ((show Tryd.prog.funcNamed "cresset/cressetlaw06.TowerFrob" = some 6 by kernel_rfl).symm.trans hf) |>.symm
  obtain rfl : fn = Tryd.f6 := (Option.some.inj (Tryd.func6.symm.trans hfn)).symm
  refine ⟨by kernel_rfl, fun j t ht => ?_⟩
  rw [Tryd.params6] at ht
  obtain rfl : t = 22 := by simpa using Array.mem_of_getElem? ht
  exact (show Tryd.prog.wantsStandIn 22 = false by kernel_rfl)
end Go.Proofs.YtdconlmpjehohaaDoor.Twfrob

namespace Go.Proofs.YtdconlmpjehohaaDoor
theorem towerFrob_holds : Rows.TowerFrobUptoCardSaid :=
  Claim7.holds_tied_plain_at .later [] _ _ _ _ Twfrob.said (fun _ h => by cases h) (by kernel_rfl) (fun _ h => by cases h) towerFrobUpto_row_tie rfl ⟨rfl, rfl⟩ (by kernel_rfl) rfl Twfrob.plain (by kernel_rfl)
end Go.Proofs.YtdconlmpjehohaaDoor
