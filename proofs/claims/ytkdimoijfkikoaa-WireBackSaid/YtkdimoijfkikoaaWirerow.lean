/- How a message that comes in is opened, and the step from a walk to a row of one message, of two, of bytes, of a message and an int. Conditions: those of each theorem. -/
import Derived.Test.YtkdimoijfkikoaaOpen
import Derived.Test.YtkdimoijfkikoaaWireck
namespace Go.Proofs.Ytkdimoijfkikoaa
open Go.ChangeShapes Go.WideShapes Go.ChangeAt Go.RowKit
set_option linter.unusedVariables false

section
variable {H : Type} {enc : TypeId × Value → H} {w : World}
theorem list7 {α : Type} {l : List α} (h : l.length = 7) : ∃ a b c d e f g, l = [a, b, c, d, e, f, g] := by
  match l, h with
  | [a, b, c, d, e, f, g], _ => exact ⟨a, b, c, d, e, f, g, rfl⟩

theorem open_msg {r : Reach} {b0 : Nat} {sp : Nat → Bool} {held : Bool} {v : Value} {d : DataW H} {p : List MemPlace} (hv : Value.okWide Try.prog w r b0 24 v) (h : DataW.Trod enc Try.prog w 0 sp held 24 v d p) :
    ∃ (k ep fr wh tp rd : Int) (A : Option Addr) (n c : Nat) (l : List Nat), v = .agg #[.int .i64 k, .int .i64 ep, .int .i64 fr, .int .i64 wh, .int .i64 tp, .int .i64 rd, .slice A n c] ∧ l.length = n ∧ n ≤ c ∧ c ≤ maxLen ∧ Rd w A (nums .u8 l) ∧ (∀ x ∈ l, x < 256) ∧
      (n = 0 ∨ ∃ d0 d1 d2 d3 d4 d5 elems spare, d = .agg [d0, d1, d2, d3, d4, d5, .slice elems spare] ∧ elems.length = n) := by
  obtain ⟨cs, rfl, hsz⟩ := okWide_struct Try.underlying24 hv
  obtain ⟨fuel, hf⟩ := h
  obtain ⟨xs, m, hm, hx, hcl, hxl, hg⟩ := DataW.trod_struct Try.underlying24 hf
  have h7 : Try.prog.cellsOf 24 = 7 := by kernel_rfl
  have hcs : (Value.cells (.agg cs)).toList.length = 7 := by simpa [h7] using hcl
  have hcs' : cs.toList.length = 7 := by simpa [Value.cells] using hcs
  obtain ⟨c0, c1, c2, c3, c4, c5, c6, hl⟩ := list7 hcs'
  obtain ⟨x0, x1, x2, x3, x4, x5, x6, hxs⟩ := list7 hxl
  have hca : cs = #[c0, c1, c2, c3, c4, c5, c6] := by rw [← hl]
  subst hca hxs
  have k3 : Try.prog.cellsOf 3 = 1 := by kernel_rfl
  have k22 : Try.prog.cellsOf 22 = 1 := by kernel_rfl
  have g0 := hg 0 _ rfl
  have g1 := hg 1 _ rfl
  have g2 := hg 2 _ rfl
  have g3 := hg 3 _ rfl
  have g4 := hg 4 _ rfl
  have g5 := hg 5 _ rfl
  have g6 := hg 6 _ rfl
  simp [Value.cells, k3] at g0 g1 g2 g3 g4 g5
  simp [Value.cells, k22] at g6
  obtain ⟨k, e0, _, _⟩ := DataW.trod_int Try.underlying3 g0
  obtain ⟨ep, e1, _, _⟩ := DataW.trod_int Try.underlying3 g1
  obtain ⟨fr, e2, _, _⟩ := DataW.trod_int Try.underlying3 g2
  obtain ⟨wh, e3, _, _⟩ := DataW.trod_int Try.underlying3 g3
  obtain ⟨tp, e4, _, _⟩ := DataW.trod_int Try.underlying3 g4
  obtain ⟨rd, e5, _, _⟩ := DataW.trod_int Try.underlying3 g5
  obtain ⟨A, n, c, l, e6, hnc, hcm, hll, hrd, hlt, hw⟩ := open_bytes g6
  simp only [List.cons.injEq, and_true] at e0 e1 e2 e3 e4 e5
  subst e0 e1 e2 e3 e4 e5 e6
  refine ⟨k, ep, fr, wh, tp, rd, A, n, c, l, rfl, hll, hnc, hcm, hrd, hlt, ?_⟩
  rcases hw with h0 | ⟨elems, spare, he, hel⟩
  · exact .inl h0
  · refine .inr ⟨x0.1, x1.1, x2.1, x3.1, x4.1, x5.1, elems, spare, ?_, hel⟩
    have := congrArg Prod.fst hx
    simp [he] at this
    exact this
end

/-- the reach of a message's body -/
theorem msg_reach {H : Type} {ts : List TypeId} {ds : List (DataW H)} (h : (DataW.weightsEach Try.prog ts ds).all (· ≤ reachBytes) = true) {j : Nat} (ht : ts[j]? = some 24) {d0 d1 d2 d3 d4 d5 : DataW H} {elems spare : List (DataW H)}
    (hd : ds[j]? = some (.agg [d0, d1, d2, d3, d4, d5, .slice elems spare])) : elems.length ≤ 140737488355328 := by
  have hb : Try.prog.bytesOf 5 = 1 := by kernel_rfl
  have := List.all_eq_true.1 h _ (DataW.weights_mem_each ht hd ((elems.length + spare.length) * Try.prog.bytesOf 5) (by simp [DataW.weights, DataW.weightsEach, Try.underlying24, Try.underlying22]))
  rw [hb] at this
  simp [reachBytes] at this
  omega
end Go.Proofs.Ytkdimoijfkikoaa
