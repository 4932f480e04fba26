/- More words for memory: a block that is known whole, read and written as one. Conditions: none; plain lemmas. -/
import Derived.Test.YtdconlmpjehohaaDoorBase
import Derived.Laws.Tables
import Derived.Laws.CopyOwn
import Derived.Laws.ResultCell
namespace Go.Proofs.YtdconlmpjehohaaDoor
open Go.RowKit
set_option linter.unusedVariables false

theorem bcell {W w1 : World} (hb : Below W.heap.size W w1) : (∀ b o, b < W.heap.size → w1.cell? ⟨b, o, none⟩ = W.cell? ⟨b, o, none⟩) ∧ (∀ b o, b < W.heap.size → w1.frozen? ⟨b, o, none⟩ = W.frozen? ⟨b, o, none⟩) :=
  ⟨fun b o h => hb.cell (p := ⟨b, o, none⟩) h, fun b o h => hb.frozen (p := ⟨b, o, none⟩) h⟩

/-- block g holds just these cells, and may be written -/
def Bk (w : World) (g : Nat) (t : TypeId) (cs : Array Value) : Prop := w.heap[g]? = some (.cells cs t (0, 0))

section
variable {w w' : World} {g : Nat} {t : TypeId} {cs : Array Value}
theorem Bk.lt (h : Bk w g t cs) : g < w.heap.size := (Array.getElem?_eq_some_iff.1 h).1
theorem Bk.cell (h : Bk w g t cs) (i : Nat) : w.cell? ⟨g, i, none⟩ = cs[i]? := cell_of_row w g i cs t (0, 0) h
theorem Bk.free (h : Bk w g t cs) (i : Nat) : w.frozen? ⟨g, i, none⟩ = false := frozen_of_row w g i cs t h
theorem Bk.new (w : World) (t : TypeId) (cs : Array Value) : Bk (w.alloc (.cells cs t)) w.heap.size t cs := heap_alloc_new w _
theorem Bk.new1 (w : World) (t : TypeId) (cs : Array Value) {n : Nat} (hn : n = w.heap.size) : Bk (w.alloc (.cells cs t)) n t cs := by subst hn; exact heap_alloc_new w _
theorem Bk.alloc (h : Bk w g t cs) (o : Obj) : Bk (w.alloc o) g t cs := (Below.heap_alloc w o g h.lt).trans h
theorem Bk.drew (h : Bk w g t cs) : Bk w.drew g t cs := h
theorem Bk.drewN (h : Bk w g t cs) (n : Nat) : Bk (w.drewN n) g t cs := h
theorem Bk.set_ (h : Bk w g t cs) (i : Nat) (u : Value) : Bk (w.setCell ⟨g, i, none⟩ u) g t (cs.setIfInBounds i u) := heap_setCell_same w g i cs t u h
theorem Bk.far (h : Bk w g t cs) {p : Addr} (hp : g ≠ p.block) (u : Value) : Bk (w.setCell p u) g t cs := (heap_setCell_other w p g u hp).trans h
theorem Bk.row (h : Bk w g t cs) (ds : Array Value) : Bk (w.setRow g ds) g t ds := setRow_heap w g cs ds t _ h
theorem Bk.rowFar (h : Bk w g t cs) {g' : Nat} (hp : g ≠ g') (ds : Array Value) : Bk (w.setRow g' ds) g t cs := (setRow_other w g' g ds hp).trans h
theorem Bk.below {B : Nat} (h : Bk w g t cs) (hb : Below B w w') (hg : g < B) : Bk w' g t cs := (hb.block g hg).trans h
theorem Bk.under (h : Bk w g t cs) (hb : Below w.heap.size w w') : Bk w' g t cs := h.below hb h.lt
theorem Bk.grown {row : Option Nat} (h : Bk w g t cs) (hb : w.grownBy w' row) (hg : some g ≠ row) : Bk w' g t cs := (hb.block g h.lt hg).trans h
theorem Bk.ne {g' : Nat} {t' : TypeId} {cs' : Array Value} (h : Bk w g t cs) (h' : Bk w g' t' cs') (hne : t ≠ t') : g ≠ g' := by
  rintro rfl
  unfold Bk at h h'
  rw [h] at h'
  injection h' with h'
  injection h' with _ ht
  exact hne ht
end

section
variable {w : World} {base : Nat} {e : TypeId} {A : Option Addr} {n c : Nat} {xs : List Value}
theorem Own.litAt (w : World) (cs : List Value) (e : TypeId) {g n : Nat} (hg : w.heap.size = g) (hb : base ≤ g) (hn : cs.length = n) (hm : n ≤ maxLen) :
    Own (w.alloc (.cells cs.toArray e)) base e (some ⟨g, 0, none⟩) n n cs := by
  subst hg
  exact Own.lit w cs e hb hn hm
theorem Own.keep {w' : World} (h : Own w base e A n c xs) (hk : ∀ g, base ≤ g → w'.heap[g]? = w.heap[g]?) : Own w' base e A n c xs := by
  refine ⟨h.1, ?_⟩
  rcases h.2 with h2 | ⟨g, cap, cur, hv, hbg, hg, r⟩
  · exact .inl h2
  · exact .inr ⟨g, cap, cur, hv, hbg, (hk g hbg).trans hg, r⟩
theorem Own.ne_ (h : Own w base e A n c xs) {g : Nat} (hg : g < base) : some g ≠ blk A := fun he => by
  have := (h.lt g he.symm).1
  omega
theorem Own.cellUnder (h : Own w base e A n c xs) {p : Addr} (hp : p.block < base) (u : Value) : Own (w.setCell p u) base e A n c xs :=
  h.keep fun g hg => heap_setCell_other w p g u (by omega)
theorem Own.rowUnder (h : Own w base e A n c xs) {g : Nat} (hp : g < base) (cs : Array Value) : Own (w.setRow g cs) base e A n c xs :=
  h.keep fun g' hg => setRow_other w g g' cs (by omega)
end

/-- two results, the first a struct that lies in block g -/
theorem results_row_tmp {P : Program} {fn : Func} {p u : Tmp} {ty : TypeId} (h : fn.results = #[.cell p ty, .tmp u]) (tmps : Array Value) (w : World) (g : Nat) (t : TypeId) (cs : Array Value) (fr : Nat × Nat) (d : TypeDesc)
    (hp : tmps.getD p undef = .pointer (some ⟨g, 0, none⟩)) (hg : w.heap[g]? = some (.cells cs t fr))
    (hu : P.underlying ty = some d) (hd : (match d with | .struct _ | .array _ _ => true | _ => false) = true) (hi : (P.info? ty).map (·.size) = some cs.size) {v : Value} (hv : tmps.getD u undef = v) :
    (results fn tmps).run P w = .ok (.tuple #[.agg cs, v]) w := by
  subst hv
  rw [results_cell_tmp h, hp]
  simp [asAddr, run_loadVar_row w g t ty cs fr d hg hu hd hi, Result.andThen]

theorem Below.row {B g : Nat} {w0 w : World} (hb : Below B w0 w) (hBg : B ≤ g) (cs : Array Value) : Below B w0 (w.setRow g cs) := below_setRow hb hBg cs

end Go.Proofs.YtdconlmpjehohaaDoor
