/- Types made of numbers of package fr. Conditions: those of each theorem. -/
import Derived.Test.YtpinopjnlcbipaaDoorSyFrD
import Derived.Test.YtpinopjnlcbipaaDoorFlat
namespace Go.Proofs.YtpinopjnlcbipaaDoor.V
open Go.RowKit Sx
set_option linter.unusedVariables false



def frInts (n : Nat) : List Int := match frE n with
  | .agg cs => cs.toList.map fun v => match v with
    | .int _ i => i
    | _ => 0
  | _ => []

def frCells (n : Nat) : List Value := match frE n with
  | .agg cs => cs.toList
  | _ => []

theorem frInts_ex (n : Nat) : ∃ a b c d : Nat, frInts n = [(a : Int), b, c, d] ∧ frCells n = [.int .u64 a, .int .u64 b, .int .u64 c, .int .u64 d] ∧ frE n = .agg #[.int .u64 a, .int .u64 b, .int .u64 c, .int .u64 d] := by
  obtain ⟨x0, x1, x2, x3, hx⟩ := frV_agg (n * frR % frQ) (frE_lt _)
  have hx : frE n = _ := hx
  unfold frInts frCells
  rw [hx]
  exact ⟨_, _, _, _, rfl, rfl, rfl⟩

theorem frInts_len (n : Nat) : (frInts n).length = 4 := by obtain ⟨a, b, c, d, h, _⟩ := frInts_ex n; rw [h]; rfl
theorem frCells_map (n : Nat) : frCells n = (frInts n).map (Value.int .u64) := by obtain ⟨a, b, c, d, h, h2, _⟩ := frInts_ex n; rw [h, h2]; rfl

theorem frInts_inj (m n : Nat) : frInts m = frInts n ↔ m % frQ = n % frQ := by
  obtain ⟨a, b, c, d, h1, _, h2⟩ := frInts_ex m
  obtain ⟨a', b', c', d', h3, _, h4⟩ := frInts_ex n
  rw [← frE_inj, h1, h3, h2, h4]
  simp

theorem frCellsL_map (l : List Nat) : l.flatMap frCells = (l.flatMap frInts).map (Value.int .u64) := by
  induction l with
  | nil => rfl
  | cons a l ih => rw [List.flatMap_cons, List.flatMap_cons, List.map_append, ih, frCells_map]

theorem frIntsL_len (l : List Nat) : (l.flatMap frInts).length = 4 * l.length := by
  induction l with
  | nil => rfl
  | cons a l ih => rw [List.flatMap_cons, List.length_append, ih, frInts_len, List.length_cons]; omega

theorem frIntsL_inj : ∀ {l m : List Nat}, l.length = m.length → (l.flatMap frInts = m.flatMap frInts ↔ l.map (· % frQ) = m.map (· % frQ))
  | [], [], _ => by simp
  | a :: l, b :: m, h => by
    have ih := frIntsL_inj (l := l) (m := m) (by simpa using h)
    rw [List.flatMap_cons, List.flatMap_cons, List.map_cons, List.map_cons, List.cons.injEq, ← ih, ← frInts_inj]
    constructor
    · intro h
      exact List.append_inj h (by rw [frInts_len, frInts_len])
    · rintro ⟨h1, h2⟩
      rw [h1, h2]
  | [], b :: m, h => by simp at h
  | a :: l, [], h => by simp at h

theorem flatE1 (d : Nat) : FlatE Tryd.prog .u64 (d + 3) 27 4 := by
  refine FlatE.str (sz := fun _ => 4) Tryd.underlying27 (by kernel_rfl) ?_ (by kernel_rfl)
  simp only [List.forall_mem_cons]
  exact ⟨⟨by decide, by kernel_rfl, by kernel_rfl, FlatE.arr Tryd.underlying25 Tryd.underlying24 (by kernel_rfl) (by kernel_rfl) d⟩, fun x hx => by cases hx⟩

/-- these types, and how many numbers make them -/
def frFlats : List (Nat × Nat) := [(27, 1)]

theorem frFlats_ok : ∀ x ∈ frFlats, FlatE Tryd.prog .u64 10000 x.1 (4 * x.2) ∧ Tryd.prog.eqGuardType Tryd.prog.depth x.1 = false := by
  unfold frFlats
  simp only [List.forall_mem_cons]
  exact ⟨⟨flatE1 9997, by kernel_rfl⟩, fun x hx => by cases hx⟩

theorem frFlat_equal {t n : Nat} (h : (t, n) ∈ frFlats) {l m : List Nat} (hl : l.length = n) (hm : m.length = n) (w : World) :
    (Op.equal t (.agg (l.flatMap frCells).toArray) (.agg (m.flatMap frCells).toArray)).run Tryd.prog w = .ok (decide (l.map (· % frQ) = m.map (· % frQ))) w := by
  have := (frFlats_ok _ h).1 (l.flatMap frInts) (m.flatMap frInts) (by rw [frIntsL_len, hl]) (by rw [frIntsL_len, hm]) w
  rw [frCellsL_map, frCellsL_map, show Op.equal t = Op.equalIn 10000 t from rfl, this]
  congr 1
  rw [decide_eq_decide]
  exact frIntsL_inj (by rw [hl, hm])

end Go.Proofs.YtpinopjnlcbipaaDoor.V
