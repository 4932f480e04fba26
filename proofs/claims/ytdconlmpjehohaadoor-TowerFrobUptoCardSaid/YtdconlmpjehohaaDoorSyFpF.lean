/- Types made of numbers of package fp. Conditions: those of each theorem. -/
import Derived.Test.YtdconlmpjehohaaDoorSyFpA
import Derived.Test.YtdconlmpjehohaaDoorFlat
namespace Go.Proofs.YtdconlmpjehohaaDoor
open Go.RowKit Sx
set_option linter.unusedVariables false

def fpInts (n : Nat) : List Int := match fpE n with
  | .agg cs => cs.toList.map fun v => match v with
    | .int _ i => i
    | _ => 0
  | _ => []

def fpCells (n : Nat) : List Value := match fpE n with
  | .agg cs => cs.toList
  | _ => []

theorem fpInts_ex (n : Nat) : ∃ a b c d e f : Nat, fpInts n = [(a : Int), b, c, d, e, f] ∧ fpCells n = [.int .u64 a, .int .u64 b, .int .u64 c, .int .u64 d, .int .u64 e, .int .u64 f] ∧ fpE n = .agg #[.int .u64 a, .int .u64 b, .int .u64 c, .int .u64 d, .int .u64 e, .int .u64 f] := by
  obtain ⟨x0, x1, x2, x3, x4, x5, hx⟩ := fpV_agg (n * fpR % fpQ) (fpE_lt _)
  have hx : fpE n = _ := hx
  unfold fpInts fpCells
  rw [hx]
  exact ⟨_, _, _, _, _, _, rfl, rfl, rfl⟩

theorem fpInts_len (n : Nat) : (fpInts n).length = 6 := by obtain ⟨a, b, c, d, e, f, h, _⟩ := fpInts_ex n; rw [h]; rfl
theorem fpCells_map (n : Nat) : fpCells n = (fpInts n).map (Value.int .u64) := by obtain ⟨a, b, c, d, e, f, h, h2, _⟩ := fpInts_ex n; rw [h, h2]; rfl

theorem fpInts_inj (m n : Nat) : fpInts m = fpInts n ↔ m % fpQ = n % fpQ := by
  obtain ⟨a, b, c, d, e, f, h1, _, h2⟩ := fpInts_ex m
  obtain ⟨a', b', c', d', e', f', h3, _, h4⟩ := fpInts_ex n
  rw [← fpE_inj, h1, h3, h2, h4]
  simp

theorem fpCellsL_map (l : List Nat) : l.flatMap fpCells = (l.flatMap fpInts).map (Value.int .u64) := by
  induction l with
  | nil => rfl
  | cons a l ih => rw [List.flatMap_cons, List.flatMap_cons, List.map_append, ih, fpCells_map]

theorem fpIntsL_len (l : List Nat) : (l.flatMap fpInts).length = 6 * l.length := by
  induction l with
  | nil => rfl
  | cons a l ih => rw [List.flatMap_cons, List.length_append, ih, fpInts_len, List.length_cons]; omega

theorem fpIntsL_inj : ∀ {l m : List Nat}, l.length = m.length → (l.flatMap fpInts = m.flatMap fpInts ↔ l.map (· % fpQ) = m.map (· % fpQ))
  | [], [], _ => by simp
  | a :: l, b :: m, h => by
    have ih := fpIntsL_inj (l := l) (m := m) (by simpa using h)
    rw [List.flatMap_cons, List.flatMap_cons, List.map_cons, List.map_cons, List.cons.injEq, ← ih, ← fpInts_inj]
    constructor
    · intro h
      exact List.append_inj h (by rw [fpInts_len, fpInts_len])
    · rintro ⟨h1, h2⟩
      rw [h1, h2]
  | [], b :: m, h => by simp at h
  | a :: l, [], h => by simp at h

theorem flatE1 (d : Nat) : FlatE Tryd.prog .u64 (d + 3) 34 6 := by
  refine FlatE.str (sz := fun _ => 6) Tryd.underlying34 (by kernel_rfl) ?_ (by kernel_rfl)
  simp only [List.forall_mem_cons]
  exact ⟨⟨by decide, by kernel_rfl, by kernel_rfl, FlatE.arr Tryd.underlying32 Tryd.underlying31 (by kernel_rfl) (by kernel_rfl) d⟩, fun x hx => by cases hx⟩

theorem flatE2 (d : Nat) : FlatE Tryd.prog .u64 (d + 4) 36 12 := by
  refine FlatE.str (sz := fun _ => 6) Tryd.underlying36 (by kernel_rfl) ?_ (by kernel_rfl)
  simp only [List.forall_mem_cons]
  exact ⟨⟨by decide, by kernel_rfl, by kernel_rfl, flatE1 d⟩, ⟨by decide, by kernel_rfl, by kernel_rfl, flatE1 d⟩, fun x hx => by cases hx⟩

theorem flatE6 (d : Nat) : FlatE Tryd.prog .u64 (d + 5) 38 36 := by
  refine FlatE.str (sz := fun _ => 12) Tryd.underlying38 (by kernel_rfl) ?_ (by kernel_rfl)
  simp only [List.forall_mem_cons]
  exact ⟨⟨by decide, by kernel_rfl, by kernel_rfl, flatE2 d⟩, ⟨by decide, by kernel_rfl, by kernel_rfl, flatE2 d⟩, ⟨by decide, by kernel_rfl, by kernel_rfl, flatE2 d⟩, fun x hx => by cases hx⟩

theorem flatE12 (d : Nat) : FlatE Tryd.prog .u64 (d + 6) 40 72 := by
  refine FlatE.str (sz := fun _ => 36) Tryd.underlying40 (by kernel_rfl) ?_ (by kernel_rfl)
  simp only [List.forall_mem_cons]
  exact ⟨⟨by decide, by kernel_rfl, by kernel_rfl, flatE6 d⟩, ⟨by decide, by kernel_rfl, by kernel_rfl, flatE6 d⟩, fun x hx => by cases hx⟩

/-- these types, and how many numbers make them -/
def fpFlats : List (Nat × Nat) := [(34, 1), (36, 2), (38, 6), (40, 12)]

theorem fpFlats_ok : ∀ x ∈ fpFlats, FlatE Tryd.prog .u64 10000 x.1 (6 * x.2) ∧ Tryd.prog.eqGuardType Tryd.prog.depth x.1 = false := by
  unfold fpFlats
  simp only [List.forall_mem_cons]
  exact ⟨⟨flatE1 9997, by kernel_rfl⟩, ⟨flatE2 9996, by kernel_rfl⟩, ⟨flatE6 9995, by kernel_rfl⟩, ⟨flatE12 9994, by kernel_rfl⟩, fun x hx => by cases hx⟩

theorem fpFlat_equal {t n : Nat} (h : (t, n) ∈ fpFlats) {l m : List Nat} (hl : l.length = n) (hm : m.length = n) (w : World) :
    (Op.equal t (.agg (l.flatMap fpCells).toArray) (.agg (m.flatMap fpCells).toArray)).run Tryd.prog w = .ok (decide (l.map (· % fpQ) = m.map (· % fpQ))) w := by
  have := (fpFlats_ok _ h).1 (l.flatMap fpInts) (m.flatMap fpInts) (by rw [fpIntsL_len, hl]) (by rw [fpIntsL_len, hm]) w
  rw [fpCellsL_map, fpCellsL_map, show Op.equal t = Op.equalIn 10000 t from rfl, this]
  congr 1
  rw [decide_eq_decide]
  exact fpIntsL_inj (by rw [hl, hm])

end Go.Proofs.YtdconlmpjehohaaDoor
