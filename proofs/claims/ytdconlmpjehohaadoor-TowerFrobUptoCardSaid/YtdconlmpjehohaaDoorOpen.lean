/- How an argument is opened: a slice of bytes, an integer. Conditions: those of each theorem. -/
import Derived.Test.YtdconlmpjehohaaDoorRows
import Derived.Test.YtdconlmpjehohaaDoorBase
import Derived.ProofKit
import Derived.OpenShut
import Derived.SizedLaws
import Derived.ChangeOld
namespace Go.Proofs.YtdconlmpjehohaaDoor
open Go.ChangeShapes Go.WideShapes Go.ChangeAt Go.RowKit
set_option linter.unusedVariables false

theorem ownKnobNone : ownKnob Tryd.prog.godebug = none := by kernel_rfl
theorem laidOut : laidOutB Tryd.prog = true := by kernel_rfl

theorem wf_nat {k : IntKind} {z : Int} (h : (Lit.int k z).wf = true) (hk : k.signed = false) : ((z.toNat : Nat) : Int) = z := by
  have : 0 ≤ z := by
    simp only [Lit.wf, IntKind.min, hk, Bool.and_eq_true, decide_eq_true_eq] at h
    simpa using h.1
  omega
theorem wf_u8 {z : Int} (h : (Lit.int .u8 z).wf = true) : 0 ≤ z ∧ z < 256 := by
  simp [Lit.wf, IntKind.min, IntKind.max, IntKind.signed, IntKind.bits] at h; omega
theorem wf_u64 {z : Int} (h : (Lit.int .u64 z).wf = true) : ∃ y : Nat, z = (y : Int) ∧ y < 18446744073709551616 := by
  refine ⟨z.toNat, (wf_nat h rfl).symm, ?_⟩
  simp [Lit.wf, IntKind.min, IntKind.max, IntKind.signed, IntKind.bits] at h; omega
theorem wf_u32 {z : Int} (h : (Lit.int .u32 z).wf = true) : ∃ y : Nat, z = (y : Int) ∧ y < 4294967296 := by
  refine ⟨z.toNat, (wf_nat h rfl).symm, ?_⟩
  simp [Lit.wf, IntKind.min, IntKind.max, IntKind.signed, IntKind.bits] at h; omega
theorem slice_inj {A A' : Option Addr} {n n' c c' : Nat} (h : Value.slice A n c = .slice A' n' c') : A = A' ∧ n = n' ∧ c = c' := by
  injection h with h1 h2 h3; exact ⟨h1, h2, h3⟩
theorem wf_i64 {z : Int} (h : (Lit.int .i64 z).wf = true) : -9223372036854775808 ≤ z ∧ z ≤ 9223372036854775807 := by
  simp [Lit.wf, IntKind.min, IntKind.max, IntKind.signed, IntKind.bits] at h; omega

section
variable {H : Type} {enc : TypeId × Value → H} {w : World}
/-- a cell that is a slice of bytes, opened -/
theorem open_bytes {sp : Nat → Bool} {held : Bool} {fuel : Nat} {v : Value} {x : DataW H × List MemPlace} (h : DataW.trod enc Tryd.prog w 0 sp held fuel 22 [v] = some x) :
    ∃ (A : Option Addr) (n c : Nat) (l : List Nat), v = .slice A n c ∧ n ≤ c ∧ c ≤ maxLen ∧ l.length = n ∧ Rd w A (nums .u8 l) ∧ (∀ y ∈ l, y < 256) ∧ (n = 0 ∨ ∃ elems spare, x.1 = .slice elems spare ∧ elems.length = n) := by
  rcases open_ints Tryd.underlying22 Tryd.underlying5 (by kernel_rfl) h with ⟨hcs, hx⟩ | ⟨a, len, cap, zs, hcs, _, hl, hm, hz, hx, hcell, hwz⟩
  · simp at hcs
    exact ⟨none, 0, 0, [], hcs, Nat.le_refl _, by simp [maxLen], rfl, .inl rfl, by simp, .inl rfl⟩
  · simp at hcs
    have hlz : len ≤ zs.length := by rw [hz]; split <;> omega
    refine ⟨some a, len, cap, (zs.take len).map Int.toNat, hcs, hl, hm, by simp; omega, ?_, ?_, .inr ⟨_, _, by rw [hx], by simp [lits]; omega⟩⟩
    · by_cases h0 : len = 0
      · left; simp [nums, h0]
      · right
        obtain ⟨b, off, spot⟩ := a
        have h00 := hcell 0 (by omega)
        have hspot : spot = none := by simpa [Addr.add] using World.cell?_spot h00
        subst hspot
        refine ⟨b, off, rfl, ?_, fun j hj => ?_⟩
        · have := block_lt_of_cell h00
          simpa [Addr.add] using this
        · have hj' : j < len := by simp [nums] at hj; omega
          have := hcell j (by omega)
          have ha : (⟨b, off, none⟩ : Addr).add j = ⟨b, off + j, none⟩ := by simp only [Addr.add]; split <;> simp_all
          rw [ha] at this
          rw [this, nums_get]
          have hzj : zs.getD j 0 = zs[j]'(by omega) := by rw [List.getD_eq_getElem?_getD, List.getElem?_eq_getElem (by omega)]; rfl
          have hw := hwz _ (List.getElem_mem (h := (by omega : j < zs.length)))
          simp only [List.getElem_map, List.getElem_take]
          rw [wf_nat hw rfl, hzj]
    · intro y hy
      simp only [List.mem_map] at hy
      obtain ⟨z, hz1, rfl⟩ := hy
      have := wf_u8 (hwz z (List.mem_of_mem_take hz1))
      omega
/-- an argument that is a slice of bytes, opened -/
theorem open_bytes_arg {sp : Nat → Bool} {held : Bool} {a : Option Addr} {len cap : Nat} {d : DataW H} {p : List MemPlace} (h : DataW.Trod enc Tryd.prog w 0 sp held 22 (.slice a len cap) d p) :
    ∃ (A : Option Addr) (n c : Nat) (l : List Nat), Value.slice a len cap = .slice A n c ∧ n ≤ c ∧ c ≤ maxLen ∧ l.length = n ∧ Rd w A (nums .u8 l) ∧ (∀ y ∈ l, y < 256) ∧ (n = 0 ∨ ∃ elems spare, d = .slice elems spare ∧ elems.length = n) := by
  obtain ⟨fuel, hf⟩ := h
  exact open_bytes (x := (d, p)) (by simpa [Value.cells] using hf)
/-- the reach of a slice of bytes -/
theorem bytes_reach {ts : List TypeId} {ds : List (DataW H)} (h : (DataW.weightsEach Tryd.prog ts ds).all (· ≤ reachBytes) = true) {j : Nat} (ht : ts[j]? = some 22) {elems spare : List (DataW H)} (hd : ds[j]? = some (.slice elems spare)) : elems.length ≤ 140737488355328 := by
  have hb : Tryd.prog.bytesOf 5 = 1 := by kernel_rfl
  have := sized_slice h ht hd Tryd.underlying22
  rw [hb] at this
  simp [reachBytes] at this
  omega
end
end Go.Proofs.YtdconlmpjehohaaDoor
