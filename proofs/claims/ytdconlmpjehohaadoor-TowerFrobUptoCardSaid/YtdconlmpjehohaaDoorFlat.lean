/- Comparing structs of structs of words. Conditions: those of each theorem. -/
import Derived.Test.YtdconlmpjehohaaDoorSyQ
namespace Go.Proofs.YtdconlmpjehohaaDoor.Sx
open Go.RowKit
set_option linter.unusedVariables false

/-- at this depth a type's values of n words are alike just if their words are -/
def FlatE (P : Program) (k : IntKind) (d : Nat) (t : TypeId) (n : Nat) : Prop := ∀ (xs ys : List Int), xs.length = n → ys.length = n → ∀ w : World,
  (Op.equalIn d t (.agg (xs.map (Value.int k)).toArray) (.agg (ys.map (Value.int k)).toArray)).run P w = .ok (decide (xs = ys)) w

theorem FlatE.arr {P : Program} {t e : TypeId} {n : Nat} {k : IntKind} (hu : P.underlying t = some (.array n e)) (he : P.underlying e = some (.int k)) (hz : szOf P e = some 1) (ha : aggOf P e = some false) (d : Nat) : FlatE P k (d + 2) t n :=
  fun xs ys hx hy w => run_equalArr hu he hz ha hx hy d w

theorem run_forallF {α : Type} {P : Program} {w : World} {f : α → Option Bool × Unit → Sem (ForInStep (Option Bool × Unit))} {c : α → Bool} (l : List α)
    (h : ∀ i ∈ l, (f i (none, ())).run P w = .ok (if c i then .yield (none, ()) else .done (some false, ())) w) :
    (forIn l ((none, ()) : Option Bool × Unit) f).run P w = .ok (if l.all c then none else some false, ()) w := by
  induction l with
  | nil => rfl
  | cons i l ih =>
    have h1 := h i (by simp)
    have ih := ih fun j hj => h j (by simp [hj])
    rw [List.forIn_cons]
    simp only [Sem.run_bind, h1, Result.andThen_ok]
    cases hc : c i with
    | false => simp [hc]
    | true =>
      simp only [if_true]
      rw [ih]
      simp [hc]

/-- the fields lie one behind the other -/
def cover (sz : TypeId → Nat) : List Field → Nat → Nat → Bool
  | [], o, n => Nat.beq o n
  | f :: r, o, n => Nat.beq f.offset o && cover sz r (o + sz f.type) n

theorem cover_ok {sz : TypeId → Nat} {xs ys : List Int} {n : Nat} (hx : xs.length = n) (hy : ys.length = n) : ∀ {fs : List Field} {o : Nat}, cover sz fs o n = true →
    (o ≤ n ∧ (∀ f ∈ fs, f.offset + sz f.type ≤ n) ∧ ((∀ f ∈ fs, (xs.drop f.offset).take (sz f.type) = (ys.drop f.offset).take (sz f.type)) ↔ xs.drop o = ys.drop o))
  | [], o, h => by
    have e := Nat.eq_of_beq_eq_true h
    subst e
    exact ⟨Nat.le_refl _, fun f hf => (by cases hf), fun _ => by rw [List.drop_eq_nil_of_le (by omega), List.drop_eq_nil_of_le (by omega)], fun _ f hf => by cases hf⟩
  | f :: r, o, h => by
    simp only [cover, Bool.and_eq_true] at h
    obtain ⟨h1, h2⟩ := h
    have e := Nat.eq_of_beq_eq_true h1
    obtain ⟨h3, h4, h5⟩ := cover_ok hx hy h2
    refine ⟨by omega, fun g hg => ?_, ?_⟩
    · rcases List.mem_cons.1 hg with e' | e'
      · subst e'; omega
      · exact h4 g e'
    · constructor
      · intro h
        have a1 := h f (by simp)
        have a2 := h5.1 fun g hg => h g (List.mem_cons_of_mem _ hg)
        rw [e] at a1
        rw [← List.take_append_drop (sz f.type) (xs.drop o), ← List.take_append_drop (sz f.type) (ys.drop o), List.drop_drop, List.drop_drop, a1, a2]
      · intro h g hg
        rcases List.mem_cons.1 hg with e' | e'
        · subst e'; rw [e, h]
        · refine h5.2 ?_ g e'
          rw [← List.drop_drop, ← List.drop_drop, h]

theorem FlatE.str {P : Program} {k : IntKind} {t : TypeId} {n d : Nat} {fs : Array Field} {sz : TypeId → Nat} (hu : P.underlying t = some (.struct fs)) (hst : P.stoodInHeld t = false)
    (hf : ∀ f ∈ fs.toList, f.name ≠ "_" ∧ aggOf P f.type = some true ∧ szOf P f.type = some (sz f.type) ∧ FlatE P k d f.type (sz f.type)) (hc : cover sz fs.toList 0 n = true) : FlatE P k (d + 1) t n := by
  intro xs ys hx hy w
  obtain ⟨_, hb, hall⟩ := cover_ok hx hy hc
  rw [Op.equalIn]
  simp only [Sem.run_bind, run_underlying hu, Result.andThen_ok, run_program, hst, Bool.false_eq_true, if_false]
  rw [← Array.forIn_toList, run_forallF (c := fun f : Field => decide ((xs.drop f.offset).take (sz f.type) = (ys.drop f.offset).take (sz f.type)))]
  · have e : fs.toList.all (fun f : Field => decide ((xs.drop f.offset).take (sz f.type) = (ys.drop f.offset).take (sz f.type))) = decide (xs = ys) := by
      rw [Bool.eq_iff_iff]
      simp only [List.all_eq_true, decide_eq_true_eq]
      rw [hall]
      simp
    simp only [Result.andThen_ok, e]
    by_cases hxy : xs = ys <;> simp [hxy]
  · intro f hfm
    obtain ⟨h1, h2, h3, h4⟩ := hf f hfm
    have hle := hb f hfm
    have pt : ∀ zs : List Int, zs.length = n → (part f.type (zs.map (Value.int k)).toArray f.offset).run P w = .ok (.agg (((zs.drop f.offset).take (sz f.type)).map (Value.int k)).toArray) w := by
      intro zs hz
      simp only [part, Sem.run_bind, run_isAgg h2, Result.andThen_ok, if_true, run_sizeOf h3, Sem.run_pure]
      congr 2
      apply Array.ext'
      simp [List.map_take, List.map_drop]
    have hlen : ∀ zs : List Int, zs.length = n → ((zs.drop f.offset).take (sz f.type)).length = sz f.type := by
      intro zs hz
      rw [List.length_take, List.length_drop, hz]; omega
    have p3 := h4 _ _ (hlen xs hx) (hlen ys hy) w
    simp only [h1, ne_eq, not_false_eq_true, if_true, Sem.run_bind, pt xs hx, pt ys hy, p3, Result.andThen_ok]
    cases decide ((xs.drop f.offset).take (sz f.type) = (ys.drop f.offset).take (sz f.type)) <;> rfl

end Go.Proofs.YtdconlmpjehohaaDoor.Sx
