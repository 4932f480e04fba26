/- Comparing arrays of numbers. Conditions: those of each theorem. -/
import Derived.Test.YtdconlmpjehohaaDoorSyP
namespace Go.Proofs.YtdconlmpjehohaaDoor.Sx
open Go.RowKit
set_option linter.unusedVariables false

theorem run_forall {P : Program} {w : World} {f : Nat → Option Bool × Unit → Sem (ForInStep (Option Bool × Unit))} {c : Nat → Bool} (l : List Nat)
    (h : ∀ i ∈ l, (f i (none, ())).run P w = .ok (if c i then .yield (none, ()) else .done (some false, ())) w) :
    (forIn l ((none, ()) : Option Bool × Unit) f).run P w = .ok (if l.all c then none else some false, ()) w := by
  induction l with
  | nil => rfl
  | cons i l ih =>
    have h1 := h i (by simp)
    have ih := ih fun j hj => h j (by simp [hj])
    rw [List.forIn_cons]
    simp only [Sem.run_bind, h1, Result.andThen_ok]
    cases hc : c i with
    | false => simp [hc]
    | true =>
      simp only [if_true]
      rw [ih]
      simp [hc]

theorem run_equalArr {P : Program} {t e : TypeId} {n : Nat} {k : IntKind} (hu : P.underlying t = some (.array n e)) (he : P.underlying e = some (.int k)) (hz : szOf P e = some 1) (ha : aggOf P e = some false)
    {xs ys : List Int} (hx : xs.length = n) (hy : ys.length = n) (d : Nat) (w : World) :
    (Op.equalIn (d + 2) t (.agg (xs.map (Value.int k)).toArray) (.agg (ys.map (Value.int k)).toArray)).run P w = .ok (decide (xs = ys)) w := by
  rw [Op.equalIn]
  simp only [Sem.run_bind, run_underlying hu, Result.andThen_ok, Sx.run_sizeOf hz]
  rw [Std.Legacy.Range.forIn_eq_forIn_range', run_forall (c := fun i => xs.getD i 0 == ys.getD i 0)]
  · have e : (List.range' [:n].start [:n].size [:n].step).all (fun i => xs.getD i 0 == ys.getD i 0) = decide (xs = ys) := by
      have e1 : List.range' [:n].start [:n].size [:n].step = List.range n := by
        rw [List.range_eq_range']
        simp [Std.Legacy.Range.size]
      rw [e1, Bool.eq_iff_iff]
      simp only [List.all_eq_true, List.mem_range, decide_eq_true_eq, beq_iff_eq]
      constructor
      · intro h
        apply List.ext_getElem (by omega)
        intro i h1 h2
        have := h i (by omega)
        simpa [List.getD, h1, h2] using this
      · intro h i _
        rw [h]
    simp only [Result.andThen_ok, e]
    by_cases hxy : xs = ys <;> simp [hxy]
  · intro i hi
    have hi' : i < n := by
      simp [Std.Legacy.Range.size] at hi
      exact hi
    have p1 : (part e (List.map (Value.int k) xs).toArray (i * 1)).run P w = .ok (.int k (xs.getD i 0)) w := by
      simp [part, run_isAgg ha, show i < xs.length by omega, List.getD]
    have p2 : (part e (List.map (Value.int k) ys).toArray (i * 1)).run P w = .ok (.int k (ys.getD i 0)) w := by
      simp [part, run_isAgg ha, show i < ys.length by omega, List.getD]
    have p3 : (Op.equalIn (d + 1) e (.int k (xs.getD i 0)) (.int k (ys.getD i 0))).run P w = .ok (xs.getD i 0 == ys.getD i 0) w := by
      rw [Op.equalIn]
      simp only [Sem.run_bind, run_underlying he, Result.andThen_ok, if_true, Sem.run_pure]
    simp only [Sem.run_bind, p1, p2, p3, Result.andThen_ok]
    cases xs.getD i 0 == ys.getD i 0 <;> rfl

theorem run_equalNums {P : Program} {t e : TypeId} {n : Nat} {k : IntKind} (hu : P.underlying t = some (.array n e)) (he : P.underlying e = some (.int k)) (hz : szOf P e = some 1) (ha : aggOf P e = some false)
    {xs ys : List Nat} (hx : xs.length = n) (hy : ys.length = n) (w : World) :
    (Op.equal t (.agg (nums k xs).toArray) (.agg (nums k ys).toArray)).run P w = .ok (decide (xs = ys)) w := by
  have e1 : ∀ l : List Nat, nums k l = (l.map Int.ofNat).map (Value.int k) := fun l => by simp [nums]
  unfold Op.equal Op.maxDepth
  rw [e1, e1, show (10000 : Nat) = 9998 + 2 from rfl, run_equalArr hu he hz ha (by simp [hx]) (by simp [hy])]
  congr 1
  rw [decide_eq_decide]
  constructor
  · intro h
    exact (List.map_inj_right (fun a b h => Int.ofNat.inj h)).1 h
  · intro h; rw [h]

end Go.Proofs.YtdconlmpjehohaaDoor.Sx
