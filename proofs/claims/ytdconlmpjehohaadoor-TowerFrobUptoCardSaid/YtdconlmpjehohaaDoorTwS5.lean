/- Texts in one: TwK, TwL, TwJ. Conditions: those of each theorem. -/
import Derived.Test.YtdconlmpjehohaaDoorTwS4

/- Powers of the tower's numbers; the power of the modulus goes over sums. Conditions: those of each theorem. -/
namespace Go.Proofs.YtdconlmpjehohaaDoor
open Go.RowKit Sx
set_option linter.unusedVariables false
set_option linter.unusedSimpArgs false

def T.pow (x : T) : Nat → T
  | 0 => T.one
  | n + 1 => (T.pow x n).mul x

theorem T.pow_zero (x : T) : x.pow 0 = T.one := rfl
theorem T.pow_succ (x : T) (n : Nat) : x.pow (n + 1) = (x.pow n).mul x := rfl
theorem T.one_mul (x : T) : T.one.mul x = x := by rw [T.mul_comm, T.mul_one]
theorem T.zero_mul (x : T) : T.zero.mul x = T.zero := by rw [T.mul_comm, T.mul_zero]
theorem T.zero_add (x : T) : T.zero.add x = x := by rw [T.add_comm, T.add_zero]
theorem T.add_mul (x y z : T) : (x.add y).mul z = (x.mul z).add (y.mul z) := by rw [T.mul_comm, T.mul_add, T.mul_comm z, T.mul_comm z]
theorem T.sm_mul (c : Int) (x y : T) : (T.sm c x).mul y = T.sm c (x.mul y) := by rw [T.mul_comm, T.mul_sm, T.mul_comm]
instance : Std.Commutative T.mul := ⟨T.mul_comm⟩
instance : Std.Associative T.mul := ⟨T.mul_assoc⟩
instance : Std.Commutative T.add := ⟨T.add_comm⟩
instance : Std.Associative T.add := ⟨T.add_assoc⟩

theorem T.pow_one (x : T) : x.pow 1 = x := T.one_mul x
theorem T.pow_add (x : T) (a : Nat) : ∀ b, x.pow (a + b) = (x.pow a).mul (x.pow b)
  | 0 => (T.mul_one _).symm
  | b + 1 => by
    rw [← Nat.add_assoc, T.pow_succ, T.pow_add x a b, T.pow_succ, T.mul_assoc]
theorem T.one_pow : ∀ n, T.one.pow n = T.one
  | 0 => rfl
  | n + 1 => by rw [T.pow_succ, T.one_pow n, T.mul_one]
theorem T.mul_pow (x y : T) : ∀ n, (x.mul y).pow n = (x.pow n).mul (y.pow n)
  | 0 => (T.mul_one _).symm
  | n + 1 => by
    rw [T.pow_succ, T.mul_pow x y n, T.pow_succ, T.pow_succ]
    ac_rfl
theorem T.pow_mul (x : T) (a : Nat) : ∀ b, x.pow (a * b) = (x.pow a).pow b
  | 0 => rfl
  | b + 1 => by rw [Nat.mul_succ, T.pow_add, T.pow_mul x a b, T.pow_succ]
theorem T.sm_pow (c : Int) (x : T) : ∀ n, (T.sm c x).pow n = T.sm (c ^ n) (x.pow n)
  | 0 => by rw [T.pow_zero, T.pow_zero, Int.pow_zero, T.sm_one]
  | n + 1 => by
    rw [T.pow_succ, T.sm_pow c x n, T.pow_succ, T.sm_mul, T.mul_sm, ← T.sm_sm, Int.pow_succ]
theorem Cg.pow {x y : T} (h : Cg x y) : ∀ n, Cg (x.pow n) (y.pow n)
  | 0 => Cg.refl _
  | n + 1 => by
    rw [T.pow_succ, T.pow_succ]
    exact (Cg.pow h n).mul h

/-- how many choices of k out of n there are -/
def chs : Nat → Nat → Nat
  | _, 0 => 1
  | 0, _ + 1 => 0
  | n + 1, k + 1 => chs n k + chs n (k + 1)

theorem chs_zero (n : Nat) : chs n 0 = 1 := by cases n <;> rfl
theorem chs_succ (n k : Nat) : chs (n + 1) (k + 1) = chs n k + chs n (k + 1) := rfl
theorem chs_gt : ∀ (n k : Nat), n < k → chs n k = 0
  | 0, k + 1, _ => rfl
  | n + 1, k + 1, h => by rw [chs_succ, chs_gt n k (by omega), chs_gt n (k + 1) (by omega)]
  | _, 0, h => absurd h (Nat.not_lt_zero _)
theorem chs_self : ∀ n : Nat, chs n n = 1
  | 0 => rfl
  | n + 1 => by rw [chs_succ, chs_self n, chs_gt n (n + 1) (by omega)]
theorem chs_mul : ∀ n k : Nat, (k + 1) * chs (n + 1) (k + 1) = (n + 1) * chs n k
  | 0, 0 => rfl
  | 0, k + 1 => by rw [chs_succ, chs_gt 0 (k + 1) (by omega), chs_gt 0 (k + 1 + 1) (by omega)]; rfl
  | n + 1, 0 => by
    have h := chs_mul n 0
    have e := chs_succ (n + 1) 0
    rw [chs_zero] at *
    omega
  | n + 1, k + 1 => by
    have h1 := chs_mul n k
    have h2 := chs_mul n (k + 1)
    have hc := chs_succ n k
    rw [chs_succ (n + 1) (k + 1)]
    generalize chs (n + 1) (k + 1 + 1) = a at *
    generalize chs (n + 1) (k + 1) = c at *
    generalize chs n k = b at *
    generalize chs n (k + 1) = d at *
    have e1 : (k + 1 + 1) * (c + a) = (k + 1) * c + c + (k + 1 + 1) * a := by grind
    have e2 : (n + 1 + 1) * c = (n + 1) * c + c := by grind
    rw [e1, e2, h1, h2, hc]
    grind
theorem chs_dvd {q : Nat} (hq : IsP q) {k : Nat} (h0 : 0 < k) (h1 : k < q) : q ∣ chs q k := by
  obtain ⟨n, rfl⟩ : ∃ n, q = n + 1 := ⟨q - 1, by omega⟩
  obtain ⟨j, rfl⟩ : ∃ j, k = j + 1 := ⟨k - 1, by omega⟩
  have h := chs_mul n j
  rcases hq.euclid (a := j + 1) (b := chs (n + 1) (j + 1)) ⟨_, h⟩ with h2 | h2
  · exact absurd (Nat.le_of_dvd (by omega) h2) (by omega)
  · exact h2

/-- one step of the sum, the sum of the first m -/
def bt (x y : T) (n k : Nat) : T := T.sm (chs n k) ((x.pow k).mul (y.pow (n - k)))
def bs (x y : T) (n : Nat) : Nat → T
  | 0 => T.zero
  | m + 1 => (bs x y n m).add (bt x y n m)

theorem T.sm_zero' (x : T) : T.sm ((0 : Nat) : Int) x = T.zero := T.sm_zero x

theorem bt_gt (x y : T) {n k : Nat} (h : n < k) : bt x y n k = T.zero := by
  unfold bt
  rw [chs_gt n k h, T.sm_zero']

theorem bt_succ (x y : T) (n k : Nat) : bt x y (n + 1) (k + 1) = (x.mul (bt x y n k)).add (y.mul (bt x y n (k + 1))) := by
  unfold bt
  rw [chs_succ, Int.natCast_add, T.add_sm, Nat.add_sub_add_right, T.mul_sm, T.mul_sm]
  congr 1
  · rw [T.pow_succ]; congr 1; ac_rfl
  · rcases Nat.lt_or_ge k n with h | h
    · rw [show n - k = (n - (k + 1)) + 1 by omega, T.pow_succ y]
      congr 1; ac_rfl
    · rw [chs_gt n (k + 1) (by omega), T.sm_zero', T.sm_zero']

theorem bs_succ (x y : T) (n : Nat) : ∀ m, bs x y (n + 1) (m + 1) = (x.mul (bs x y n m)).add (y.mul (bs x y n (m + 1)))
  | 0 => by
    show T.zero.add (bt x y (n + 1) 0) = (x.mul T.zero).add (y.mul (T.zero.add (bt x y n 0)))
    rw [T.zero_add, T.zero_add, T.mul_zero, T.zero_add]
    unfold bt
    rw [chs_zero, chs_zero, T.mul_sm, Nat.sub_zero, Nat.sub_zero, T.pow_succ y]
    congr 1
    rw [T.pow_zero]; ac_rfl
  | m + 1 => by
    rw [show bs x y (n + 1) (m + 1 + 1) = (bs x y (n + 1) (m + 1)).add (bt x y (n + 1) (m + 1)) from rfl, bs_succ x y n m, bt_succ,
      show bs x y n (m + 1 + 1) = (bs x y n (m + 1)).add (bt x y n (m + 1)) from rfl, T.mul_add y, show (x.mul (bs x y n (m + 1))) = x.mul ((bs x y n m).add (bt x y n m)) from rfl, T.mul_add x]
    ac_rfl

/-- the power of a sum -/
theorem bin_pow (x y : T) : ∀ n, (x.add y).pow n = bs x y n (n + 1)
  | 0 => by
    show T.one = T.zero.add (T.sm ((1 : Nat) : Int) (T.one.mul T.one))
    rw [T.zero_add, T.mul_one]; exact (T.sm_one _).symm
  | n + 1 => by
    rw [T.pow_succ, bin_pow x y n, bs_succ, T.mul_add, show bs x y n (n + 1 + 1) = (bs x y n (n + 1)).add (bt x y n (n + 1)) from rfl, bt_gt x y (Nat.lt_succ_self n), T.add_zero]
    rw [T.mul_comm _ x, T.mul_comm _ y]

theorem sm_cg_zero {c : Nat} (h : fpQ ∣ c) (z : T) : Cg (T.sm c z) T.zero := by
  obtain ⟨d, rfl⟩ := h
  refine ⟨T.sm d z, ?_⟩
  rw [T.zero_add, ← T.sm_sm, Int.natCast_mul]

theorem bs_q (x y : T) {q : Nat} (hq : q = fpQ) : ∀ m, m < q → Cg (bs x y q (m + 1)) (y.pow q)
  | 0, _ => by
    show Cg (T.zero.add (bt x y q 0)) (y.pow q)
    unfold bt
    rw [T.zero_add, chs_zero, Nat.sub_zero, T.pow_zero, T.one_mul]
    exact Cg.of_eq (T.sm_one _)
  | m + 1, h => by
    have h1 := bs_q x y hq m (by omega)
    show Cg ((bs x y q (m + 1)).add (bt x y q (m + 1))) (y.pow q)
    have h2 : Cg (bt x y q (m + 1)) T.zero := sm_cg_zero (by subst hq; exact chs_dvd fpPrime (by omega) h) _
    have h3 := h1.add h2
    rwa [T.add_zero] at h3

/-- the power of the modulus goes over sums -/
theorem add_pow {q : Nat} (hq : q = fpQ) (x y : T) : Cg ((x.add y).pow q) ((x.pow q).add (y.pow q)) := by
  obtain ⟨n, hn⟩ : ∃ n, q = n + 1 := ⟨q - 1, by have := fpPrime.1; omega⟩
  rw [bin_pow, show bs x y q (q + 1) = (bs x y q q).add (bt x y q q) from rfl]
  have h1 : Cg (bs x y q q) (y.pow q) := by
    have := bs_q x y hq n (by omega)
    rwa [← hn] at this
  have h2 : bt x y q q = x.pow q := by
    unfold bt
    rw [chs_self, Nat.sub_self, T.pow_zero, T.mul_one]
    exact T.sm_one _
  rw [h2, T.add_comm (x.pow q)]
  exact h1.add (Cg.refl _)

theorem fermat_q {q : Nat} (hq : q = fpQ) (a : Nat) : a ^ q % fpQ = a % fpQ := by
  by_cases h : a % fpQ = 0
  · rw [Nat.pow_mod, h, Nat.zero_pow (by have := fpPrime.1; omega), Nat.zero_mod]
  · have h1 := fermat fpPrime (fp_nd h)
    have h2 : q = fpQ - 1 + 1 := by have := fpPrime.1; omega
    rw [h2, Nat.pow_succ, Nat.mul_mod, h1, Nat.one_mul, Nat.mod_mod]

theorem fermat_i {q : Nat} (hq : q = fpQ) (c : Int) : (c ^ q) % (fpQ : Int) = c % (fpQ : Int) := by
  have e : ∃ a : Nat, (a : Int) % (fpQ : Int) = c % (fpQ : Int) := ⟨(c % (fpQ : Int)).toNat, by rw [nat_mod, Int.emod_emod_of_dvd _ (Int.dvd_refl _)]⟩
  obtain ⟨a, ha⟩ := e
  have h1 : ∀ n : Nat, (c ^ n) % (fpQ : Int) = ((a : Int) ^ n) % (fpQ : Int) := by
    intro n
    induction n with
    | zero => rw [Int.pow_zero, Int.pow_zero]
    | succ n ih => rw [Int.pow_succ, Int.pow_succ, Int.mul_emod, ih, ← ha, ← Int.mul_emod]
  rw [h1, ← Int.natCast_pow, ← Int.natCast_emod, fermat_q hq, Int.natCast_emod, ha]

theorem sm_cg {c d : Int} (h : c % (fpQ : Int) = d % (fpQ : Int)) (x : T) : Cg (T.sm c x) (T.sm d x) := Cg.of_get fun k _ => by
  rw [get_sm, get_sm, Int.mul_emod, h, ← Int.mul_emod]

theorem smp {q : Nat} (hq : q = fpQ) (c : Int) (x : T) : Cg ((T.sm c x).pow q) (T.sm c (x.pow q)) := by
  rw [T.sm_pow]
  exact sm_cg (fermat_i hq c) _

end Go.Proofs.YtdconlmpjehohaaDoor

/- The walk of Power of the tower. Conditions: those of each theorem. -/
namespace Go.Proofs.YtdconlmpjehohaaDoor
open Go.RowKit Sx
set_option linter.unusedVariables false

/-- the twelve numbers, as the program has them -/
def tN (x : T) : List Nat := (List.range 12).map fun k => (x.get k % (fpQ : Int)).toNat
def tE (x : T) : Value := .agg ((tN x).flatMap fpCells).toArray

theorem tN_cg {x y : T} (h : Cg x y) : tN x = tN y := List.map_congr_left fun k _ => by rw [h.get k]
theorem tE_cg {x y : T} (h : Cg x y) : tE x = tE y := by unfold tE; rw [tN_cg h]

theorem tN_int (x : T) : (tN x).map (fun n : Nat => (n : Int) % (fpQ : Int)) = (List.range 12).map fun k => x.get k % (fpQ : Int) := by
  unfold tN
  rw [List.map_map]
  exact List.map_congr_left fun k _ => by
    show (((x.get k % (fpQ : Int)).toNat : Nat) : Int) % (fpQ : Int) = _
    rw [nat_mod, Int.emod_emod_of_dvd _ (Int.dvd_refl _)]

theorem tgt_val {R : Ev} {tgt : List E} {z : T} (hp : ∀ e ∈ tgt, isPoly e = true) {y : T} (h : tgt.map (evZ fun i => (R.num i : Int)) = (List.range 12).map y.get) (hc : Cg z y) : (tgt.map (fpEv R)).flatMap fpCells = (tN z).flatMap fpCells := by
  refine cells_same (nat_list ?_)
  rw [tN_int, List.map_map]
  have e1 : tgt.map ((fun n : Nat => (n : Int) % (fpQ : Int)) ∘ fpEv R) = (tgt.map (evZ fun i => (R.num i : Int))).map fun x => x % (fpQ : Int) := by
    rw [List.map_map]
    exact List.map_congr_left fun e he => evZ_ok _ (hp e he)
  rw [e1, h, List.map_map]
  exact List.map_congr_left fun k _ => (hc.get k).symm

theorem vEl12 {R : Ev} (i : Nat) (x : T) (h : (List.range 12).map (fun k => R.num (i + k)) = tN x) : V.Is (fpDenS R) Env.empty (.agg (vEl i 12)) (tE x) := by
  refine ⟨_, rfl, ?_⟩
  unfold tE
  rw [← h]
  rfl

theorem num_at (ts : List T) (t : Nat) : (List.range 12).map (fun k => numOf ts (12 * t + k)) = tN (ts.getD t T.zero) := by
  unfold tN
  refine List.map_congr_left fun k hk => ?_
  have hk : k < 12 := List.mem_range.1 hk
  have e := numOf_at ts t hk
  have : ((numOf ts (12 * t + k) : Nat) : Int) = (((ts.getD t T.zero).get k % (fpQ : Int)).toNat : Nat) := by rw [e, nat_mod]
  exact Int.ofNat.inj this

theorem tw_mul_calls (x y : T) (w : World) (hI : FpTab w) : Calls Tryd.prog 13 #[tE x, tE y] w fun e w' => e = .returned (tE (x.mul y)) ∧ Below w.heap.size w w' := by
  obtain ⟨inv, hinv⟩ := inv_ex
  obtain ⟨sqr_, hsqr⟩ := sqr_ex
  let R : Ev := ⟨numOf [x, y], fun _ => [], inv, sqr_⟩
  have hR : R.Ok := ⟨fun i => ⟨Nat.zero_le _, fun x hx => by cases hx⟩, hinv, hsqr⟩
  have hn : R.num = numOf [x, y] := rfl
  refine (poly_calls Tryd.func13 twMul_chk hR (vs := [tE x, tE y]) hI ⟨_, _, rfl, vEl12 0 x (num_at [x, y] 0), _, _, rfl, vEl12 12 y (num_at [x, y] 1), rfl⟩).mono fun e w' ⟨h1, h2⟩ => ⟨?_, h2⟩
  rw [h1]
  unfold tE
  rw [tgt_val (z := x.mul y) (twTgt_poly 0) (mulTgt_ok _) ((red_cg hn 0).symm.mul (red_cg hn 1).symm)]

theorem tw_sq_calls (x : T) (w : World) (hI : FpTab w) : Calls Tryd.prog 32 #[tE x] w fun e w' => e = .returned (tE (x.mul x)) ∧ Below w.heap.size w w' := by
  obtain ⟨inv, hinv⟩ := inv_ex
  obtain ⟨sqr_, hsqr⟩ := sqr_ex
  let R : Ev := ⟨numOf [x], fun _ => [], inv, sqr_⟩
  have hR : R.Ok := ⟨fun i => ⟨Nat.zero_le _, fun x hx => by cases hx⟩, hinv, hsqr⟩
  have hn : R.num = numOf [x] := rfl
  refine (poly_calls Tryd.func32 twSq_chk hR (vs := [tE x]) hI ⟨_, _, rfl, vEl12 0 x (num_at [x] 0), rfl⟩).mono fun e w' ⟨h1, h2⟩ => ⟨?_, h2⟩
  rw [h1]
  unfold tE
  rw [tgt_val (z := x.mul x) (twTgt_poly 1) (sqTgt_ok _) ((red_cg hn 0).symm.mul (red_cg hn 0).symm)]

section
set_option maxRecDepth 100000
theorem twOne_chk : polyChk Tryd.prog Tryd.f14 [] oneI = true := by kernel_rfl
end

theorem tw_one_calls (w : World) (hI : FpTab w) : Calls Tryd.prog 14 #[] w fun e w' => e = .returned (tE T.one) ∧ Below w.heap.size w w' := by
  obtain ⟨inv, hinv⟩ := inv_ex
  obtain ⟨sqr_, hsqr⟩ := sqr_ex
  let R : Ev := ⟨numOf [], fun _ => [], inv, sqr_⟩
  have hR : R.Ok := ⟨fun i => ⟨Nat.zero_le _, fun x hx => by cases hx⟩, hinv, hsqr⟩
  refine (poly_calls Tryd.func14 twOne_chk hR (vs := []) hI rfl).mono fun e w' ⟨h1, h2⟩ => ⟨?_, h2⟩
  rw [h1]
  unfold tE
  rw [cells_same (l := oneI.map (fpEv R)) (m := tN T.one) (nat_list (by rw [tN_int]; exact one_vals R))]

/-- the cells of a number -/
def tC (x : T) : Array Value := ((tN x).flatMap fpCells).toArray
theorem tC_size (x : T) : (tC x).size = 72 := rfl
theorem tC_one (x : T) : (tC x).all (·.oneCell') = true := by
  unfold tC
  rw [List.all_toArray, List.all_eq_true]
  intro v hv
  obtain ⟨n, _, hn⟩ := List.mem_flatMap.1 hv
  exact fpCells_one n v hn
theorem info72 : (Tryd.prog.info? 40).map (·.size) = some 72 := by kernel_rfl

/-- a number's cells, and how many there are -/
structure Cl (x : T) (X : Array Value) : Prop where
  eq : tC x = X
  info : (Tryd.prog.info? 40).map (·.size) = some X.size
  one : X.all (·.oneCell') = true
  n : X.size = 72
theorem cl_ex (x : T) : ∃ X, Cl x X := ⟨_, rfl, by rw [tC_size]; exact info72, tC_one x, tC_size x⟩
theorem Cl.tE {x : T} {X : Array Value} (h : Cl x X) : Go.Proofs.YtdconlmpjehohaaDoor.tE x = .agg X := by rw [← h.eq]; rfl

/-- the exponent so far -/
def pwE (l : List Nat) (i s : Nat) : Nat := be (l.take i) * 2 ^ (8 - s) + l.getD i 0 / 2 ^ s
theorem pwE_start (l : List Nat) (i : Nat) (h : ∀ x ∈ l, x < 256) : pwE l i 8 = be (l.take i) := by
  unfold pwE
  have : l.getD i 0 < 256 := by
    rcases Nat.lt_or_ge i l.length with hi | hi
    · rw [List.getD, List.getElem?_eq_getElem hi]; exact h _ (List.getElem_mem hi)
    · rw [List.getD, List.getElem?_eq_none hi]; decide
  rw [Nat.div_eq_of_lt (by omega)]; omega
theorem pwE_end (l : List Nat) {i : Nat} (h : i < l.length) : pwE l i 0 = be (l.take (i + 1)) := by
  unfold pwE
  rw [take_snoc _ _ h, be_snoc, List.getD, List.getElem?_eq_getElem h]
  show be (l.take i) * 256 + l[i] / 1 = _
  rw [Nat.div_one]
theorem pwE_step (l : List Nat) (i : Nat) {s : Nat} (h : s < 8) : pwE l i s = pwE l i (s + 1) + pwE l i (s + 1) + l.getD i 0 / 2 ^ s % 2 := by
  unfold pwE
  have e1 : l.getD i 0 / 2 ^ (s + 1) = l.getD i 0 / 2 ^ s / 2 := by rw [Nat.pow_succ, Nat.div_div_eq_div_mul]
  have e2 : 2 ^ (8 - s) = 2 ^ (8 - (s + 1)) * 2 := by rw [← Nat.pow_succ]; congr 1; omega
  rw [e1, e2, ← Nat.mul_assoc]
  omega

set_option maxHeartbeats 4000000 in
theorem tw_power_calls (x : T) (A : Option Addr) (l : List Nat) (n c : Nat) (w : World) (hI : FpTab w) (hr : Rd w A (nums .u8 l)) (hl : l.length = n) (hc : n ≤ c) (hn : n ≤ 140737488355328) (hb : ∀ x ∈ l, x < 256) :
    Calls Tryd.prog 12 #[tE x, .slice A n c] w fun e w' => e = .returned (tE (x.pow (be l))) ∧ Below w.heap.size w w' := by
  have HL := Lib.hid hl
  have HB := Lib.hid hb
  have HT := Lib.hid hI
  clear hl hb hI
  have c0 := fun W hW => tw_one_calls W hW
  obtain ⟨X, hX⟩ := cl_ex x
  obtain ⟨O, hO⟩ := cl_ex T.one
  rw [hX.tE]
  rw [hO.tE] at c0
  have hone := hX.one
  have hoO := hO.one
  have H0 := Lib.hid c0
  have HO := Lib.hid hO
  have HX := Lib.hid hX
  clear hO hX
  clear c0
  go_enter Tryd.func12, Tryd.ntmps12
  go_wp2_with fail
  refine (H0.out _ (HT.out.below (by repeat (first | exact Below.refl _ _ | refine Below.drew ?_ | refine below_drewN ?_ _ | refine Below.alloc ?_ (by simp <;> omega) _)))).mono ?_
  rintro e xw ⟨he, hb1⟩
  subst he
  have hsz := hb1.size
  simp only [World.size_alloc] at hsz
  have hZ : Tryd.zeroCells40.size = 72 := by kernel_rfl
  have px := ((Bk.new1 w 40 X (n := w.heap.size) rfl).alloc (.cells Tryd.zeroCells40 40)).under hb1
  have pz := (Bk.new1 (w.alloc (.cells X 40)) 40 Tryd.zeroCells40 (n := w.heap.size + 1) (by simp)).under hb1
  have hb := (show Below w.heap.size w _ from (by repeat (first | exact Below.refl _ _ | refine Below.drew ?_ | refine below_drewN ?_ _ | refine Below.alloc ?_ (by simp <;> omega) _))).trans (hb1.mono (by simp <;> omega))
  clear hb1
  have px := px.alloc (.cells Tryd.zeroCells40 40)
  have pz := pz.alloc (.cells Tryd.zeroCells40 40)
  have py := Bk.new xw 40 Tryd.zeroCells40
  have hb := hb.alloc hb.size (.cells Tryd.zeroCells40 40)
  generalize hY : xw.heap.size = Y at *
  have HZ := Lib.hid hZ
  clear hZ
  have s0 := HO.out.info
  have s1 : Tryd.zeroCells40.size = O.size := by rw [HZ.out, HO.out.n]
  go_wp2_with (refine wpList_store_row rfl _ _ _ rfl _ _ rfl rfl _ _ py s0 s1 hoO ?_; have px := px.rowFar (g' := Y) (by omega) O; have pz := pz.rowFar (g' := Y) (by omega) O; have py := py.row O; have hb := below_setRow hb (g := Y) (by omega) O)
  have hzO : Hid (Cl (x.pow (be (l.take 0))) O) := HO
  have hr2 := hr
  go_loopw [12] (fun i wr => ∃ (k : Nat) (V : Array Value), k ≤ n ∧ i = .int .i64 k ∧ Hid (Cl (x.pow (be (l.take k))) V) ∧ Bk wr w.heap.size 40 X ∧ Bk wr (w.heap.size + 1) 40 Tryd.zeroCells40 ∧ Bk wr Y 40 V ∧ Below w.heap.size w wr) (fun i _ => n - (intOf i).toNat)
  case atStart => exact ⟨0, O, Nat.zero_le _, rfl, hzO, px, pz, py, hb⟩
  case round =>
    clear px pz py hb hzO
    obtain ⟨k, V, hk, rfl, HV, px, pz, py, hbw⟩ := hrel
    by_cases hlt : k < n
    · have hkl : k < l.length := by have := HL.out; omega
      obtain ⟨b, o, rfl, hbl, hcell⟩ := (hr.below hbw).num hkl
      have hc8 := HB.out _ (List.getElem_mem hkl)
      have hcd : l.getD k 0 = l[k] := by rw [List.getD, List.getElem?_eq_getElem hkl]; rfl
      obtain ⟨cc, hcc⟩ : ∃ cc, l[k] = cc := ⟨_, rfl⟩
      rw [hcc] at hcell hc8 hcd
      have HCD := Lib.hid hcd
      have HE := Lib.hid (show be (l.take (k + 1)) = pwE l k 0 from (pwE_end l hkl).symm)
      have HV : Hid (Cl (x.pow (pwE l k 8)) V) := by
        have := HV.out
        rw [← pwE_start l k HB.out] at this
        exact this
      clear hcc hcd hkl
      go_wp2
      go_loopw [8] (fun i wr => ∃ (s : Nat) (V : Array Value), s ≤ 8 ∧ i = .int .i64 ((s : Int) - 1) ∧ Hid (Cl (x.pow (pwE l k s)) V) ∧ Bk wr w.heap.size 40 X ∧ Bk wr (w.heap.size + 1) 40 Tryd.zeroCells40 ∧ Bk wr Y 40 V ∧ Below w.heap.size w wr) (fun i _ => (intOf i + 1).toNat)
      case atStart => exact ⟨8, V, Nat.le_refl _, rfl, HV, px, pz, py, hbw⟩
      case round =>
        clear px pz py hbw HV hcell
        obtain ⟨s, V2, hs, rfl, HV, px, pz, py, hbw⟩ := hrel
        rcases s with _ | t
        · have HV : Hid (Cl (x.pow (be (l.take (k + 1)))) V2) := by
            have := HV.out
            rw [← HE.out] at this
            exact this
          go_wp2
          go_roundw
          case rel => exact ⟨k + 1, V2, by omega, by go_num, HV, px, pz, py, hbw⟩
          case measure => simp [intOf]; omega
        · rw [show (((t + 1 : Nat) : Int) - 1) = (t : Int) by omega]
          have ht8 : t < 8 := by omega
          have hbit := pwE_step l k ht8
          rw [HCD.out] at hbit
          obtain ⟨bt, hbt⟩ : ∃ b, cc / 2 ^ t % 2 = b := ⟨_, rfl⟩
          have hand : bits BinOp.and IntKind.u8 ((cc : Int) / 2 ^ t) 1 = ((bt : Nat) : Int) := by
            have e : ((cc : Int) / 2 ^ t) = ((cc / 2 ^ t : Nat) : Int) := by rw [Int.natCast_ediv, Int.natCast_pow]; rfl
            have h := u8_and_nat (cc / 2 ^ t) 1 (Nat.lt_of_le_of_lt (Nat.div_le_self _ _) (by omega)) (by omega)
            rw [Nat.and_one_is_mod, hbt] at h
            rw [e]; exact h
          have hb2 : bt < 2 := by rw [← hbt]; exact Nat.mod_lt _ (by omega)
          rw [hbt] at hbit
          obtain ⟨S, hS⟩ := cl_ex ((x.pow (pwE l k (t + 1))).mul (x.pow (pwE l k (t + 1))))
          obtain ⟨M, hM⟩ := cl_ex (((x.pow (pwE l k (t + 1))).mul (x.pow (pwE l k (t + 1)))).mul x)
          have HS := fun W hW => tw_sq_calls (x.pow (pwE l k (t + 1))) W hW
          have HM := fun W hW => tw_mul_calls ((x.pow (pwE l k (t + 1))).mul (x.pow (pwE l k (t + 1)))) x W hW
          rw [HV.out.tE, hS.tE] at HS
          rw [hS.tE, HX.out.tE, hM.tE] at HM
          have hS' : Hid (bt = 0 → Cl (x.pow (pwE l k t)) S) := Lib.hid fun h => by
            rw [hbit, h, Nat.add_zero, T.pow_add]; exact hS
          have hM' : Hid (bt = 1 → Cl (x.pow (pwE l k t)) M) := Lib.hid fun h => by
            rw [hbit, h, T.pow_succ, T.pow_add]; exact hM
          have v1 := HV.out.info
          have x1 := HX.out.info
          have i1 := hS.info
          have i2 := hM.info
          have o1 := hS.one
          have o2 := hM.one
          have z1 : V2.size = S.size := by rw [HV.out.n, hS.n]
          have z2 : S.size = M.size := by rw [hS.n, hM.n]
          have HS := Lib.hid HS
          have HM := Lib.hid HM
          clear hS hM hbt hbit HV
          have hbt : bt = 0 ∨ bt = 1 := by omega
          clear hb2
          rcases hbt with rfl | rfl
          · rw [show ((0 : Nat) : Int) = 0 from rfl] at hand
            go_wp2_with (refine wpList_load_row rfl _ _ rfl _ rfl _ _ _ _ py Tryd.underlying40 rfl v1 ?_)
            refine (HS.out _ (HT.out.below hbw)).mono ?_
            rintro e xw2 ⟨he, hb2⟩
            subst he
            have hbw := hbw.trans (hb2.mono hbw.size)
            have px := px.under hb2
            have pz := pz.under hb2
            have py := py.under hb2
            clear hb2
            go_wp2_with (refine wpList_store_row rfl _ _ _ rfl _ _ rfl rfl _ _ py i1 z1 o1 ?_; have px := px.rowFar (g' := Y) (by omega) S; have pz := pz.rowFar (g' := Y) (by omega) S; have py := py.row S; have hbw := below_setRow hbw (g := Y) (by omega) S)
            go_roundw
            case rel => exact ⟨t, S, by omega, by go_num, Lib.hid (hS'.out trivial), px, pz, py, hbw⟩
            case measure => simp [intOf]
          · rw [show ((1 : Nat) : Int) = 1 from rfl] at hand
            go_wp2_with (refine wpList_load_row rfl _ _ rfl _ rfl _ _ _ _ py Tryd.underlying40 rfl v1 ?_)
            refine (HS.out _ (HT.out.below hbw)).mono ?_
            rintro e xw2 ⟨he, hb2⟩
            subst he
            have hbw := hbw.trans (hb2.mono hbw.size)
            have px := px.under hb2
            have pz := pz.under hb2
            have py := py.under hb2
            clear hb2
            go_wp2_with (first | (refine wpList_store_row rfl _ _ _ rfl _ _ rfl rfl _ _ py i1 z1 o1 ?_; have px := px.rowFar (g' := Y) (by omega) S; have pz := pz.rowFar (g' := Y) (by omega) S; have py := py.row S; have hbw := below_setRow hbw (g := Y) (by omega) S) | (refine wpList_load_row rfl _ _ rfl _ rfl _ _ _ _ py Tryd.underlying40 rfl i1 ?_) | (refine wpList_load_row rfl _ _ rfl _ rfl _ _ _ _ px Tryd.underlying40 rfl x1 ?_))
            refine (HM.out _ (HT.out.below hbw)).mono ?_
            rintro e xw3 ⟨he, hb3⟩
            subst he
            have hbw := hbw.trans (hb3.mono hbw.size)
            have px := px.under hb3
            have pz := pz.under hb3
            have py := py.under hb3
            clear hb3
            go_wp2_with (refine wpList_store_row rfl _ _ _ rfl _ _ rfl rfl _ _ py i2 z2 o2 ?_; have px := px.rowFar (g' := Y) (by omega) M; have pz := pz.rowFar (g' := Y) (by omega) M; have py := py.row M; have hbw := below_setRow hbw (g := Y) (by omega) M)
            go_roundw
            case rel => exact ⟨t, M, by omega, by go_num, Lib.hid (hM'.out trivial), px, pz, py, hbw⟩
            case measure => simp [intOf]
    · have hkn : k = n := by omega
      have HV : Hid (Cl (x.pow (be l)) V) := by
        have := HV.out
        rw [hkn, List.take_of_length_le (by rw [HL.out]; exact Nat.le_refl _)] at this
        exact this
      subst hkn
      have v1 := HV.out.info
      have v2 := HV.out.one
      have z1 : Tryd.zeroCells40.size = V.size := by rw [HZ.out, HV.out.n]
      go_wp2_with (first | (refine wpList_load_row rfl _ _ rfl _ rfl _ _ _ _ py Tryd.underlying40 rfl v1 ?_) | (refine wpList_store_row rfl _ _ _ rfl _ _ rfl rfl _ _ pz v1 z1 v2 ?_))
      exact bodyPost_ret (results_cell_row rfl _ _ (w.heap.size + 1) _ _ _ _ rfl (pz.row _) Tryd.underlying40 rfl v1) rfl ⟨congrArg Ending.returned HV.out.tE.symm, below_setRow hbw (by omega) _⟩

end Go.Proofs.YtdconlmpjehohaaDoor

/- Frob is the power of the modulus. Conditions: those of each theorem. -/
namespace Go.Proofs.YtdconlmpjehohaaDoor
open Go.RowKit Sx
set_option linter.unusedVariables false
set_option linter.unusedSimpArgs false

/-- numbers that are checked, one by one -/
def cgB (x y : T) : Bool := (List.range 12).all fun k => decide (x.get k % (fpQ : Int) = y.get k % (fpQ : Int))
theorem cgB_ok {x y : T} (h : cgB x y = true) : Cg x y := Cg.of_get fun k hk => of_decide_eq_true (List.all_eq_true.1 h k (List.mem_range.2 hk))

def bas (k : Nat) : T := T.of fun i => if i = k then 1 else 0
def sumT (x : T) (f : Nat → T) : Nat → T
  | 0 => T.zero
  | n + 1 => (sumT x f n).add (T.sm (x.get n) (f n))

theorem bas_sum (x : T) : sumT x bas 12 = x := by
  refine T.ext_get fun k hk => ?_
  simp only [sumT, get_add, get_sm, T.zero_get]
  unfold bas
  rw [T.get_of _ hk, T.get_of _ hk, T.get_of _ hk, T.get_of _ hk, T.get_of _ hk, T.get_of _ hk, T.get_of _ hk, T.get_of _ hk, T.get_of _ hk, T.get_of _ hk, T.get_of _ hk, T.get_of _ hk]
  match k, hk with
  | 0, _ => simp
  | 1, _ => simp
  | 2, _ => simp
  | 3, _ => simp
  | 4, _ => simp
  | 5, _ => simp
  | 6, _ => simp
  | 7, _ => simp
  | 8, _ => simp
  | 9, _ => simp
  | 10, _ => simp
  | 11, _ => simp

structure Lin (f : T → T) : Prop where
  add : ∀ x y, Cg (f (x.add y)) ((f x).add (f y))
  sm : ∀ c x, Cg (f (T.sm c x)) (T.sm c (f x))

theorem Lin.zero {f : T → T} (h : Lin f) : Cg (f T.zero) T.zero := by
  have h1 := h.sm 0 T.zero
  rwa [T.sm_zero, T.sm_zero] at h1

theorem Lin.sum {f : T → T} (h : Lin f) (x : T) (e : Nat → T) : ∀ n, Cg (f (sumT x e n)) (sumT x (fun k => f (e k)) n)
  | 0 => h.zero
  | n + 1 => (h.add _ _).trans ((Lin.sum h x e n).add (h.sm _ _))

theorem sumT_cg (x : T) {e e' : Nat → T} {n : Nat} : (∀ k, k < n → Cg (e k) (e' k)) → Cg (sumT x e n) (sumT x e' n) := by
  induction n with
  | zero => intro _; exact Cg.refl _
  | succ n ih => intro h; exact (ih fun k hk => h k (by omega)).add (Cg.sm _ (h n (by omega)))

/-- what is linear is told by what it makes of the twelve -/
theorem Lin.ext {f g : T → T} (hf : Lin f) (hg : Lin g) (h : ∀ k, k < 12 → Cg (f (bas k)) (g (bas k))) (x : T) : Cg (f x) (g x) := by
  have h1 := hf.sum x bas 12
  have h2 := hg.sum x bas 12
  rw [bas_sum] at h1 h2
  exact h1.trans ((sumT_cg x h).trans h2.symm)

theorem lin_pow {q : Nat} (hq : q = fpQ) : Lin fun x => x.pow q := ⟨add_pow hq, smp hq⟩
theorem lin_frob : Lin T.frob := by
  constructor
  · intro x y
    refine Cg.of_eq ?_
    simp only [T.frob, T.add, T.mk.injEq]
    refine ⟨?_, ?_, ?_, ?_, ?_, ?_, ?_, ?_, ?_, ?_, ?_, ?_⟩ <;> grind
  · intro c x
    refine Cg.of_eq ?_
    simp only [T.frob, T.sm, T.mk.injEq]
    refine ⟨?_, ?_, ?_, ?_, ?_, ?_, ?_, ?_, ?_, ?_, ?_, ?_⟩ <;> grind
theorem lin_conj : Lin T.conj := by
  constructor
  · intro x y
    refine Cg.of_eq ?_
    simp only [T.conj, T.add, T.mk.injEq]
    refine ⟨?_, ?_, ?_, ?_, ?_, ?_, ?_, ?_, ?_, ?_, ?_, ?_⟩ <;> grind
  · intro c x
    refine Cg.of_eq ?_
    simp only [T.conj, T.sm, T.mk.injEq]
    refine ⟨?_, ?_, ?_, ?_, ?_, ?_, ?_, ?_, ?_, ?_, ?_, ?_⟩ <;> grind
theorem Lin.comp {f g : T → T} (hf : Lin f) (hg : Lin g) (hc : ∀ x y, Cg x y → Cg (f x) (f y)) : Lin fun x => f (g x) :=
  ⟨fun x y => (hc _ _ (hg.add x y)).trans (hf.add _ _), fun c x => (hc _ _ (hg.sm c x)).trans (hf.sm _ _)⟩

def tI : T := ⟨0, 1, 0, 0, 0, 0, 0, 0, 0, 0, 0, 0⟩
def tW : T := ⟨0, 0, 0, 0, 0, 0, 1, 0, 0, 0, 0, 0⟩
def tU : T := ⟨1, 1, 0, 0, 0, 0, 0, 0, 0, 0, 0, 0⟩
def tIm : T := ⟨0, -1, 0, 0, 0, 0, 0, 0, 0, 0, 0, 0⟩
theorem tI4 : tI.pow 4 = T.one := by kernel_rfl
theorem tI3 : tI.pow 3 = tIm := by kernel_rfl
theorem tI1 : tI.pow 1 = tI := by kernel_rfl
theorem tW6 : tW.pow 6 = tU := by kernel_rfl
theorem tU2 : tU.pow 2 = T.sm 2 tI := by kernel_rfl

/-- (q - 7) / 12, and what the power of 2 by it is -/
def fqM : Nat := 333534129601805616118149152144658679713073568328250657111004844677002637540903155370223969094084638669824522713315
def fqC : Nat := 3850754370037169011952147076051364057158807420970682438676050522613628423219637725072182697113062777891589506424760
theorem fqM_q : fpQ = 6 * (2 * fqM + 1) + 1 := by decide +kernel
theorem fqM_4 : fqM = 4 * (fqM / 4) + 3 := by decide +kernel
theorem fpQ_4 : fpQ = 4 * (fpQ / 4) + 3 := by decide +kernel
theorem fqC_eq : 2 ^ fqM % fpQ = fqC := by
  rw [← pwM_eq 2 fpQ 400 fqM (by decide +kernel)]
  decide +kernel

theorem tI_pow {m k : Nat} (h : m = 4 * k + 3) : tI.pow m = tIm := by
  rw [h, T.pow_add, T.pow_mul, tI4, T.one_pow, T.one_mul, tI3]

/-- the powers of i and of w by the modulus -/
theorem tI_q {q : Nat} (hq : q = fpQ) : tI.pow q = tIm := tI_pow (hq.trans fpQ_4)

theorem tW_q {q m : Nat} (hm : m = fqM) (hq : q = 6 * (2 * m + 1) + 1) : Cg (tW.pow q) (((T.sm fqC tIm).mul tU).mul tW) := by
  rw [hq, T.pow_succ, T.pow_mul, tW6, T.pow_succ, T.pow_mul, tU2, T.sm_pow, tI_pow (hm.trans fqM_4)]
  refine Cg.mul (Cg.mul (sm_cg ?_ _) (Cg.refl _)) (Cg.refl _)
  have h : ((2 ^ m % fpQ : Nat) : Int) = (fqC : Int) := by rw [hm, fqC_eq]
  rw [Int.natCast_emod, Int.natCast_pow] at h
  exact (show ((2 : Nat) : Int) ^ m % (fpQ : Int) = (fqC : Int) % (fpQ : Int) by rw [← h, Int.emod_emod_of_dvd _ (Int.dvd_refl _)])

/-- which power of w a number is at -/
def wE : Nat → Nat
  | 0 => 0 | 1 => 2 | 2 => 4 | 3 => 1 | 4 => 3 | _ => 5
def tWq : T := ((T.sm fqC tIm).mul tU).mul tW

section
set_option maxRecDepth 100000
theorem bas_chk : (List.range 12).all (fun k => cgB (bas k) ((tI.pow (k % 2)).mul (tW.pow (wE (k / 2))))) = true := by kernel_rfl
theorem frob_chk : (List.range 12).all (fun k => cgB ((tIm.pow (k % 2)).mul (tWq.pow (wE (k / 2)))) (bas k).frob) = true := by kernel_rfl
theorem frob6_chk : (List.range 12).all (fun k => cgB (bas k).frob.frob.frob.frob.frob.frob (bas k).conj) = true := by kernel_rfl
end

theorem pow_swap (x : T) (a b : Nat) : (x.pow a).pow b = (x.pow b).pow a := by rw [← T.pow_mul, ← T.pow_mul, Nat.mul_comm]

/-- Frob is the power of the modulus -/
theorem frob_pow {q : Nat} (hq : q = fpQ) (x : T) : Cg (x.pow q) x.frob := by
  refine Lin.ext (lin_pow hq) lin_frob (fun k hk => ?_) x
  show Cg ((bas k).pow q) (bas k).frob
  refine Cg.trans ?_ (cgB_ok (List.all_eq_true.1 frob_chk k (List.mem_range.2 hk)))
  refine (Cg.pow (cgB_ok (List.all_eq_true.1 bas_chk k (List.mem_range.2 hk))) q).trans ?_
  rw [T.mul_pow, pow_swap, pow_swap tW, tI_q hq]
  exact Cg.mul (Cg.refl _) (Cg.pow (tW_q rfl (hq.trans fqM_q)) _)

theorem frob_mul (x y : T) : Cg (x.mul y).frob (x.frob.mul y.frob) := by
  obtain ⟨q, hq⟩ : ∃ q, q = fpQ := ⟨_, rfl⟩
  refine (frob_pow hq _).symm.trans ?_
  rw [T.mul_pow]
  exact (frob_pow hq x).mul (frob_pow hq y)

theorem frob6 (x : T) : Cg x.frob.frob.frob.frob.frob.frob x.conj := by
  have l1 := lin_frob
  have hc : ∀ x y, Cg x y → Cg x.frob y.frob := fun x y h => T.frob_cg h
  have l2 : Lin fun x => x.frob.frob := l1.comp l1 hc
  have l3 : Lin fun x => x.frob.frob.frob := l1.comp l2 hc
  have l4 : Lin fun x => x.frob.frob.frob.frob := l1.comp l3 hc
  have l5 : Lin fun x => x.frob.frob.frob.frob.frob := l1.comp l4 hc
  have l6 : Lin fun x => x.frob.frob.frob.frob.frob.frob := l1.comp l5 hc
  exact Lin.ext l6 lin_conj (fun k hk => cgB_ok (List.all_eq_true.1 frob6_chk k (List.mem_range.2 hk))) x

end Go.Proofs.YtdconlmpjehohaaDoor
