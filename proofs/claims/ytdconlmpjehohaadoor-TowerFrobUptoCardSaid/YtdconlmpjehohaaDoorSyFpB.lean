/- Package fr: what codes mean, the table of its functions. Conditions: those of each theorem. -/
import Derived.Test.YtdconlmpjehohaaDoorSyFpF
import Derived.Test.YtdconlmpjehohaaDoorSyN
import Derived.Test.YtdconlmpjehohaaDoorRefA
namespace Go.Proofs.YtdconlmpjehohaaDoor
open Go.RowKit Sx
set_option linter.unusedVariables false

/-- the exponent of the square root -/
def fpS : Nat := 1000602388805416848354447456433976039139220704984751971333014534031007912622709466110671907282253916009473568139947

/-- a word of a number -/
def fpWd (n i : Nat) : Nat := n / 18446744073709551616 ^ i % 18446744073709551616

theorem fpV_wd (n : Nat) : fpV n = .agg #[.int .u64 (fpWd n 0 : Nat), .int .u64 (fpWd n 1 : Nat), .int .u64 (fpWd n 2 : Nat), .int .u64 (fpWd n 3 : Nat), .int .u64 (fpWd n 4 : Nat), .int .u64 (fpWd n 5 : Nat)] := by
  unfold fpV fpWd
  rw [Nat.pow_zero, Nat.div_one, Nat.pow_one, show (18446744073709551616 : Nat) ^ 2 = 340282366920938463463374607431768211456 by decide, show (18446744073709551616 : Nat) ^ 3 = 6277101735386680763835789423207666416102355444464034512896 by decide, show (18446744073709551616 : Nat) ^ 4 = 115792089237316195423570985008687907853269984665640564039457584007913129639936 by decide, show (18446744073709551616 : Nat) ^ 5 = 2135987035920910082395021706169552114602704522356652769947041607822219725780640550022962086936576 by decide]

/-- variables: numbers, rows of bytes -/
structure Ev where
  num : Nat → Nat
  bys : Nat → List Nat
  inv : Nat → Nat
  sqr : Nat → Nat

structure Ev.Ok (R : Ev) : Prop where
  row : ∀ i, (R.bys i).length ≤ 140737488355328 ∧ ∀ x ∈ R.bys i, x < 256
  inv : ∀ a, R.inv a = a ^ fpI
  sqr : ∀ a, R.sqr a = a ^ fpS

/-- what a run is told -/
structure Fx where
  eqs : List (E × E × Bool) := []
  longs : List (Nat × Bool) := []
  lens : List (Nat × Nat) := []
  nlens : List (Nat × Nat) := []
  lts : List (E × Bool) := []
  flags : List (Nat × E × Bool) := []
  lim : Nat := 400
  small : List Nat := []

/-- 48 bytes from place 48 k on, around the end -/
def partL (l : List Nat) (k : Nat) : List Nat := match l with
  | [] => []
  | x :: r => (List.range 48).map fun i => (x :: r).getD ((48 * k + i) % (r.length + 1)) 0

theorem partL_ok {l : List Nat} {k : Nat} (h : ∀ x ∈ l, x < 256) : (partL l k).length ≤ 48 ∧ ∀ x ∈ partL l k, x < 256 := by
  cases l with
  | nil => exact ⟨by simp [partL], fun x hx => by cases hx⟩
  | cons y r =>
    refine ⟨by simp [partL], fun x hx => ?_⟩
    simp only [partL, List.mem_map] at hx
    obtain ⟨i, _, rfl⟩ := hx
    have hlt : (48 * k + i) % (r.length + 1) < (y :: r).length := by simp only [List.length_cons]; exact Nat.mod_lt _ (by omega)
    have e : (y :: r).getD ((48 * k + i) % (r.length + 1)) 0 = (y :: r)[(48 * k + i) % (r.length + 1)] := by simp only [List.getD, List.getElem?_eq_getElem hlt, Option.getD_some]
    rw [e]
    exact h _ (List.getElem_mem hlt)

/-- the rows of bytes that are handed in: a variable, a row's end, a row's beginning, a part around the end -/
def Ev.row0 (R : Ev) : E → List Nat
  | .dt i => R.bys i
  | .op k a b => match k with
    | 22 => match b with
      | .dt n => (Ev.row0 R a).drop n
      | _ => []
    | 23 => match b with
      | .dt n => (Ev.row0 R a).take n
      | _ => []
    | 28 => match b with
      | .dt n => partL (Ev.row0 R a) n
      | _ => []
    | _ => []

/-- the reference's numbers, just as they are -/
def wdE (R : Ev) : E → Nat
  | .dt i => 0
  | .op k a b => match k with
    | 40 => match a with
      | .dt n => n
      | _ => 0
    | 41 => be (R.row0 a)
    | 42 => wdE R a + wdE R b
    | 43 => wdE R a - wdE R b
    | 44 => wdE R a * wdE R b
    | 45 => wdE R a % fpQ
    | 46 => R.sqr (wdE R a) % fpQ
    | 47 => match a with
      | .dt i => R.num i
      | _ => 0
    | 48 => wdE R a / 2
    | _ => 0

/-- the rows of bytes: what is handed in; a number's bytes; two numbers' bytes -/
def Ev.row (R : Ev) : E → List Nat
  | .dt i => R.bys i
  | .op k a b => match k with
    | 24 => match b with
      | .dt n => digs (Nat.min n 96) (wdE R a)
      | _ => []
    | 25 => digs 48 (wdE R a) ++ digs 48 (wdE R b)
    | 22 => match b with
      | .dt n => (Ev.row R a).drop n
      | _ => []
    | 23 => match b with
      | .dt n => (Ev.row R a).take n
      | _ => []
    | 28 => match b with
      | .dt n => partL (Ev.row R a) n
      | _ => []
    | _ => []

def fpEv (R : Ev) : E → Nat
  | .dt i => R.num i
  | .op k a b => match k with
    | 0 => match a with
      | .dt n => n
      | _ => 0
    | 1 => fpEv R a + fpEv R b
    | 2 => fpEv R a * fpEv R b
    | 3 => fpEv R a + (fpQ - fpEv R b % fpQ)
    | 4 => fpQ - fpEv R a % fpQ
    | 5 => R.inv (fpEv R a)
    | 6 => R.sqr (fpEv R a)
    | 7 => be (R.row a)
    | 8 => match b with
      | .dt n => fpEv R a ^ n
      | _ => 0
    | _ => 0

theorem wdE_lit (R : Ev) (n : Nat) (b : E) : wdE R (.op 40 (.dt n) b) = n := by simp only [wdE]
theorem wdE_row (R : Ev) (a b : E) : wdE R (.op 41 a b) = be (R.row0 a) := by simp only [wdE]
theorem wdE_add (R : Ev) (a b : E) : wdE R (.op 42 a b) = wdE R a + wdE R b := by simp only [wdE]
theorem wdE_sub (R : Ev) (a b : E) : wdE R (.op 43 a b) = wdE R a - wdE R b := by simp only [wdE]
theorem wdE_mul (R : Ev) (a b : E) : wdE R (.op 44 a b) = wdE R a * wdE R b := by simp only [wdE]
theorem wdE_mod (R : Ev) (a b : E) : wdE R (.op 45 a b) = wdE R a % fpQ := by simp only [wdE]
theorem wdE_sqr (R : Ev) (a b : E) : wdE R (.op 46 a b) = R.sqr (wdE R a) % fpQ := by simp only [wdE]
theorem wdE_half (R : Ev) (a b : E) : wdE R (.op 48 a b) = wdE R a / 2 := by simp only [wdE]
theorem wdE_num (R : Ev) (i : Nat) (b : E) : wdE R (.op 47 (.dt i) b) = R.num i := by simp only [wdE]

theorem fpEv_add (R : Ev) (a b : E) : fpEv R (.op 1 a b) = fpEv R a + fpEv R b := by simp only [fpEv]
theorem fpEv_mul (R : Ev) (a b : E) : fpEv R (.op 2 a b) = fpEv R a * fpEv R b := by simp only [fpEv]
theorem fpEv_sub (R : Ev) (a b : E) : fpEv R (.op 3 a b) = fpEv R a + (fpQ - fpEv R b % fpQ) := by simp only [fpEv]
theorem fpEv_neg (R : Ev) (a b : E) : fpEv R (.op 4 a b) = fpQ - fpEv R a % fpQ := by simp only [fpEv]
theorem fpEv_inv (R : Ev) (a b : E) : fpEv R (.op 5 a b) = R.inv (fpEv R a) := by simp only [fpEv]
theorem fpEv_wide (R : Ev) (a b : E) : fpEv R (.op 7 a b) = be (R.row a) := by simp only [fpEv]
theorem fpEv_sqr (R : Ev) (a b : E) : fpEv R (.op 6 a b) = R.sqr (fpEv R a) := by simp only [fpEv]
theorem fpEv_pow (R : Ev) (a : E) (n : Nat) : fpEv R (.op 8 a (.dt n)) = fpEv R a ^ n := by simp only [fpEv]
theorem fpEv_lit (R : Ev) (n : Nat) (b : E) : fpEv R (.op 0 (.dt n) b) = n := by simp only [fpEv]

theorem fpCells_ok (n : Nat) : fpE n = .agg (fpCells n).toArray := by
  obtain ⟨x0, x1, x2, x3, x4, x5, hx⟩ := fpV_agg (n * fpR % fpQ) (fpE_lt _)
  unfold fpCells fpE
  rw [hx]

theorem fpCells_ex (n : Nat) : ∃ a b c d e f : Nat, fpCells n = [.int .u64 a, .int .u64 b, .int .u64 c, .int .u64 d, .int .u64 e, .int .u64 f] := by
  obtain ⟨x0, x1, x2, x3, x4, x5, hx⟩ := fpV_agg (n * fpR % fpQ) (fpE_lt _)
  unfold fpCells fpE
  rw [hx]
  exact ⟨_, _, _, _, _, _, rfl⟩

def fpWid : E → Nat
  | .dt _ => 6
  | .op k _ _ => match k with
    | 10 => 48
    | 12 => 1
    | 13 => 1
    | 14 => 1
    | 15 => 1
    | 16 => 1
    | 17 => 1
    | 18 => 1
    | 19 => 1
    | 20 => 0
    | _ => 6

/-- a plain number, shifted -/
def u64N (R : Ev) (a b : E) : Nat := (match a with
  | .dt i => R.num i
  | _ => 0) / 2 ^ (match b with
  | .dt j => j
  | _ => 0)

def fpDen (R : Ev) : E → List Value
  | .dt i => fpCells (R.num i)
  | .op k a b => match k with
    | 10 => nums .u8 (digs 48 (fpEv R a % fpQ))
    | 12 => [.int .i64 (R.row a).length]
    | 13 => [.int .u64 (be ((R.row a).take 8))]
    | 14 => [.int .u64 (fpWd (fpEv R a % fpQ) (match b with
      | .dt i => i
      | _ => 0) : Nat)]
    | 15 => [.int .u64 (fpEv R a % fpQ % 2 : Nat)]
    | 16 => [.int .u8 (u64N R a b % 256 : Nat)]
    | 17 => [.int .u64 (u64N R a b : Nat)]
    | 18 => [.int .u32 (wdE R a / 65536 ^ (match b with
      | .dt j => j
      | _ => 0) % 65536 : Nat)]
    | 19 => [.int .u32 (wdE R a % 2 : Nat)]
    | 20 => []
    | k => fpCells (fpEv R (.op k a b))

theorem fpDen_op (R : Ev) {k : Nat} (a b : E) (h1 : k ≠ 10) (h2 : k ≠ 12) (h4 : k ≠ 13) (h3 : k ≠ 20) (h5 : k ≠ 14) (h6 : k ≠ 15) (h7 : k ≠ 16) (h8 : k ≠ 17) (h9 : k ≠ 18) (h10 : k ≠ 19) : fpDen R (.op k a b) = fpCells (fpEv R (.op k a b)) := by
  simp only [fpDen]

theorem fpWid_op {k : Nat} (a b : E) (h1 : k ≠ 10) (h2 : k ≠ 12) (h4 : k ≠ 13) (h3 : k ≠ 20) (h5 : k ≠ 14) (h6 : k ≠ 15) (h7 : k ≠ 16) (h8 : k ≠ 17) (h9 : k ≠ 18) (h10 : k ≠ 19) : fpWid (.op k a b) = 6 := by
  simp only [fpWid]

def fpHeld (R : Ev) (a : E) (v : Value) (w : World) : Prop := ∃ A c, v = .slice A (R.row a).length c ∧ Rd w A (nums .u8 (R.row a)) ∧ (R.row a).length ≤ c ∧ ∀ g, blk A = some g → g < w.heap.size

/-- how many words a number may have -/
def wMax : E → Nat
  | .dt _ => 0
  | .op k _ _ => match k with
    | 40 => 24
    | 41 => 70368744177664
    | 42 => 25
    | 43 => 25
    | 44 => 49
    | 45 => 24
    | 46 => 24
    | 47 => 4
    | 48 => 25
    | _ => 0

/-- how many it has at the least -/
def wMin : E → Nat
  | .dt _ => 0
  | .op k a _ => match k with
    | 45 => 24
    | 40 => match a with
      | .dt n => match Nat.beq n fpQ with
        | true => 24
        | false => 0
      | _ => 0
    | _ => 0

/-- a word of a number -/
theorem word_le {l : List Nat} (h : W16 l) (j : Nat) : l.getD j 0 = le l / 65536 ^ j % 65536 := by
  have h1 := le_lo l j
  have h2 := lo_lt h j
  have h3 := getD_lt h j
  rw [le_drop] at h1
  rw [h1, Nat.mul_comm, Nat.add_mul_div_right _ _ (Nat.pow_pos (by omega)), Nat.div_eq_of_lt h2, Nat.zero_add]
  omega

def fpWds (R : Ev) (a : E) (v : Value) (w : World) : Prop := ∃ A c ws, v = .slice A ws.length c ∧ Rd w A (nums .u32 ws) ∧ ws.length ≤ c ∧ (∀ g, blk A = some g → g < w.heap.size) ∧ W16 ws ∧ le ws = wdE R a ∧ ws.length ≤ wMax a ∧ wMin a ≤ ws.length

/-- no room behind its end -/
def full (v : Value) : Prop := ∃ A n, v = .slice A n n

/-- a row of bytes (full, if it is marked so); a number in words -/
def fpHold (R : Ev) (e : E) (v : Value) (w : World) : Prop := (∃ a b, e = .op 20 a b ∧ fpHeld R a v w ∧ (b = .dt 1 → full v)) ∨ (∃ a b, e = .op 21 a b ∧ fpWds R a v w)

theorem hold20 {R : Ev} {a b : E} {v : Value} {w : World} (h : fpHold R (.op 20 a b) v w) : ∃ A c, v = .slice A (R.row a).length c ∧ Rd w A (nums .u8 (R.row a)) ∧ (R.row a).length ≤ c ∧ ∀ g, blk A = some g → g < w.heap.size := by
  rcases h with ⟨a', b', he, h, _⟩ | ⟨a', b', he, _⟩
  · injection he with _ e1 e2; subst e1 e2; exact h
  · injection he with h; cases h

theorem hold20f {R : Ev} {a : E} {v : Value} {w : World} (h : fpHold R (.op 20 a (.dt 1)) v w) : ∃ A, v = .slice A (R.row a).length (R.row a).length ∧ Rd w A (nums .u8 (R.row a)) ∧ ∀ g, blk A = some g → g < w.heap.size := by
  obtain ⟨A, c, rfl, h1, h2, h3⟩ := hold20 h
  rcases h with ⟨a', b', he, _, hf⟩ | ⟨a', b', he, _⟩
  · injection he with _ e1 e2; subst e1 e2
    obtain ⟨A', n, hv⟩ := hf rfl
    injection hv with e3 e4 e5
    refine ⟨A, ?_, h1, h3⟩
    rw [e5, ← e4]
  · injection he with h; cases h

theorem hold21 {R : Ev} {a b : E} {v : Value} {w : World} (h : fpHold R (.op 21 a b) v w) : fpWds R a v w := by
  rcases h with ⟨a', b', he, _, _⟩ | ⟨a', b', he, h⟩
  · injection he with h; cases h
  · injection he with _ e1 e2; subst e1 e2; exact h

theorem Ev.Ok.rows {R : Ev} (h : R.Ok) : ∀ e : E, (R.row e).length ≤ 140737488355328 ∧ ∀ x ∈ R.row e, x < 256
  | .dt i => h.row i
  | .op k a b => by
    unfold Ev.row
    split
    · split
      · exact ⟨by rw [digs_length]; exact Nat.le_trans (Nat.min_le_right _ 96) (by omega), digs_lt _ _⟩
      · exact ⟨Nat.zero_le _, fun x hx => by cases hx⟩
    · refine ⟨by rw [List.length_append, digs_length, digs_length]; omega, fun x hx => ?_⟩
      rcases List.mem_append.1 hx with hx | hx
      · exact digs_lt _ _ x hx
      · exact digs_lt _ _ x hx
    · split
      · exact ⟨by rw [List.length_drop]; have := (h.rows a).1; omega, fun x hx => (h.rows a).2 x (List.mem_of_mem_drop hx)⟩
      · exact ⟨Nat.zero_le _, fun x hx => by cases hx⟩
    · split
      · exact ⟨by rw [List.length_take]; have := (h.rows a).1; omega, fun x hx => (h.rows a).2 x (List.mem_of_mem_take hx)⟩
      · exact ⟨Nat.zero_le _, fun x hx => by cases hx⟩
    · split
      · exact ⟨Nat.le_trans (partL_ok (h.rows a).2).1 (by omega), (partL_ok (h.rows a).2).2⟩
      · exact ⟨Nat.zero_le _, fun x hx => by cases hx⟩
    · exact ⟨Nat.zero_le _, fun x hx => by cases hx⟩

/-- how long a row is, where that is known -/
def lenRow (L : List (Nat × Nat)) : E → Option Nat
  | .dt i => find L i
  | .op k a b => match k with
    | 24 => match b with
      | .dt n => some (Nat.min n 96)
      | _ => none
    | 25 => some 96
    | 22 => match b with
      | .dt n => match lenRow L a with
        | some m => some (m - n)
        | none => none
      | _ => none
    | 23 => match b with
      | .dt n => match lenRow L a with
        | some m => some (Nat.min n m)
        | none => none
      | _ => none
    | _ => none

theorem lenRow_ok {R : Ev} {L : List (Nat × Nat)} (hL : ∀ x ∈ L, (R.bys x.1).length = x.2) : ∀ {e : E} {n : Nat}, lenRow L e = some n → (R.row e).length = n
  | .dt i, n, h => hL _ (find_mem h)
  | .op k a b, n, h => by
    unfold lenRow at h
    split at h
    · split at h
      · rename_i m
        injection h with h; subst h
        show (digs (Nat.min m 96) (wdE R a)).length = _
        exact digs_length _ _
      · cases h
    · have h := Option.some.inj h
      show (digs 48 (wdE R a) ++ digs 48 (wdE R b)).length = n
      rw [List.length_append, digs_length, digs_length]
      exact h
    · split at h
      · rename_i d
        split at h
        · rename_i m hm
          injection h with h; subst h
          show ((R.row a).drop d).length = m - d
          rw [List.length_drop, lenRow_ok hL hm]
        · cases h
      · cases h
    · split at h
      · rename_i d
        split at h
        · rename_i m hm
          injection h with h; subst h
          show ((R.row a).take d).length = Nat.min d m
          rw [List.length_take, lenRow_ok hL hm]
        · cases h
      · cases h
    · cases h

theorem ownBlock_slice (A : Option Addr) (n c : Nat) : (Value.slice A n c).ownBlock = blk A := by cases A <;> rfl

theorem fpCells_len (n : Nat) : (fpCells n).length = 6 := by obtain ⟨a, b, c, d, e, f, h⟩ := fpCells_ex n; rw [h]; rfl
theorem fpCells_one (n : Nat) : ∀ x ∈ fpCells n, x.oneCell' = true := fun x hx => by
  obtain ⟨a, b, c, d, e, f, h⟩ := fpCells_ex n
  rw [h] at hx
  simp at hx
  rcases hx with rfl | rfl | rfl | rfl | rfl | rfl <;> rfl

theorem fpDen_len (R : Ev) (e : E) : (fpDen R e).length = fpWid e := by
  cases e with
  | dt i => exact fpCells_len _
  | op k a b =>
    by_cases h1 : k = 10
    · subst h1; show (nums .u8 (digs 48 (fpEv R a % fpQ))).length = 48; rw [nums_length, digs_length]
    by_cases h2 : k = 12
    · subst h2; rfl
    by_cases h4 : k = 13
    · subst h4; rfl
    by_cases h5 : k = 14
    · subst h5; rfl
    by_cases h6 : k = 15
    · subst h6; rfl
    by_cases h7 : k = 16
    · subst h7; rfl
    by_cases h8 : k = 17
    · subst h8; rfl
    by_cases h9 : k = 18
    · subst h9; rfl
    by_cases h10 : k = 19
    · subst h10; rfl
    by_cases h3 : k = 20
    · subst h3; rfl
    rw [fpDen_op R a b h1 h2 h4 h3 h5 h6 h7 h8 h9 h10, fpWid_op a b h1 h2 h4 h3 h5 h6 h7 h8 h9 h10, fpCells_len]

theorem fpDen_one (R : Ev) (e : E) : ∀ x ∈ fpDen R e, x.oneCell' = true := by
  cases e with
  | dt i => exact fpCells_one _
  | op k a b =>
    by_cases h1 : k = 10
    · subst h1; exact nums_one _ (digs 48 (fpEv R a % fpQ))
    by_cases h2 : k = 12
    · subst h2; intro x hx; cases hx with
      | head => rfl
      | tail _ h => cases h
    by_cases h4 : k = 13
    · subst h4; intro x hx; cases hx with
      | head => rfl
      | tail _ h => cases h
    by_cases h5 : k = 14
    · subst h5; intro x hx; cases hx with
      | head => rfl
      | tail _ h => cases h
    by_cases h6 : k = 15
    · subst h6; intro x hx; cases hx with
      | head => rfl
      | tail _ h => cases h
    by_cases h7 : k = 16
    · subst h7; intro x hx; cases hx with
      | head => rfl
      | tail _ h => cases h
    by_cases h8 : k = 17
    · subst h8; intro x hx; cases hx with
      | head => rfl
      | tail _ h => cases h
    by_cases h9 : k = 18
    · subst h9; intro x hx; cases hx with
      | head => rfl
      | tail _ h => cases h
    by_cases h10 : k = 19
    · subst h10; intro x hx; cases hx with
      | head => rfl
      | tail _ h => cases h
    by_cases h3 : k = 20
    · subst h3; intro x hx; cases hx
    rw [fpDen_op R a b h1 h2 h4 h3 h5 h6 h7 h8 h9 h10]
    exact fpCells_one _

def fpDenS (R : Ev) : Den where
  den := fpDen R
  wid := fpWid
  len := fpDen_len R
  one := fpDen_one R
  hold := fpHold R
  hone := fun e v w h => by
    rcases h with ⟨a, b, rfl, ⟨A, c, rfl, _⟩, _⟩ | ⟨a, b, rfl, A, c, ws, rfl, _⟩
    · rfl
    · rfl
  hlt := fun e v w g h hg => by
    rcases h with ⟨a, b, rfl, ⟨A, c, rfl, _, _, h4⟩, _⟩ | ⟨a, b, rfl, A, c, ws, rfl, _, _, h4, _⟩
    · rw [ownBlock_slice] at hg
      exact h4 g hg
    · rw [ownBlock_slice] at hg
      exact h4 g hg
  keep := fun e v w w' h hs hk => by
    rcases h with ⟨a, b, rfl, ⟨A, c, rfl, h2, h3, h4⟩, hf⟩ | ⟨a, b, rfl, A, c, ws, rfl, h2, h3, h4, h5⟩
    · refine .inl ⟨a, b, rfl, ⟨A, c, rfl, h2.keep hs fun b o hb hlt => ?_, h3, fun g hg => Nat.lt_of_lt_of_le (h4 g hg) hs⟩, hf⟩
      have := hk b (by rw [ownBlock_slice]; exact hb)
      exact World.cell?_of_block (a := ⟨b, o, none⟩) this
    · refine .inr ⟨a, b, rfl, A, c, ws, rfl, h2.keep hs fun b o hb hlt => ?_, h3, fun g hg => Nat.lt_of_lt_of_le (h4 g hg) hs, h5⟩
      have := hk b (by rw [ownBlock_slice]; exact hb)
      exact World.cell?_of_block (a := ⟨b, o, none⟩) this

def fpFld (R : Ev) : Fld where
  q := fpQ
  pos := by decide
  ev := fpEv R
  lit := fpEv_lit R
  add := fpEv_add R
  mul := fpEv_mul R
  sub := fpEv_sub R
  neg := fun a b => fpEv_neg R a b

/-- what the sums of products are made of -/
def fpAtom : E → Option Nat
  | .dt i => match Nat.blt i 1000 with
    | true => some (2 * i)
    | false => none
  | .op k a _ => match k with
    | 7 => match a with
      | .dt i => some (2 * i + 1)
      | .op 28 (.dt i) (.dt n) => match Nat.blt n 64 with
        | true => some (2 * (1000 + 64 * i + n))
        | false => none
      | _ => none
    | _ => none

def fpRho (R : Ev) (j : Nat) : Int := if j % 2 = 0 then (if j / 2 < 1000 then (R.num (j / 2) : Int) else (be (partL (R.bys ((j / 2 - 1000) / 64)) ((j / 2 - 1000) % 64)) : Int)) else (be (R.bys (j / 2)) : Int)

theorem fpAtom_ok (R : Ev) (e : E) (j : Nat) (h : fpAtom e = some j) : ((fpFld R).ev e : Int) % ((fpFld R).q : Int) = fpRho R j % ((fpFld R).q : Int) := by
  unfold fpAtom at h
  split at h
  · rename_i i
    split at h
    · rename_i hi
      injection h with h; subst h
      have hi : i < 1000 := Nat.le_of_ble_eq_true hi
      have : fpRho R (2 * i) = (R.num i : Int) := by unfold fpRho; rw [if_pos (by omega), if_pos (by omega), show 2 * i / 2 = i by omega]
      rw [this]; rfl
    · cases h
  · split at h
    · split at h
      · rename_i i
        injection h with h; subst h
        have : fpRho R (2 * i + 1) = (be (R.bys i) : Int) := by unfold fpRho; rw [if_neg (by omega), show (2 * i + 1) / 2 = i by omega]
        rw [this]; rfl
      · rename_i i n
        split at h
        · rename_i hn
          injection h with h; subst h
          have hn : n < 64 := Nat.le_of_ble_eq_true hn
          have : fpRho R (2 * (1000 + 64 * i + n)) = (be (partL (R.bys i) n) : Int) := by
            unfold fpRho
            rw [if_pos (by omega), if_neg (by omega), show (2 * (1000 + 64 * i + n) / 2 - 1000) / 64 = i by omega, show (2 * (1000 + 64 * i + n) / 2 - 1000) % 64 = n by omega]
          rw [this]; rfl
        · cases h
      · cases h
    · cases h

def findF : List (E × E × Bool) → E → E → Option Bool
  | [], _, _ => none
  | (x, y, r) :: l, a, b => match E.eqb x a, E.eqb y b with
    | true, true => some r
    | _, _ => findF l a b

theorem findF_mem : ∀ {l : List (E × E × Bool)} {a b : E} {r : Bool}, findF l a b = some r → (a, b, r) ∈ l
  | [], a, b, r, h => by cases h
  | (x, y, s) :: l, a, b, r, h => by
    simp only [findF] at h
    split at h
    · rename_i h1 h2
      injection h with h; subst h
      rw [E.eqb_eq h1, E.eqb_eq h2]; simp
    · exact List.mem_cons_of_mem _ (findF_mem h)

/-- are two numbers alike? -/
def fpSameE (F : List (E × E × Bool)) (a b : E) : Option Bool := match E.eqb a b with
  | true => some true
  | false => match findF F a b with
    | some r => some r
    | none => match sameP fpQ fpAtom a b with
      | true => some true
      | false => none

/-- the facts that a run is given -/
def FpFacts (R : Ev) (F : List (E × E × Bool)) : Prop := ∀ x ∈ F, decide (fpEv R x.1 % fpQ = fpEv R x.2.1 % fpQ) = x.2.2

theorem fpSameE_ok {R : Ev} {F : List (E × E × Bool)} (hF : FpFacts R F) {a b : E} {r : Bool} (h : fpSameE F a b = some r) : decide (fpEv R a % fpQ = fpEv R b % fpQ) = r := by
  unfold fpSameE at h
  split at h
  · rename_i he
    injection h with h; subst h
    rw [E.eqb_eq he]; simp
  · split at h
    · rename_i s hs
      injection h with h; subst h
      exact hF _ (findF_mem hs)
    · split at h
      · rename_i hs
        injection h with h; subst h
        have := sameP_ok (fpFld R) (fpAtom_ok R) hs
        exact decide_eq_true this
      · cases h

def isFp : E → Bool
  | .dt _ => true
  | .op k _ _ => Nat.blt k 10

theorem isFp_den {R : Ev} {e : E} (h : isFp e = true) : fpDen R e = fpCells (fpEv R e) := by
  cases e with
  | dt i => rfl
  | op k a b =>
    have hk : k < 10 := Nat.le_of_ble_eq_true h
    exact fpDen_op R a b (by omega) (by omega) (by omega) (by omega) (by omega) (by omega) (by omega) (by omega) (by omega) (by omega)

def fpEl : List Atom → Option E
  | [.el e] => match isFp e with
    | true => some e
    | false => none
  | [.int .u64 (.ofNat 0), .int .u64 (.ofNat 0), .int .u64 (.ofNat 0), .int .u64 (.ofNat 0), .int .u64 (.ofNat 0), .int .u64 (.ofNat 0)] => some (.op 0 (.dt 0) (.dt 0))
  | _ => none

theorem fpEl_ok {R : Ev} {σ : Env} {xs : List Atom} {e : E} {v : Value} (h : fpEl xs = some e) (hv : (V.agg xs).Is (fpDenS R) σ v) : v = fpE (fpEv R e) := by
  obtain ⟨l, h1, rfl⟩ := hv
  unfold fpEl at h
  split at h
  · rename_i x
    cases hx : isFp x with
    | false => rw [hx] at h; cases h
    | true =>
      rw [hx] at h
      injection h with h; subst h
      have : cellsL (fpDenS R) σ [.el x] = some (fpDen R x ++ []) := rfl
      rw [this] at h1
      injection h1 with h1; subst h1
      rw [List.append_nil, isFp_den hx, ← fpCells_ok]
  · injection h with h; subst h
    injection h1 with h1; subst h1
    exact (fpE_zero).symm
  · cases h

theorem elR_ok {R : Ev} {e : E} (he : isFp e = true) (b : Nat) (w : World) : (Res.one (.dt (.agg [.el e]))).Is (fpDenS R) b w (fpE (fpEv R e)) := by
  refine ⟨fpDen R e ++ [], rfl, ?_⟩
  rw [List.append_nil, isFp_den he, ← fpCells_ok]

def boolR (b : Bool) : Res := .one (.dt (.one (.bool b)))

/-- the elements that a call is handed -/
def fp1 : List CArg → Option E
  | [.dt (.agg xs)] => fpEl xs
  | _ => none

def fp2 : List CArg → Option (E × E)
  | [.dt (.agg xs), .dt (.agg bs)] => match fpEl xs, fpEl bs with
    | some a, some b => some (a, b)
    | _, _ => none
  | _ => none

theorem fp1_ok {R : Ev} {σ : Env} {w : World} {cs : List CArg} {vs : List Value} {e : E} (h : fp1 cs = some e) (hv : ArgsIs (fpDenS R) σ w cs vs) : vs = [fpE (fpEv R e)] := by
  unfold fp1 at h
  split at h
  · rename_i xs
    obtain ⟨v, ws, rfl, h1, h2⟩ := hv
    have h2 : ws = [] := h2
    subst h2
    rw [fpEl_ok h h1]
  · cases h

theorem fp2_ok {R : Ev} {σ : Env} {w : World} {cs : List CArg} {vs : List Value} {a b : E} (h : fp2 cs = some (a, b)) (hv : ArgsIs (fpDenS R) σ w cs vs) : vs = [fpE (fpEv R a), fpE (fpEv R b)] := by
  unfold fp2 at h
  split at h
  · rename_i xs bs
    split at h
    · rename_i x y h3 h4
      injection h with h; injection h with e1 e2; subst e1 e2
      obtain ⟨v, ws, rfl, h1, u, us, rfl, h2, h5⟩ := hv
      have h5 : us = [] := h5
      subst h5
      rw [fpEl_ok h3 h1, fpEl_ok h4 h2]
    · cases h
  · cases h

abbrev Entry := List CArg → Option Res

/-- an entry of the table is right -/
def EntryOk (D : Den) (I : World → Prop) (f : FuncId) (g : Entry) : Prop :=
  isGo Tryd.prog f = true ∧ ∀ cs r, g cs = some r → ∀ σ w vs, ArgsIs D σ w cs vs → I w → Calls Tryd.prog f vs.toArray w fun e w' => ∃ v, e = .returned v ∧ Below w.heap.size w w' ∧ r.Is D w.heap.size w' v

def ofEntries (l : List (Nat × Entry)) (f : FuncId) (cs : List CArg) : Option Res := match find l f with
  | some g => g cs
  | none => none

theorem ofEntries_ok {D : Den} {I : World → Prop} {l : List (Nat × Entry)} (h : ∀ x ∈ l, EntryOk D I x.1 x.2) {f : FuncId} {cs : List CArg} {r : Res} (hr : ofEntries l f cs = some r) :
    isGo Tryd.prog f = true ∧ ∀ σ w vs, ArgsIs D σ w cs vs → I w → Calls Tryd.prog f vs.toArray w fun e w' => ∃ v, e = .returned v ∧ Below w.heap.size w w' ∧ r.Is D w.heap.size w' v := by
  unfold ofEntries at hr
  cases hf : find l f with
  | none => rw [hf] at hr; cases hr
  | some g =>
    rw [hf] at hr
    obtain ⟨h1, h2⟩ := h _ (find_mem hf)
    exact ⟨h1, h2 cs r hr⟩

theorem calls_el {R : Ev} {f : FuncId} {vs : Array Value} {w : World} {e : E} (he : isFp e = true) (h : Calls Tryd.prog f vs w fun x w' => x = .returned (fpE (fpEv R e)) ∧ Below w.heap.size w w') :
    Calls Tryd.prog f vs w fun x w' => ∃ v, x = .returned v ∧ Below w.heap.size w w' ∧ (Res.one (.dt (.agg [.el e]))).Is (fpDenS R) w.heap.size w' v :=
  h.mono fun x w' ⟨h1, h2⟩ => ⟨_, h1, h2, elR_ok he _ _⟩

theorem calls_bool {D : Den} {f : FuncId} {vs : Array Value} {w : World} {b : Bool} (h : Calls Tryd.prog f vs w fun x w' => x = .returned (.bool b) ∧ Below w.heap.size w w') :
    Calls Tryd.prog f vs w fun x w' => ∃ v, x = .returned v ∧ Below w.heap.size w w' ∧ (boolR b).Is D w.heap.size w' v :=
  h.mono fun x w' ⟨h1, h2⟩ => ⟨_, h1, h2, rfl⟩

def fpOfE : Entry
  | [.dt (.one (.int .u64 (.ofNat n)))] => match Nat.blt n 18446744073709551616 with
    | true => some (.one (.dt (.agg [.el (.op 0 (.dt n) (.dt 0))])))
    | false => none
  | _ => none

theorem fpOfE_ok (R : Ev) : EntryOk (fpDenS R) FpTab 22 fpOfE := by
  refine ⟨by kernel_rfl, fun cs r h σ w vs hv hI => ?_⟩
  unfold fpOfE at h
  split at h
  · rename_i n
    cases hn : Nat.blt n 18446744073709551616 with
    | false => rw [hn] at h; cases h
    | true =>
      rw [hn] at h
      injection h with h; subst h
      obtain ⟨v, ws, rfl, h1, h2⟩ := hv
      have h2 : ws = [] := h2
      subst h2
      injection h1 with h1; injection h1 with h1; subst h1
      refine calls_el (e := .op 0 (.dt n) (.dt 0)) rfl ?_
      rw [fpEv_lit]
      exact fp_of_calls n w hI (Nat.le_of_ble_eq_true hn)
  · cases h

def fpBin (k : Nat) : Entry := fun cs => match fp2 cs with
  | some (a, b) => some (.one (.dt (.agg [.el (.op k a b)])))
  | none => none

def fpUn (k : Nat) : Entry := fun cs => match fp1 cs with
  | some a => some (.one (.dt (.agg [.el (.op k a (.dt 0))])))
  | none => none

theorem fpBin_ok {R : Ev} {k : Nat} (hk : Nat.blt k 10 = true) {f : FuncId} (hf : isGo Tryd.prog f = true) (c : Nat → Nat → Nat) (hc : ∀ a b, fpEv R (.op k a b) = c (fpEv R a) (fpEv R b))
    (h : ∀ a b w, FpTab w → Calls Tryd.prog f #[fpE a, fpE b] w fun x w' => x = .returned (fpE (c a b)) ∧ Below w.heap.size w w') :
    EntryOk (fpDenS R) FpTab f (fpBin k) := by
  refine ⟨hf, fun cs r hr σ w vs hv hI => ?_⟩
  unfold fpBin at hr
  split at hr
  · rename_i a b hc'
    injection hr with hr; subst hr
    rw [fp2_ok hc' hv]
    refine calls_el (e := .op k a b) hk ?_
    rw [hc]
    exact h _ _ w hI
  · cases hr

theorem fpUn_ok {R : Ev} {k : Nat} (hk : Nat.blt k 10 = true) {f : FuncId} (hf : isGo Tryd.prog f = true) (c : Nat → Nat) (hc : ∀ a b, fpEv R (.op k a b) = c (fpEv R a))
    (h : ∀ a w, FpTab w → Calls Tryd.prog f #[fpE a] w fun x w' => x = .returned (fpE (c a)) ∧ Below w.heap.size w w') :
    EntryOk (fpDenS R) FpTab f (fpUn k) := by
  refine ⟨hf, fun cs r hr σ w vs hv hI => ?_⟩
  unfold fpUn at hr
  split at hr
  · rename_i a hc'
    injection hr with hr; subst hr
    rw [fp1_ok hc' hv]
    refine calls_el (e := .op k a (.dt 0)) hk ?_
    rw [hc]
    exact h _ w hI
  · cases hr

def fpSquareE : Entry := fun cs => match fp1 cs with
  | some a => some (.one (.dt (.agg [.el (.op 2 a a)])))
  | none => none

theorem fpSquareE_ok (R : Ev) : EntryOk (fpDenS R) FpTab 75 fpSquareE := by
  refine ⟨by kernel_rfl, fun cs r hr σ w vs hv hI => ?_⟩
  unfold fpSquareE at hr
  split at hr
  · rename_i a hc
    injection hr with hr; subst hr
    rw [fp1_ok hc hv]
    refine calls_el (e := .op 2 a a) rfl ?_
    rw [fpEv_mul]
    exact fp_square_calls _ w hI
  · cases hr

def fpBytesE : Entry := fun cs => match fp1 cs with
  | some a => some (.one (.dt (.agg [.el (.op 10 a (.dt 0))])))
  | none => none

theorem fpBytesE_ok (R : Ev) : EntryOk (fpDenS R) FpTab 24 fpBytesE := by
  refine ⟨by kernel_rfl, fun cs r hr σ w vs hv hI => ?_⟩
  unfold fpBytesE at hr
  split at hr
  · rename_i a hc
    injection hr with hr; subst hr
    rw [fp1_ok hc hv]
    exact (fp_bytes_calls (fpEv R a) w hI).mono fun x w' ⟨h1, h2⟩ => ⟨_, h1, h2, nums .u8 (digs 48 (fpEv R a % fpQ)) ++ [], rfl, by rw [List.append_nil]⟩
  · cases hr

/-- the functions of the package that need no powers -/
def fpLow (F : List (E × E × Bool)) : List (Nat × Entry) :=
  [(49, fpBin 1), (45, fpBin 2), (46, fpBin 3), (23, fpUn 4),
   (75, fpSquareE), (24, fpBytesE),
   (22, fpOfE)]

theorem fpLow_ok {R : Ev} {F : List (E × E × Bool)} (hR : R.Ok) (hF : FpFacts R F) : ∀ x ∈ fpLow F, EntryOk (fpDenS R) FpTab x.1 x.2 := by
  unfold fpLow
  simp only [List.forall_mem_cons]
  exact ⟨fpBin_ok rfl (by kernel_rfl) (fun a b => a + b) (fpEv_add R) fp_addE, fpBin_ok rfl (by kernel_rfl) (fun a b => a * b) (fpEv_mul R) fp_mulE, fpBin_ok rfl (by kernel_rfl) (fun a b => a + (fpQ - b % fpQ)) (fpEv_sub R) fp_subE,
    fpUn_ok rfl (by kernel_rfl) (fun a => fpQ - a % fpQ) (fpEv_neg R) fp_neg_calls, fpSquareE_ok R, fpBytesE_ok R, fpOfE_ok R, fun x hx => by cases hx⟩

/-- what is known by name: 0 odd; 1 greater than its negative; 10 + i: its word i is its negative's; 20 + i: it is greater -/
def flagV (R : Ev) (k : Nat) (e : E) : Bool := match k with
  | 0 => decide (fpEv R e % fpQ % 2 = 1)
  | 1 => decide ((fpQ - fpEv R e % fpQ) % fpQ < fpEv R e % fpQ)
  | 2 => decide (wdE R e % 2 = 1)
  | k => match Nat.blt k 20 with
    | true => decide (fpWd (fpEv R e % fpQ) (k - 10) = fpWd ((fpQ - fpEv R e % fpQ) % fpQ) (k - 10))
    | false => decide (fpWd ((fpQ - fpEv R e % fpQ) % fpQ) (k - 20) < fpWd (fpEv R e % fpQ) (k - 20))

def findG : List (Nat × E × Bool) → Nat → E → Option Bool
  | [], _, _ => none
  | (x, y, r) :: l, a, b => match Nat.beq x a, E.eqb y b with
    | true, true => some r
    | _, _ => findG l a b

theorem findG_mem : ∀ {l : List (Nat × E × Bool)} {a : Nat} {b : E} {r : Bool}, findG l a b = some r → (a, b, r) ∈ l
  | [], a, b, r, h => by cases h
  | (x, y, s) :: l, a, b, r, h => by
    simp only [findG] at h
    split at h
    · rename_i h1 h2
      injection h with h; subst h
      rw [Nat.eq_of_beq_eq_true h1, E.eqb_eq h2]; simp
    · exact List.mem_cons_of_mem _ (findG_mem h)

def zeros6 : List Atom → Option (List Atom)
  | .int .u64 (.ofNat 0) :: .int .u64 (.ofNat 0) :: .int .u64 (.ofNat 0) :: .int .u64 (.ofNat 0) :: .int .u64 (.ofNat 0) :: .int .u64 (.ofNat 0) :: r => some r
  | _ => none

theorem zeros6_ok {xs r : List Atom} (h : zeros6 xs = some r) : xs = .int .u64 (.ofNat 0) :: .int .u64 (.ofNat 0) :: .int .u64 (.ofNat 0) :: .int .u64 (.ofNat 0) :: .int .u64 (.ofNat 0) :: .int .u64 (.ofNat 0) :: r := by
  unfold zeros6 at h
  split at h
  · injection h with h; rw [h]
  · cases h

/-- numbers, one behind the other -/
def fpEls : Nat → List Atom → Option (List E)
  | 0, [] => some []
  | n + 1, .el e :: r => match isFp e, fpEls n r with
    | true, some es => some (e :: es)
    | _, _ => none
  | n + 1, xs => match zeros6 xs with
    | some r => match fpEls n r with
      | some es => some (.op 0 (.dt 0) (.dt 0) :: es)
      | none => none
    | none => none
  | _, _ => none

theorem fpCells_zero : fpCells 0 = [.int .u64 0, .int .u64 0, .int .u64 0, .int .u64 0, .int .u64 0, .int .u64 0] := by
  unfold fpCells; rw [fpE_zero]

theorem fpEls_ok {R : Ev} {σ : Env} : ∀ {n : Nat} {xs : List Atom} {es : List E} {l : List Value}, fpEls n xs = some es → cellsL (fpDenS R) σ xs = some l → l = (es.map (fpEv R)).flatMap fpCells ∧ es.length = n := by
  intro n
  induction n with
  | zero =>
    intro xs es l h hl
    cases xs with
    | nil =>
      have h : some [] = some es := h
      injection h with h; subst h
      injection hl with hl; subst hl
      exact ⟨rfl, rfl⟩
    | cons x r => cases x <;> cases h
  | succ n ih =>
    intro xs es l h hl
    unfold fpEls at h
    split at h
    · exfalso; omega
    · rename_i e r heq
      split at h
      · rename_i es' he hes
        injection h with h; subst h
        obtain ⟨y, z, h1, h2, rfl⟩ := cellsL_cons hl
        have h1 : some (fpDen R e) = some y := h1
        injection h1 with h1; subst h1
        injection heq with heq; subst heq
        obtain ⟨i1, i2⟩ := ih hes h2
        exact ⟨by rw [i1, isFp_den he, List.map_cons, List.flatMap_cons], by rw [List.length_cons, i2]⟩
      · cases h
    · rename_i m heq hne
      have heq : n = m := by omega
      subst heq
      split at h
      · rename_i r hz
        split at h
        · rename_i es' hes
          injection h with h; subst h
          rw [zeros6_ok hz] at hl
          obtain ⟨y0, z0, a0, g0, rfl⟩ := cellsL_cons hl
          obtain ⟨y1, z1, a1, g1, rfl⟩ := cellsL_cons g0
          obtain ⟨y2, z2, a2, g2, rfl⟩ := cellsL_cons g1
          obtain ⟨y3, z3, a3, g3, rfl⟩ := cellsL_cons g2
          obtain ⟨y4, z4, a4, g4, rfl⟩ := cellsL_cons g3
          obtain ⟨y5, z5, a5, g5, rfl⟩ := cellsL_cons g4
          injection a0 with a0; injection a1 with a1; injection a2 with a2; injection a3 with a3; injection a4 with a4; injection a5 with a5
          subst a0; subst a1; subst a2; subst a3; subst a4; subst a5
          obtain ⟨i1, i2⟩ := ih hes g5
          exact ⟨by rw [i1, List.map_cons, List.flatMap_cons, fpEv_lit, fpCells_zero]; rfl, by rw [List.length_cons, i2]⟩
        · cases h
      · cases h
    · cases h

/-- are they alike, each? -/
def fpSameL (F : List (E × E × Bool)) : List E → List E → Option Bool
  | [], [] => some true
  | a :: l, b :: m => match fpSameE F a b with
    | some true => fpSameL F l m
    | some false => some false
    | none => none
  | _, _ => none

theorem fpSameL_ok {R : Ev} {F : List (E × E × Bool)} (hF : FpFacts R F) : ∀ {l m : List E} {r : Bool}, fpSameL F l m = some r → decide ((l.map (fpEv R)).map (· % fpQ) = (m.map (fpEv R)).map (· % fpQ)) = r
  | [], [], r, h => by
    have h : some true = some r := h
    injection h with h
  | [], b :: m, r, h => by cases h
  | a :: l, [], r, h => by cases h
  | a :: l, b :: m, r, h => by
    unfold fpSameL at h
    cases hs : fpSameE F a b with
    | none => rw [hs] at h; cases h
    | some c =>
      rw [hs] at h
      have h1 := fpSameE_ok hF hs
      rw [List.map_cons, List.map_cons, List.map_cons, List.map_cons]
      cases c with
      | false =>
        injection h with h; subst h
        refine decide_eq_false fun e => ?_
        injection e with e1 e2
        exact of_decide_eq_false h1 e1
      | true =>
        have h2 := fpSameL_ok hF h
        rw [← h2, decide_eq_decide]
        have h1 := of_decide_eq_true h1
        constructor
        · intro e; injection e with e1 e2
        · intro e; rw [e, h1]

/-- == -/
def fpEqV (F : List (E × E × Bool)) (ty : TypeId) : V → V → Option Bool
  | .agg xs, .agg bs => match find fpFlats ty with
    | some n => match fpEls n xs, fpEls n bs with
      | some l, some m => fpSameL F l m
      | _, _ => none
    | none => match Nat.beq ty 53 with
      | true => match xs, bs with
        | [.el (.op 10 a _)], [.el (.op 10 b _)] => fpSameE F a b
        | _, _ => none
      | false => none
  | .one (.bool a), .one (.bool b) => match Nat.beq ty 4 with
    | true => some (match a, b with
      | true, true => true
      | false, false => true
      | _, _ => false)
    | false => none
  | _, _ => none

/-- the length of a row against a number -/
def lenEq (L N : List (Nat × Nat)) : V → V → Option Bool
  | .one (.el (.op 12 a _)), .one (.int .i64 (.ofNat m)) => match lenRow L a with
    | some n => some (Nat.beq n m)
    | none => match a with
      | .dt i => match find N i with
        | some n => match Nat.beq n m with
          | true => some false
          | false => none
        | none => none
      | _ => none
  | _, _ => none

/-- words of a number -/
def wdO (G : List (Nat × E × Bool)) (op : BinOp) (x y : V) : Option V := match x, y with
  | .one (.el (.op 17 (.dt i) (.dt 0))), .one (.int _ (.ofNat n)) => match op, Nat.blt n 64 with
    | .shr, true => some (.one (.el (.op 17 (.dt i) (.dt n))))
    | _, _ => none
  | .one (.el (.op 18 a b)), .one (.int .u32 (.ofNat 1)) => match op, b with
    | .and, .dt 0 => some (.one (.el (.op 19 a (.dt 0))))
    | _, _ => none
  | .one (.el (.op 19 a _)), .one (.int .u32 (.ofNat 1)) => match op with
    | .eql => match findG G 2 a with
      | some b => some (.one (.bool b))
      | none => none
    | _ => none
  | .one (.el (.op 14 a b)), .one (.int .u64 (.ofNat 1)) => match op, b with
    | .and, .dt 0 => some (.one (.el (.op 15 a (.dt 0))))
    | _, _ => none
  | .one (.el (.op 15 a _)), .one (.int .u64 (.ofNat 1)) => match op with
    | .eql => match findG G 0 a with
      | some b => some (.one (.bool b))
      | none => none
    | _ => none
  | .one (.el (.op 14 a (.dt i))), .one (.el (.op 14 (.op 4 b _) (.dt j))) => match E.eqb a b, Nat.beq i j, Nat.blt i 6 with
    | true, true, true => match op with
      | .neq => match findG G (10 + i) a with
        | some r => some (.one (.bool (!r)))
        | none => none
      | .gtr => match findG G (20 + i) a with
        | some r => some (.one (.bool r))
        | none => none
      | _ => none
    | _, _, _ => none
  | _, _ => none

def fpBinO (X : Fx) (op : BinOp) (ty : TypeId) (x y : V) : Option V := match x, y with
  | .one (.int k a), .one (.int k' b) => numO op k a k' b
  | x, y => match op with
    | .eql => match fpEqV X.eqs ty x y with
      | some b => some (.one (.bool b))
      | none => match lenEq X.lens X.nlens x y with
        | some b => some (.one (.bool b))
        | none => wdO X.flags .eql x y
    | .neq => match fpEqV X.eqs ty x y with
      | some b => some (.one (.bool (!b)))
      | none => match lenEq X.lens X.nlens x y with
        | some b => some (.one (.bool (!b)))
        | none => wdO X.flags .neq x y
    | op => match x, y with
      | .one (.el (.op 12 (.dt i) _)), .one (.int .i64 (.ofNat m)) => match op, Nat.beq m X.lim with
        | .gtr, true => match find X.longs i with
          | some b => some (.one (.bool b))
          | none => none
        | _, _ => none
      | x, y => wdO X.flags op x y

def notO : UnOp → V → Option V
  | .not, .one (.bool b) => some (.one (.bool (!b)))
  | _, _ => none

def lenO : CArg → Option V
  | .held (.op 20 (.op 24 (.op 40 (.dt n) _) (.dt m)) _) => some (.one (.int .i64 (.ofNat (Nat.min m 96))))
  | .held (.op 20 a _) => some (.one (.el (.op 12 a (.dt 0))))
  | .dt (.one .nils) => some (.one (.int .i64 0))
  | _ => none

def u64s : List Nat → List Atom
  | [] => []
  | n :: l => .int .u64 (.ofNat n) :: u64s l

def fpGlob (g : Nat) : Option (List Atom) := match Nat.beq g 1 with
  | true => some (u64s [13402431016077863595, 2210141511517208575, 7435674573564081700, 7239337960414712511, 5412103778470702295, 1873798617647539866])
  | false => match Nat.beq g 0 with
    | true => some (u64s [17644856173732828998, 754043588434789617, 10224657059481499349, 7488229067341005760, 11130996698012816685, 1267921511277847466])
    | false => none

def rowCut0 (a : E) (lo : Nat) : Option Nat → E
  | some h => .op 22 (.op 23 a (.dt h)) (.dt lo)
  | none => .op 22 a (.dt lo)

/-- a part of a row, as a code -/
def rowCut (a : E) (lo : Nat) (hi : Option Nat) : E := match a with
  | .op 25 x y => match lo, hi with
    | 0, some 48 => .op 24 x (.dt 48)
    | 48, none => .op 24 y (.dt 48)
    | lo, hi => rowCut0 (.op 25 x y) lo hi
  | a => rowCut0 a lo hi

/-- a part of a row -/
def rowSlc (L : List (Nat × Nat)) (e : E) (lo hi : Option Nat) : Option E := match e with
  | .op 20 a b => match lenRow L a with
    | some n => match Nat.ble (lo.getD 0) (hi.getD n), Nat.ble (hi.getD n) n with
      | true, true => some (.op 20 (rowCut a (lo.getD 0) hi) (.dt 0))
      | _, _ => none
    | none => none
  | _ => none

/-- a byte of a plain number -/
def cnvO (s d : TypeId) (x : V) : Option V := match x with
  | .one (.el (.op 17 a b)) => match Nat.beq s 31, Nat.beq d 5 with
    | true, true => some (.one (.el (.op 16 a b)))
    | _, _ => none
  | _ => none

/-- two numbers' bytes, one behind the other -/
def appO (el : TypeId) (e1 e2 : E) : Option E := match Nat.beq el 5 with
  | true => match e1, e2 with
    | .op 20 (.op 24 x (.dt 48)) (.dt 1), .op 20 (.op 24 y (.dt 48)) _ => some (.op 20 (.op 25 x y) (.dt 0))
    | _, _ => none
  | false => none

/-- a word of a held number -/
def idxO (e : E) (j : Nat) : Option V := match e with
  | .op 20 (.op 24 (.op 40 (.dt n) _) (.dt m)) _ => match Nat.blt j m, Nat.ble m 96 with
    | true, true => some (.one (.int .u8 (.ofNat (n / 256 ^ (m - 1 - j) % 256))))
    | _, _ => none
  | .op 21 a _ => match Nat.blt j (wMin a) with
    | true => some (.one (.el (.op 18 a (.dt j))))
    | false => none
  | _ => none

def fpTable (X : Fx) (l : List (Nat × Entry)) : Tab := ⟨fpWid, fpBinO X, notO, lenO, ofEntries l, fpGlob, rowSlc X.lens, cnvO, idxO, appO⟩

/-- what a run is told is so -/
structure FpTold (R : Ev) (X : Fx) : Prop where
  eqs : FpFacts R X.eqs
  longs : ∀ x ∈ X.longs, decide (X.lim < (R.bys x.1).length) = x.2
  lens : ∀ x ∈ X.lens, (R.bys x.1).length = x.2
  nlens : ∀ x ∈ X.nlens, (R.bys x.1).length ≠ x.2
  flags : ∀ x ∈ X.flags, flagV R x.1 x.2.1 = x.2.2
  lts : ∀ x ∈ X.lts, decide (be (R.row x.1) < fpQ) = x.2
  small : ∀ i ∈ X.small, R.num i < 18446744073709551616

theorem eq_agg {P : Program} {ty : TypeId} {xs ys : Array Value} {b : Bool} {w : World} (hg : P.eqGuardType P.depth ty = false) (he : (Op.equal ty (.agg xs) (.agg ys)).run P w = .ok b w) (X Y : Operand) :
    (do eqGuard .eql ty X Y (.agg xs) (.agg ys); binOp .eql ty (.agg xs) (.agg ys) : Sem Value).run P w = .ok (.bool b) w ∧ (do eqGuard .neq ty X Y (.agg xs) (.agg ys); binOp .neq ty (.agg xs) (.agg ys) : Sem Value).run P w = .ok (.bool (!b)) w := by
  have g : ∀ op, (eqGuard op ty X Y (.agg xs) (.agg ys)).run P w = .ok () w := fun op => by
    cases op <;> simp [eqGuard, hg]
  have e1 : binOp .eql ty (.agg xs) (.agg ys) = (do pure (.bool (← Op.equal ty (.agg xs) (.agg ys)))) := rfl
  have e2 : binOp .neq ty (.agg xs) (.agg ys) = (do pure (.bool (!(← Op.equal ty (.agg xs) (.agg ys))))) := rfl
  rw [e1, e2]
  constructor <;> simp only [Sem.run_bind, g, Result.andThen_ok, he, Sem.run_pure]

theorem eq_bool {P : Program} {ty : TypeId} (hu : P.underlying ty = some .bool) (a c : Bool) (X Y : Operand) (w : World) :
    (do eqGuard .eql ty X Y (.bool a) (.bool c); binOp .eql ty (.bool a) (.bool c) : Sem Value).run P w = .ok (.bool (match a, c with
      | true, true => true
      | false, false => true
      | _, _ => false)) w ∧ (do eqGuard .neq ty X Y (.bool a) (.bool c); binOp .neq ty (.bool a) (.bool c) : Sem Value).run P w = .ok (.bool (!(match a, c with
      | true, true => true
      | false, false => true
      | _, _ => false))) w := by
  have hq : (Op.equal ty (.bool a) (.bool c)).run P w = .ok (a == c) w := by
    unfold Op.equal Op.maxDepth
    rw [show (10000 : Nat) = 9999 + 1 from rfl, Op.equalIn]
    simp only [Sem.run_bind, run_underlying hu, Result.andThen_ok, Sem.run_pure]
  have e1 : (do eqGuard .eql ty X Y (.bool a) (.bool c); binOp .eql ty (.bool a) (.bool c) : Sem Value) = (do pure (.bool (← Op.equal ty (.bool a) (.bool c)))) := rfl
  have e2 : (do eqGuard .neq ty X Y (.bool a) (.bool c); binOp .neq ty (.bool a) (.bool c) : Sem Value) = (do pure (.bool (!(← Op.equal ty (.bool a) (.bool c))))) := rfl
  rw [e1, e2]
  simp only [Sem.run_bind, hq, Result.andThen_ok, Sem.run_pure]
  cases a <;> cases c <;> exact ⟨rfl, rfl⟩

theorem fpEqV_ok {R : Ev} {F : List (E × E × Bool)} (hF : FpFacts R F) {ty : TypeId} {x y : V} {b : Bool} (h : fpEqV F ty x y = some b) {σ : Env} {vx vy : Value} (hx : x.Is (fpDenS R) σ vx) (hy : y.Is (fpDenS R) σ vy) (X Y : Operand) (w : World) :
    (do eqGuard .eql ty X Y vx vy; binOp .eql ty vx vy : Sem Value).run Tryd.prog w = .ok (.bool b) w ∧ (do eqGuard .neq ty X Y vx vy; binOp .neq ty vx vy : Sem Value).run Tryd.prog w = .ok (.bool (!b)) w := by
  unfold fpEqV at h
  split at h
  · rename_i xs bs
    cases ht : find fpFlats ty with
    | none =>
      rw [ht] at h
      dsimp only at h
      cases ht2 : Nat.beq ty 53 with
      | false => rw [ht2] at h; cases h
      | true =>
        rw [ht2] at h
        have e := Nat.eq_of_beq_eq_true ht2
        subst e
        dsimp only at h
        split at h
        · rename_i a _ c _
          obtain ⟨l, h1, rfl⟩ := hx
          obtain ⟨m, h2, rfl⟩ := hy
          have h1 : some (nums .u8 (digs 48 (fpEv R a % fpQ)) ++ []) = some l := h1
          have h2 : some (nums .u8 (digs 48 (fpEv R c % fpQ)) ++ []) = some m := h2
          injection h1 with h1; subst h1
          injection h2 with h2; subst h2
          rw [List.append_nil, List.append_nil]
          have he := run_equalNums (P := Tryd.prog) (t := 53) (e := 5) (n := 48) (k := .u8) Tryd.underlying53 Tryd.underlying5 (by kernel_rfl) (by kernel_rfl) (digs_length 48 (fpEv R a % fpQ)) (digs_length 48 (fpEv R c % fpQ)) w
          have hs := fpSameE_ok hF h
          have hq : fpQ < 256 ^ 48 := by decide
          have hiff : decide (digs 48 (fpEv R a % fpQ) = digs 48 (fpEv R c % fpQ)) = b := by
            rw [← hs, decide_eq_decide]
            exact ⟨fun h => digs_inj (Nat.lt_trans (Nat.mod_lt _ (by decide)) hq) (Nat.lt_trans (Nat.mod_lt _ (by decide)) hq) h, fun h => by rw [h]⟩
          rw [hiff] at he
          exact eq_agg (by kernel_rfl) he X Y
        · cases h
    | some n =>
      rw [ht] at h
      dsimp only at h
      split at h
      · rename_i l m hl hm
        obtain ⟨l1, h1, rfl⟩ := hx
        obtain ⟨l2, h2, rfl⟩ := hy
        obtain ⟨i1, c1⟩ := fpEls_ok hl h1
        obtain ⟨i2, c2⟩ := fpEls_ok hm h2
        rw [i1, i2]
        have hmem := find_mem ht
        have he := fpFlat_equal hmem (l := l.map (fpEv R)) (m := m.map (fpEv R)) (by rw [List.length_map, c1]) (by rw [List.length_map, c2]) w
        rw [fpSameL_ok hF h] at he
        exact eq_agg (fpFlats_ok _ hmem).2 he X Y
      · cases h
  · rename_i a c
    cases ht : Nat.beq ty 4 with
    | false => rw [ht] at h; cases h
    | true =>
      rw [ht] at h
      have e := Nat.eq_of_beq_eq_true ht
      subst e
      injection h with h; subst h
      injection hx with hx; injection hx with hx; subst hx
      injection hy with hy; injection hy with hy; subst hy
      exact eq_bool Tryd.underlying4 a c X Y w
  · cases h

theorem lenEq_ok {R : Ev} {L N : List (Nat × Nat)} (hL : ∀ x ∈ L, (R.bys x.1).length = x.2) (hN : ∀ x ∈ N, (R.bys x.1).length ≠ x.2) {x y : V} {b : Bool} (h : lenEq L N x y = some b) {σ : Env} {vx vy : Value} (hx : x.Is (fpDenS R) σ vx) (hy : y.Is (fpDenS R) σ vy) (ty : TypeId) (X Y : Operand) (w : World) :
    (do eqGuard .eql ty X Y vx vy; binOp .eql ty vx vy : Sem Value).run Tryd.prog w = .ok (.bool b) w ∧ (do eqGuard .neq ty X Y vx vy; binOp .neq ty vx vy : Sem Value).run Tryd.prog w = .ok (.bool (!b)) w := by
  unfold lenEq at h
  split at h
  · rename_i a c m
    split at h
    · rename_i n hn
      injection h with h; subst h
      injection hx with hx; injection hx with hx; subst hx
      injection hy with hy; injection hy with hy; subst hy
      have hlen := lenRow_ok hL hn
      have e : Nat.beq n m = (((R.row a).length : Int) == Int.ofNat m) := by
        rw [hlen]
        cases hb : Nat.beq n m with
        | true => have := Nat.eq_of_beq_eq_true hb; subst this; simp
        | false =>
          have := Nat.ne_of_beq_eq_false hb
          simp
          omega
      rw [e]
      exact ⟨rfl, rfl⟩
    · split at h
      · split at h
        · rename_i n hn
          split at h
          · rename_i hb
            injection h with h; subst h
            have e := Nat.eq_of_beq_eq_true hb
            subst e
            have hne := hN _ (find_mem hn)
            injection hx with hx; injection hx with hx; subst hx
            injection hy with hy; injection hy with hy; subst hy
            have key : ∀ k : Nat, (R.bys k).length ≠ n → (((R.row (.dt k)).length : Int) == Int.ofNat n) = false := fun k hk => by
              simp [Ev.row]
              omega
            have e2 := key _ hne
            exact ⟨by rw [← e2]; rfl, by rw [← e2]; rfl⟩
          · cases h
        · cases h
      · cases h
  · cases h

theorem u64s_cells (D : Den) (σ : Env) : ∀ l : List Nat, cellsL D σ (u64s l) = some (l.map fun n => Value.int .u64 (Int.ofNat n))
  | [] => rfl
  | n :: l => by
    have := u64s_cells D σ l
    simp only [u64s, cellsL, Atom.cells, this, List.map_cons]
    rfl

theorem rowSlc_ok {P : Program} {R : Ev} {L : List (Nat × Nat)} (hL : ∀ x ∈ L, (R.bys x.1).length = x.2) {e : E} {lo hi : Option Nat} {e' : E} (h : rowSlc L e lo hi = some e') {ty elem : TypeId} (hu : P.underlying ty = some (.slice elem)) (hz : szOf P elem = some 1)
    {v : Value} {w : World} {lv hv : Option Value} (hh : fpHold R e v w) (bl : BoundIs lo lv) (bh : BoundIs hi hv) :
    ∃ v', (Instr.sliceAt ty v lv hv none).run P w = .ok v' w ∧ fpHold R e' v' w ∧ ∀ g, v'.ownBlock = some g → v.ownBlock = some g := by
  unfold rowSlc at h
  split at h
  · rename_i a b
    split at h
    · rename_i n hn
      split at h
      · rename_i h1 h2
        have h1 := Nat.le_of_ble_eq_true h1
        have h2 := Nat.le_of_ble_eq_true h2
        obtain ⟨A, c, rfl, hr, hc, hlt⟩ := hold20 hh
        have hlen := lenRow_ok hL hn
        have hb := sliceB_ok (P := P) (isSlice := true) (len := n) (cap := c) bl bh h1 (by omega) w
        have key : ∀ row : E, (R.row row).length = hi.getD n - lo.getD 0 → (∀ (j : Nat) (hj : j < (R.row row).length), ∃ hj' : lo.getD 0 + j < (R.row a).length, (R.row row)[j] = (R.row a)[lo.getD 0 + j]) →
            ∃ v', (Instr.sliceAt ty (.slice A (R.row a).length c) lv hv none).run P w = .ok v' w ∧ fpHold R (.op 20 row (.dt 0)) v' w ∧ ∀ g, v'.ownBlock = some g → (Value.slice A (R.row a).length c).ownBlock = some g := by
          intro row hrl hrg
          refine ⟨.slice (if c = lo.getD 0 then A else A.map (·.add (lo.getD 0 * 1))) (hi.getD n - lo.getD 0) (c - lo.getD 0), ?_, .inl ⟨row, .dt 0, rfl, ⟨_, c - lo.getD 0, by rw [hrl], ?_, by omega, ?_⟩, fun h => (by injection h with h; cases h)⟩, ?_⟩
          · simp only [Instr.sliceAt, Instr.slice, Sem.run_bind, run_underlying hu, Result.andThen_ok, hlen, hb, Sx.run_sizeOf hz, Sem.run_pure]
          · by_cases h0 : (R.row row).length = 0
            · left; rw [List.eq_nil_of_length_eq_zero h0]; rfl
            · obtain ⟨b0, o0, hA, hb0, hcell⟩ := hr.at_ (k := 0) (by rw [nums_length]; omega)
              subst hA
              right
              have hne : ¬ c = lo.getD 0 := by omega
              refine ⟨b0, o0 + lo.getD 0 * 1, by rw [if_neg hne]; simp [addr_add], hb0, fun j hj => ?_⟩
              rw [nums_length] at hj
              obtain ⟨hj', hg⟩ := hrg j hj
              have := hcell (lo.getD 0 + j) (by rw [nums_length]; omega)
              rw [nums_get] at this
              rw [nums_get, hg, ← this]
              congr 2
              omega
          · intro g hg
            split at hg
            · exact hlt g hg
            · cases A with
              | none => cases hg
              | some x =>
                refine hlt g ?_
                rw [← hg]
                simp only [Option.map_some, blk, Addr.add]
                split <;> rfl
          · intro g hg
            rw [ownBlock_slice] at hg ⊢
            split at hg
            · exact hg
            · cases A with
              | none => cases hg
              | some x =>
                rw [← hg]
                simp only [Option.map_some, blk, Addr.add]
                split <;> rfl
        injection h with h; subst h
        have gen : ∀ (hi : Option Nat), lo.getD 0 ≤ hi.getD n → hi.getD n ≤ n → (R.row (rowCut0 a (lo.getD 0) hi)).length = hi.getD n - lo.getD 0 ∧ (∀ (j : Nat) (hj : j < (R.row (rowCut0 a (lo.getD 0) hi)).length), ∃ hj' : lo.getD 0 + j < (R.row a).length, (R.row (rowCut0 a (lo.getD 0) hi))[j] = (R.row a)[lo.getD 0 + j]) := by
          intro hi h1 h2
          cases hi with
          | some h' =>
            refine ⟨?_, ?_⟩
            · simp [rowCut0, Ev.row]; simp at h2; omega
            · intro j hj
              simp [rowCut0, Ev.row] at hj
              refine ⟨by omega, ?_⟩
              simp [rowCut0, Ev.row]
          | none =>
            refine ⟨?_, ?_⟩
            · simp [rowCut0, Ev.row, hlen]
            · intro j hj
              simp [rowCut0, Ev.row] at hj
              refine ⟨by omega, ?_⟩
              simp [rowCut0, Ev.row]
        have cut : (R.row (rowCut a (lo.getD 0) hi)).length = hi.getD n - lo.getD 0 ∧ (∀ (j : Nat) (hj : j < (R.row (rowCut a (lo.getD 0) hi)).length), ∃ hj' : lo.getD 0 + j < (R.row a).length, (R.row (rowCut a (lo.getD 0) hi))[j] = (R.row a)[lo.getD 0 + j]) := by
          have g := gen hi h1 h2
          generalize lo.getD 0 = l at *
          unfold rowCut
          split
          · rename_i x y
            have hr : R.row (.op 25 x y) = digs 48 (wdE R x) ++ digs 48 (wdE R y) := by simp only [Ev.row]
            have hn : n = 96 := by rw [← hlen, hr, List.length_append, digs_length, digs_length]
            subst hn
            split
            · have e : R.row (.op 24 x (.dt 48)) = digs 48 (wdE R x) := by simp only [Ev.row]; rfl
              show (R.row (.op 24 x (.dt 48))).length = 48 - 0 ∧ ∀ (j : Nat) (hj : j < (R.row (.op 24 x (.dt 48))).length), ∃ hj' : 0 + j < (R.row (.op 25 x y)).length, (R.row (.op 24 x (.dt 48)))[j] = (R.row (.op 25 x y))[0 + j]
              clear g gen key
              generalize R.row (.op 24 x (.dt 48)) = r1 at *
              generalize R.row (.op 25 x y) = r2 at *
              subst e; subst hr
              refine ⟨by rw [digs_length], fun j hj => ?_⟩
              rw [digs_length] at hj
              refine ⟨by rw [List.length_append, digs_length, digs_length]; omega, ?_⟩
              simp only [Nat.zero_add]
              rw [List.getElem_append_left]
            · have e : R.row (.op 24 y (.dt 48)) = digs 48 (wdE R y) := by simp only [Ev.row]; rfl
              show (R.row (.op 24 y (.dt 48))).length = 96 - 48 ∧ ∀ (j : Nat) (hj : j < (R.row (.op 24 y (.dt 48))).length), ∃ hj' : 48 + j < (R.row (.op 25 x y)).length, (R.row (.op 24 y (.dt 48)))[j] = (R.row (.op 25 x y))[48 + j]
              clear g gen key
              generalize R.row (.op 24 y (.dt 48)) = r1 at *
              generalize R.row (.op 25 x y) = r2 at *
              subst e; subst hr
              refine ⟨by rw [digs_length], fun j hj => ?_⟩
              rw [digs_length] at hj
              refine ⟨by rw [List.length_append, digs_length, digs_length]; omega, ?_⟩
              rw [List.getElem_append_right (by rw [digs_length]; omega)]
              congr 1
              rw [digs_length]; omega
            · exact g
          · exact g
        exact key _ cut.1 cut.2
      · cases h
    · cases h
  · cases h

theorem wd_lt (n i : Nat) : fpWd n i < 18446744073709551616 := Nat.mod_lt _ (by decide)

theorem wdO_ok {R : Ev} {G : List (Nat × E × Bool)} (hG : ∀ x ∈ G, flagV R x.1 x.2.1 = x.2.2) {op : BinOp} {x y r : V} (h : wdO G op x y = some r) {σ : Env} {vx vy : Value} (hx : x.Is (fpDenS R) σ vx) (hy : y.Is (fpDenS R) σ vy) (ty : TypeId) (X Y : Operand) (w : World) :
    ∃ v, (do eqGuard op ty X Y vx vy; binOp op ty vx vy : Sem Value).run Tryd.prog w = .ok v w ∧ r.Is (fpDenS R) σ v := by
  unfold wdO at h
  split at h
  · rename_i i k n
    split at h
    · rename_i hn
      injection h with h; subst h
      have hn : n < 64 := Nat.le_of_ble_eq_true hn
      injection hx with hx; injection hx with hx; subst hx
      injection hy with hy; injection hy with hy; subst hy
      obtain ⟨v, h1, h2⟩ := numO_ok (P := Tryd.prog) (op := .shr) (k := .u64) (k' := k) (a := ((u64N R (.dt i) (.dt 0) : Nat) : Int)) (b := Int.ofNat n) rfl ty X Y (fpDenS R) σ w
      refine ⟨v, h1, ?_⟩
      have e : (((u64N R (.dt i) (.dt 0) : Nat) : Int)).fdiv (2 ^ (min n IntKind.u64.bits)) = ((u64N R (.dt i) (.dt n) : Nat) : Int) := by
        have hm : min n IntKind.u64.bits = n := Nat.min_eq_left (Nat.le_of_lt hn)
        rw [hm]
        unfold u64N
        dsimp only
        rw [Nat.pow_zero, Nat.div_one, Int.ofNat_fdiv, Int.natCast_pow]
        rfl
      have h2 : some [Value.int .u64 ((((u64N R (.dt i) (.dt 0) : Nat) : Int)).fdiv (2 ^ (min n IntKind.u64.bits)))] = some [v] := h2
      rw [e] at h2
      exact h2
    · cases h
  · rename_i a b
    split at h
    · injection h with h; subst h
      injection hx with hx; injection hx with hx; subst hx
      injection hy with hy; injection hy with hy; subst hy
      refine ⟨.int .u32 ((wdE R a % 2 : Nat) : Int), ?_, rfl⟩
      have e : wdE R a / 65536 ^ 0 % 65536 % 2 = wdE R a % 2 := by
        rw [Nat.pow_zero, Nat.div_one]; omega
      have hb := u32_and_nat (wdE R a / 65536 ^ 0 % 65536) 1 (Nat.lt_of_lt_of_le (Nat.mod_lt _ (by decide)) (by decide)) (by omega)
      rw [Nat.and_one_is_mod, e] at hb
      rw [← hb]
      rfl
    · cases h
  · rename_i a b
    split at h
    · split at h
      · rename_i f hf
        injection h with h; subst h
        injection hx with hx; injection hx with hx; subst hx
        injection hy with hy; injection hy with hy; subst hy
        have := hG _ (findG_mem hf)
        have this : decide (wdE R a % 2 = 1) = f := this
        refine ⟨.bool f, ?_, rfl⟩
        have e : (((wdE R a % 2 : Nat) : Int) == Int.ofNat 1) = f := by
          rw [← this, Bool.eq_iff_iff]; simp
          omega
        rw [← e]
        rfl
      · cases h
    · cases h
  · rename_i a b
    split at h
    · injection h with h; subst h
      injection hx with hx; injection hx with hx; subst hx
      injection hy with hy; injection hy with hy; subst hy
      refine ⟨.int .u64 ((fpEv R a % fpQ % 2 : Nat) : Int), ?_, rfl⟩
      have e : fpWd (fpEv R a % fpQ) 0 % 2 = fpEv R a % fpQ % 2 := by
        unfold fpWd; rw [Nat.pow_zero, Nat.div_one]; omega
      have hb := u64_and_nat (fpWd (fpEv R a % fpQ) 0) 1 (wd_lt _ _) (by omega)
      rw [Nat.and_one_is_mod, e] at hb
      rw [← hb]
      rfl
    · cases h
  · rename_i a b
    split at h
    · split at h
      · rename_i f hf
        injection h with h; subst h
        injection hx with hx; injection hx with hx; subst hx
        injection hy with hy; injection hy with hy; subst hy
        have := hG _ (findG_mem hf)
        have this : decide (fpEv R a % fpQ % 2 = 1) = f := this
        refine ⟨.bool f, ?_, rfl⟩
        have e : (((fpEv R a % fpQ % 2 : Nat) : Int) == Int.ofNat 1) = f := by
          rw [← this, Bool.eq_iff_iff]; simp
          omega
        rw [← e]
        rfl
      · cases h
    · cases h
  · rename_i a i b c j
    split at h
    · rename_i h1 h2 h3
      have e1 := E.eqb_eq h1
      have e2 := Nat.eq_of_beq_eq_true h2
      have h3 : i < 6 := Nat.le_of_ble_eq_true h3
      subst e1 e2
      injection hx with hx; injection hx with hx; subst hx
      injection hy with hy; injection hy with hy; subst hy
      dsimp only
      rw [fpEv_neg]
      split at h
      · split at h
        · rename_i f hf
          injection h with h; subst h
          have := hG _ (findG_mem hf)
          have this : flagV R (10 + i) a = f := this
          have e : (((fpWd (fpEv R a % fpQ) i : Nat) : Int) == ((fpWd ((fpQ - fpEv R a % fpQ) % fpQ) i : Nat) : Int)) = f := by
            rw [← this]
            have hk : ∃ k, 10 + i = k + 10 ∧ k < 6 := ⟨i, by omega, h3⟩
            obtain ⟨k, hk, hk6⟩ := hk
            have hik : i = k := by omega
            subst hik
            rw [hk]
            have hbl : Nat.blt (i + 10) 20 = true := Nat.ble_eq_true_of_le (by omega)
            show _ = (match Nat.blt (i + 10) 20 with
              | true => decide (fpWd (fpEv R a % fpQ) (i + 10 - 10) = fpWd ((fpQ - fpEv R a % fpQ) % fpQ) (i + 10 - 10))
              | false => decide (fpWd ((fpQ - fpEv R a % fpQ) % fpQ) (i + 10 - 20) < fpWd (fpEv R a % fpQ) (i + 10 - 20)))
            rw [hbl]
            dsimp only
            rw [Nat.add_sub_cancel, Bool.eq_iff_iff]; simp
            omega
          refine ⟨.bool (!f), ?_, rfl⟩
          rw [← e]
          rfl
        · cases h
      · split at h
        · rename_i f hf
          injection h with h; subst h
          have := hG _ (findG_mem hf)
          have this : flagV R (20 + i) a = f := this
          have e : decide (((fpWd (fpEv R a % fpQ) i : Nat) : Int) > ((fpWd ((fpQ - fpEv R a % fpQ) % fpQ) i : Nat) : Int)) = f := by
            rw [← this, Nat.add_comm]
            have hbl : Nat.blt (i + 20) 20 = false := by
              cases hc : Nat.blt (i + 20) 20 with
              | false => rfl
              | true => have : i + 20 < 20 := Nat.le_of_ble_eq_true hc; omega
            show _ = (match Nat.blt (i + 20) 20 with
              | true => decide (fpWd (fpEv R a % fpQ) (i + 20 - 10) = fpWd ((fpQ - fpEv R a % fpQ) % fpQ) (i + 20 - 10))
              | false => decide (fpWd ((fpQ - fpEv R a % fpQ) % fpQ) (i + 20 - 20) < fpWd (fpEv R a % fpQ) (i + 20 - 20)))
            rw [hbl]
            dsimp only
            rw [Nat.add_sub_cancel, Bool.eq_iff_iff]; simp
          refine ⟨.bool f, ?_, rfl⟩
          rw [← e]
          rfl
        · cases h
      · cases h
    · cases h
  · cases h

theorem below_drew1 (w : World) : Below w.heap.size w w.drew := (Below.refl _ _).drew

theorem fpRight {R : Ev} {X : Fx} {l : List (Nat × Entry)} (hX : FpTold R X) (hl : ∀ x ∈ l, EntryOk (fpDenS R) FpTab x.1 x.2) : Right Tryd.prog (fpDenS R) FpTab (fpTable X l) where
  wid := rfl
  bin := fun op ty x y r h σ vx vy hx hy O Y w => by
    have h : fpBinO X op ty x y = some r := h
    unfold fpBinO at h
    split at h
    · rename_i k a k' b
      injection hx with hx; injection hx with hx; subst hx
      injection hy with hy; injection hy with hy; subst hy
      exact numO_ok h ty O Y _ σ w
    · split at h
      · split at h
        · rename_i b hb
          injection h with h; subst h
          exact ⟨_, (fpEqV_ok hX.eqs hb hx hy O Y w).1, rfl⟩
        · split at h
          · rename_i b hb
            injection h with h; subst h
            exact ⟨_, (lenEq_ok hX.lens hX.nlens hb hx hy ty O Y w).1, rfl⟩
          · exact wdO_ok hX.flags h hx hy ty O Y w
      · split at h
        · rename_i b hb
          injection h with h; subst h
          exact ⟨_, (fpEqV_ok hX.eqs hb hx hy O Y w).2, rfl⟩
        · split at h
          · rename_i b hb
            injection h with h; subst h
            exact ⟨_, (lenEq_ok hX.lens hX.nlens hb hx hy ty O Y w).2, rfl⟩
          · exact wdO_ok hX.flags h hx hy ty O Y w
      · split at h
        · rename_i i e m h0 hold
          split at h
          · rename_i hm _ _
            split at h
            · rename_i b hb
              injection h with h; subst h
              have := hX.longs _ (find_mem hb)
              injection hx with hx; injection hx with hx; subst hx
              injection hy with hy; injection hy with hy; subst hy
              refine ⟨.bool b, ?_, rfl⟩
              dsimp only at this
              have e2 : (decide (((R.row (.dt i)).length : Int) > Int.ofNat m)) = b := by
                rw [← this, ← Nat.eq_of_beq_eq_true hm]
                simp [Ev.row]
              rw [← e2]
              rfl
            · cases h
          · cases h
        · exact wdO_ok hX.flags h hx hy ty O Y w
  un := fun op x r h σ vx hx w => by
    have h : notO op x = some r := h
    unfold notO at h
    split at h
    · injection h with h; subst h
      injection hx with hx; injection hx with hx; subst hx
      exact ⟨_, rfl, rfl⟩
    · cases h
  len := fun c r h σ w v hv => by
    have h : lenO c = some r := h
    unfold lenO at h
    split at h
    · rename_i n b m d _
      have h := Option.some.inj h
      subst h
      obtain ⟨A, cp, rfl, _⟩ := hold20 hv
      have e : (R.row (.op 24 (.op 40 (.dt n) b) (.dt m))).length = Nat.min m 96 := by
        simp only [Ev.row]
        exact digs_length _ _
      exact ⟨A, _, cp, rfl, by rw [e]; rfl⟩
    · injection h with h; subst h
      obtain ⟨A, cp, rfl, _⟩ := hold20 hv
      exact ⟨A, _, cp, rfl, rfl⟩
    · injection h with h; subst h
      injection hv with hv; injection hv with hv; subst hv
      exact ⟨none, 0, 0, rfl, rfl⟩
    · cases h
  ctr := fun f cs r h => ofEntries_ok hl h
  glob := fun g xs h => by
    have h : fpGlob g = some xs := h
    unfold fpGlob at h
    split at h
    · rename_i hg
      have e := Nat.eq_of_beq_eq_true hg
      subst e
      injection h with h; subst h
      refine ⟨_, u64s_cells _ _ _, fun w hI j v hv => ?_⟩
      obtain ⟨_, _, m0, m1, m2, m3, m4, m5, _⟩ := hI
      match j, hv with
      | 0, hv => injection hv with hv; subst hv; exact m0
      | 1, hv => injection hv with hv; subst hv; exact m1
      | 2, hv => injection hv with hv; subst hv; exact m2
      | 3, hv => injection hv with hv; subst hv; exact m3
      | 4, hv => injection hv with hv; subst hv; exact m4
      | 5, hv => injection hv with hv; subst hv; exact m5
      | j + 6, hv => simp at hv
    · split at h
      · rename_i hg
        have e := Nat.eq_of_beq_eq_true hg
        subst e
        injection h with h; subst h
        refine ⟨_, u64s_cells _ _ _, fun w hI j v hv => ?_⟩
        obtain ⟨_, _, _, _, _, _, _, _, m0, m1, m2, m3, m4, m5⟩ := hI
        match j, hv with
        | 0, hv => injection hv with hv; subst hv; exact m0
        | 1, hv => injection hv with hv; subst hv; exact m1
        | 2, hv => injection hv with hv; subst hv; exact m2
        | 3, hv => injection hv with hv; subst hv; exact m3
        | 4, hv => injection hv with hv; subst hv; exact m4
        | 5, hv => injection hv with hv; subst hv; exact m5
        | j + 6, hv => simp at hv
      · cases h
  slc := fun e lo hi e' h ty elem hu hz v w lv hv hh bl bh => rowSlc_ok hX.lens h hu hz hh bl bh
  app := fun el e1 e2 e3 h t ty w v1 v2 ht hh1 hh2 => by
    have h : appO el e1 e2 = some e3 := h
    unfold appO at h
    cases hel : Nat.beq el 5 with
    | false => rw [hel] at h; cases h
    | true =>
    rw [hel] at h
    dsimp only at h
    split at h
    · rename_i x y b _
      injection h with h; subst h
      have e := Nat.eq_of_beq_eq_true hel
      subst e
      have r1 : R.row (.op 24 x (.dt 48)) = digs 48 (wdE R x) := by simp only [Ev.row]; rfl
      have r2 : R.row (.op 24 y (.dt 48)) = digs 48 (wdE R y) := by simp only [Ev.row]; rfl
      have r3 : R.row (.op 25 x y) = digs 48 (wdE R x) ++ digs 48 (wdE R y) := by simp only [Ev.row]
      obtain ⟨A, rfl, a1, a2⟩ := hold20f hh1
      obtain ⟨B, d, rfl, b1, b2, b3⟩ := hold20 hh2
      rw [r1] at a1
      rw [r2] at b1
      rw [r1, r2]
      obtain ⟨i0, hi0, hz0, hz1, hz2⟩ := info_parts u8_info
      obtain ⟨g1, o1, rfl, hg1, hc1⟩ := a1.at_ (k := 0) (by rw [nums_length, digs_length]; omega)
      obtain ⟨g2, o2, rfl, hg2, hc2⟩ := b1.at_ (k := 0) (by rw [nums_length, digs_length]; omega)
      have hl1 : (nums .u8 (digs 48 (wdE R x))).length = 48 := by rw [nums_length, digs_length]
      have hl2 : (nums .u8 (digs 48 (wdE R y))).length = 48 := by rw [nums_length, digs_length]
      rw [digs_length, digs_length]
      have hrun := run_append_grow (P := Tryd.prog) w t ty 5 i0 _ ht hi0 hz0 ⟨g1, o1, none⟩ 48 48 (nums .u8 (digs 48 (wdE R x))) (by rw [hl1, hz1]) (fun j v hv => by
        obtain ⟨hj, rfl⟩ := List.getElem?_eq_some_iff.1 hv
        rw [addr_add]; exact hc1 j hj) ⟨g2, o2, none⟩ 48 d (nums .u8 (digs 48 (wdE R y))) (by rw [hl2, hz1]) (fun j v hv => by
        obtain ⟨hj, rfl⟩ := List.getElem?_eq_some_iff.1 hv
        rw [addr_add]; exact hc2 j hj) (by omega) (by omega) (by rw [hz2]; decide)
      refine ⟨_, _, hrun, (below_drew1 w).alloc (by simp) _, .inl ⟨_, _, rfl, ⟨_, _, by rw [r3, List.length_append, digs_length, digs_length], ?_, ?_, fun g hg => ?_⟩, fun h => (by injection h with h; cases h)⟩, fun g hg => ?_⟩
      · rw [r3, nums_append]
        refine .inr ⟨w.heap.size, 0, rfl, by simp, fun j hj => ?_⟩
        rw [Nat.zero_add, cell_of_row _ w.heap.size j _ 5 (0, 0) (heap_alloc_new w.drew _)]
        have hsz : j < ((nums .u8 (digs 48 (wdE R x))).toArray ++ (nums .u8 (digs 48 (wdE R y))).toArray).size := by
          rw [List.length_append] at hj
          simpa using hj
        rw [Array.getElem?_append_left hsz, List.append_toArray, List.getElem?_toArray, List.getElem?_eq_getElem hj]
      · rw [r3, List.length_append, digs_length, digs_length]; exact grownCap_ge _ _ _ _
      · injection hg with hg; subst hg; simp
      · rw [ownBlock_slice] at hg
        injection hg with hg; subst hg; exact Nat.le_refl _
    · cases h
  idx := fun e j r h σ v w hh => by
    have h : idxO e j = some r := h
    unfold idxO at h
    split at h
    · rename_i n b m d _
      split at h
      · rename_i hj hm
        have h := Option.some.inj h
        subst h
        have hj : j < m := Nat.le_of_ble_eq_true hj
        have hm := Nat.le_of_ble_eq_true hm
        obtain ⟨A, c, rfl, h1, h2, h3⟩ := hold20 hh
        have e : R.row (.op 24 (.op 40 (.dt n) b) (.dt m)) = digs m n := by
          simp only [Ev.row]
          rw [show Nat.min m 96 = m from Nat.min_eq_left hm, wdE_lit]
        rw [e] at h1
        rw [e]
        have hl : j < (digs m n).length := by rw [digs_length]; exact hj
        obtain ⟨g, o, rfl, hg, hcell⟩ := h1.num hl
        refine ⟨g, o, _, c, _, rfl, hl, hcell, ?_⟩
        rw [digs_get]
        rfl
      · cases h
    · rename_i a b h0
      split at h
      · rename_i hj
        injection h with h; subst h
        have hj : j < wMin a := Nat.le_of_ble_eq_true hj
        obtain ⟨A, c, ws, rfl, h1, h2, h3, h4, h5, h6, h7⟩ := hold21 hh
        have hl : j < ws.length := Nat.lt_of_lt_of_le hj h7
        obtain ⟨g, o, rfl, hg, hcell⟩ := h1.num hl
        refine ⟨g, o, _, c, _, rfl, hl, hcell, ?_⟩
        have e : ws[j] = wdE R a / 65536 ^ j % 65536 := by
          rw [← h5, ← word_le h4 j]; simp [List.getD, hl]
        rw [e]
        rfl
      · cases h
    · cases h
  cnv := fun s d x r h σ vx hx w => by
    have h : cnvO s d x = some r := h
    unfold cnvO at h
    split at h
    · rename_i a b h0
      split at h
      · rename_i h1 h2
        injection h with h; subst h
        have e1 := Nat.eq_of_beq_eq_true h1
        have e2 := Nat.eq_of_beq_eq_true h2
        subst e1 e2
        injection hx with hx; injection hx with hx; subst hx
        refine ⟨.int .u8 ((u64N R a b % 256 : Nat) : Int), ?_, rfl⟩
        simp [convert, run_underlying Tryd.underlying31, run_underlying Tryd.underlying5, Conv.intToInt, IntKind.wrap_u8]
      · cases h
    · cases h

theorem fpTab_keep {w w' : World} (h : FpTab w) (hb : Below w.heap.size w w') : FpTab w' := h.below hb

end Go.Proofs.YtdconlmpjehohaaDoor
