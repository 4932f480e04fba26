/- The reference's numbers: plain laws for Mod and Times. Conditions: those of each theorem. -/
import Derived.Test.YtdconlmpjehohaaDoorRefE
namespace Go.Proofs.YtdconlmpjehohaaDoor
open Go.RowKit
set_option linter.unusedVariables false

theorem le_set : ∀ {l : List Nat} {j : Nat} (s : Nat), j < l.length → le (l.set j s) + l.getD j 0 * 65536 ^ j = le l + s * 65536 ^ j
  | [], j, s, h => by simp at h
  | x :: l, 0, s, h => by simp [le]; omega
  | x :: l, j + 1, s, h => by
    have ih := le_set (l := l) (j := j) s (by simpa using h)
    simp only [List.set_cons_succ, le, List.getD_cons_succ, Nat.pow_succ]
    have e1 : l.getD j 0 * (65536 ^ j * 65536) = 65536 * (l.getD j 0 * 65536 ^ j) := by rw [← Nat.mul_assoc, Nat.mul_comm]
    have e2 : s * (65536 ^ j * 65536) = 65536 * (s * 65536 ^ j) := by rw [← Nat.mul_assoc, Nat.mul_comm]
    rw [e1, e2]
    omega

theorem W16.set {l : List Nat} {s : Nat} (h : W16 l) (j : Nat) (hs : s < 65536) : W16 (l.set j s) := fun x hx => by
  rcases List.mem_or_eq_of_mem_set hx with hx | hx
  · exact h x hx
  · omega

theorem getD_get {l : List Nat} {j : Nat} (h : j < l.length) : l.getD j 0 = l[j] := by simp [List.getD, h]

theorem getD_set_ne {l : List Nat} {i j s : Nat} (h : i ≠ j) : (l.set i s).getD j 0 = l.getD j 0 := by
  simp [List.getD, h]

theorem le_lt {l : List Nat} (h : W16 l) : le l < 65536 ^ l.length := by
  have := lo_lt h l.length
  rwa [lo_all (Nat.le_refl _)] at this

/-- shifting by one bit, word by word: after j words -/
def ShInv (L0 : List Nat) (b j : Nat) (L : List Nat) (c : Nat) : Prop := L.length = L0.length ∧ W16 L ∧ c ≤ 1 ∧ (∀ i, j ≤ i → L.getD i 0 = L0.getD i 0) ∧ le L + c * 65536 ^ j = le L0 + lo L0 j + b

theorem ShInv.start {L : List Nat} {b : Nat} (h : W16 L) (hb : b ≤ 1) : ShInv L b 0 L b := ⟨rfl, h, hb, fun _ _ => rfl, by simp [lo]⟩

theorem ShInv.step {L0 L : List Nat} {b j c : Nat} (h : ShInv L0 b j L c) (hw : W16 L0) (hj : j < L0.length) :
    ShInv L0 b (j + 1) (L.set j ((2 * L0.getD j 0 + c) % 65536)) ((2 * L0.getD j 0 + c) / 65536) := by
  obtain ⟨h1, h2, h3, h4, h5⟩ := h
  have hx := getD_lt hw j
  have hs := le_set (l := L) (j := j) ((2 * L0.getD j 0 + c) % 65536) (by omega)
  have hg := h4 j (Nat.le_refl _)
  rw [hg] at hs
  refine ⟨by rw [List.length_set, h1], h2.set j (Nat.mod_lt _ (by omega)), by omega, fun i hi => ?_, ?_⟩
  · rw [getD_set_ne (by omega)]; exact h4 i (by omega)
  · simp only [lo, Nat.pow_succ]
    generalize L0.getD j 0 = x at *
    have e := Nat.div_add_mod (2 * x + c) 65536
    generalize (2 * x + c) / 65536 = q at *
    generalize (2 * x + c) % 65536 = r at *
    have e2 : (65536 * q + r) * 65536 ^ j = (2 * x + c) * 65536 ^ j := by rw [e]
    simp only [Nat.add_mul] at e2
    have e3 : q * (65536 ^ j * 65536) = 65536 * q * 65536 ^ j := by rw [Nat.mul_comm (65536 ^ j), ← Nat.mul_assoc, Nat.mul_comm q]
    have e4 : 2 * x * 65536 ^ j = x * 65536 ^ j + x * 65536 ^ j := by rw [Nat.mul_assoc, Nat.two_mul]
    rw [e3]
    omega

theorem ShInv.done {L0 L : List Nat} {b c M n : Nat} (h : ShInv L0 b L0.length L c) (hw : W16 L0) (hb : b ≤ 1) (hn : L0.length = n + 1) (hM : M ≤ 65536 ^ n) (hlt : le L0 < M) : le L = 2 * le L0 + b := by
  obtain ⟨h1, h2, h3, h4, h5⟩ := h
  rw [lo_all (Nat.le_refl _), hn, Nat.pow_succ] at h5
  have : c = 0 := by
    rcases Nat.eq_zero_or_pos c with h | h
    · exact h
    · have : 1 * (65536 ^ n * 65536) ≤ c * (65536 ^ n * 65536) := Nat.mul_le_mul_right _ h
      generalize 65536 ^ n = p at *
      omega
  subst this
  omega

/-- bit i of a number, from its words -/
theorem bit_word {a : List Nat} (ha : W16 a) (i : Nat) : a.getD (i / 16) 0 / 2 ^ (i % 16) % 2 = le a / 2 ^ i % 2 := by
  have h := le_lo a (i / 16)
  have hl := lo_lt ha (i / 16)
  rw [le_drop] at h
  have hp : (2 : Nat) ^ i = 65536 ^ (i / 16) * 2 ^ (i % 16) := by
    conv => lhs; rw [← Nat.div_add_mod i 16]
    rw [Nat.pow_add, Nat.pow_mul]
  have hd : le a / 65536 ^ (i / 16) = a.getD (i / 16) 0 + 65536 * le (a.drop (i / 16 + 1)) := by
    rw [h, Nat.mul_comm, Nat.add_mul_div_right _ _ (Nat.pow_pos (by omega)), Nat.div_eq_of_lt hl, Nat.zero_add]
  rw [hp, ← Nat.div_div_eq_div_mul, hd]
  have hx := getD_lt ha (i / 16)
  generalize a.getD (i / 16) 0 = x at *
  generalize le (a.drop (i / 16 + 1)) = y
  have hr : i % 16 < 16 := Nat.mod_lt _ (by omega)
  generalize i % 16 = k at *
  have e : (x + 65536 * y) / 2 ^ k = x / 2 ^ k + 2 ^ (16 - k) * y := by
    have : 65536 * y = 2 ^ (16 - k) * y * 2 ^ k := by
      rw [Nat.mul_right_comm, ← Nat.pow_add, show 16 - k + k = 16 by omega]
    rw [this, Nat.add_mul_div_right _ _ (Nat.pow_pos (by omega))]
  rw [e]
  have e2 : 2 ^ (16 - k) * y = 2 * (2 ^ (15 - k) * y) := by
    rw [show 16 - k = 15 - k + 1 by omega, Nat.pow_succ, Nat.mul_comm (2 ^ (15 - k)), Nat.mul_assoc]
  rw [e2]
  omega

/-- what the remainder is when the next bit has come -/
theorem mod_bit {x M k : Nat} (hM : 0 < M) : (if 2 * (x / 2 ^ (k + 1) % M) + x / 2 ^ k % 2 < M then 2 * (x / 2 ^ (k + 1) % M) + x / 2 ^ k % 2 else 2 * (x / 2 ^ (k + 1) % M) + x / 2 ^ k % 2 - M) = x / 2 ^ k % M := by
  have e : x / 2 ^ (k + 1) = x / 2 ^ k / 2 := by rw [Nat.pow_succ, Nat.div_div_eq_div_mul]
  rw [e]
  generalize x / 2 ^ k = y
  have h1 := Nat.div_add_mod y 2
  have h2 := Nat.div_add_mod (y / 2) M
  have h3 : y / 2 % M < M := Nat.mod_lt _ hM
  have h4 : y % M = (2 * (y / 2 % M) + y % 2) % M := by
    conv => lhs; rw [← h1, ← h2]
    rw [Nat.mul_add, Nat.add_assoc, show 2 * (M * (y / 2 / M)) = M * (2 * (y / 2 / M)) by ac_rfl, Nat.mul_add_mod]
  rw [h4]
  generalize y / 2 % M = r at *
  split
  · rename_i h; rw [Nat.mod_eq_of_lt h]
  · rename_i h
    have h6 : 2 * r + y % 2 - M < M := by omega
    have h7 := Nat.mod_eq_sub_mod (Nat.not_lt.1 h)
    rw [h7, Nat.mod_eq_of_lt h6]

theorem le_take {L : List Nat} {n : Nat} (hw : W16 L) (hn : L.length = n + 1) (hlt : le L < 65536 ^ n) : le (L.take n) = le L := by
  have h := le_append (L.take n) (L.drop n)
  rw [List.take_append_drop, List.length_take, hn, Nat.min_eq_left (by omega)] at h
  rcases Nat.eq_zero_or_pos (le (L.drop n)) with h0 | h0
  · rw [h, h0]; simp
  · have : 65536 ^ n * 1 ≤ 65536 ^ n * le (L.drop n) := Nat.mul_le_mul_left _ h0
    omega

theorem W16.take {L : List Nat} (hw : W16 L) (n : Nat) : W16 (L.take n) := fun x hx => hw x (List.mem_of_mem_take hx)

/-- a product's words: rows i of a are in, of row i the first j -/
def TmInv (a b : List Nat) (i j : Nat) (L : List Nat) (c : Nat) : Prop := L.length = a.length + b.length + 1 ∧ W16 L ∧ c < 65536 ∧ le L + c * 65536 ^ (i + j) = lo a i * le b + a.getD i 0 * 65536 ^ i * lo b j

theorem TmInv.step {a b L : List Nat} {i j c : Nat} (h : TmInv a b i j L c) (ha : W16 a) (hb : W16 b) (hij : i + j < a.length + b.length + 1) :
    TmInv a b i (j + 1) (L.set (i + j) ((L.getD (i + j) 0 + a.getD i 0 * b.getD j 0 + c) % 65536)) ((L.getD (i + j) 0 + a.getD i 0 * b.getD j 0 + c) / 65536) := by
  obtain ⟨h1, h2, h3, h5⟩ := h
  have hx := getD_lt h2 (i + j)
  have hs := le_set (l := L) (j := i + j) ((L.getD (i + j) 0 + a.getD i 0 * b.getD j 0 + c) % 65536) (by omega)
  have l1 := getD_lt ha i
  have l2 := getD_lt hb j
  have hp : a.getD i 0 * b.getD j 0 ≤ 65535 * 65535 := Nat.mul_le_mul (by omega) (by omega)
  refine ⟨by rw [List.length_set, h1], h2.set _ (Nat.mod_lt _ (by omega)), by omega, ?_⟩
  have e0 : a.getD i 0 * 65536 ^ i * (b.getD j 0 * 65536 ^ j) = a.getD i 0 * b.getD j 0 * 65536 ^ (i + j) := by rw [Nat.pow_add]; ac_rfl
  simp only [lo, Nat.mul_add, e0]
  rw [show i + (j + 1) = i + j + 1 by omega, Nat.pow_succ]
  generalize 65536 ^ (i + j) = p at *
  generalize a.getD i 0 * b.getD j 0 = y at *
  generalize L.getD (i + j) 0 = x at *
  have e := Nat.div_add_mod (x + y + c) 65536
  generalize (x + y + c) / 65536 = q at *
  generalize (x + y + c) % 65536 = r at *
  have e2 : (65536 * q + r) * p = (x + y + c) * p := by rw [e]
  simp only [Nat.add_mul] at e2
  have e3 : q * (p * 65536) = 65536 * q * p := by rw [Nat.mul_comm p, ← Nat.mul_assoc, Nat.mul_comm q]
  rw [e3]
  omega

theorem TmInv.row {a b L : List Nat} {i c : Nat} (h : TmInv a b i (b.length + 1) L c) (ha : W16 a) (hb : W16 b) : TmInv a b (i + 1) 0 L 0 := by
  obtain ⟨h1, h2, h3, h5⟩ := h
  refine ⟨h1, h2, by omega, ?_⟩
  have e1 : lo b (b.length + 1) = le b := lo_all (by omega)
  rw [e1] at h5
  have l1 := lo_lt ha (i + 1)
  have l2 := le_lt hb
  have e2 : lo a (i + 1) * le b = lo a i * le b + a.getD i 0 * 65536 ^ i * le b := by simp only [lo, Nat.add_mul]
  have hlt : lo a (i + 1) * le b < 65536 ^ (i + (b.length + 1)) := by
    rw [show i + (b.length + 1) = (i + 1) + b.length by omega, Nat.pow_add]
    exact Nat.lt_of_le_of_lt (Nat.mul_le_mul_right _ (Nat.le_of_lt l1)) (Nat.mul_lt_mul_of_pos_left l2 (Nat.pow_pos (by omega)))
  have hc : c = 0 := by
    rcases Nat.eq_zero_or_pos c with h | h
    · exact h
    · have : 1 * 65536 ^ (i + (b.length + 1)) ≤ c * 65536 ^ (i + (b.length + 1)) := Nat.mul_le_mul_right _ h
      omega
  subst hc
  rw [e2, ← h5]
  simp [lo]

theorem TmInv.done {a b L : List Nat} {c : Nat} (h : TmInv a b a.length 0 L c) : W16 L ∧ L.length = a.length + b.length + 1 ∧ (c = 0 → le L = le a * le b) := by
  obtain ⟨h1, h2, h3, h5⟩ := h
  refine ⟨h2, h1, fun hc => ?_⟩
  subst hc
  rw [lo_all (Nat.le_refl _)] at h5
  simpa [lo] using h5

theorem TmInv.start (a b : List Nat) : TmInv a b 0 0 (List.replicate (a.length + b.length + 1) 0) 0 := by
  have z : ∀ n, le (List.replicate n 0) = 0 := fun n => by
    induction n with
    | zero => rfl
    | succ n ih => simp [List.replicate_succ, le, ih]
  exact ⟨by simp, fun x hx => by rw [List.eq_of_mem_replicate hx]; omega, by omega, by simp [lo, z]⟩

end Go.Proofs.YtdconlmpjehohaaDoor
