/- Squares modulo a prime that is 3 modulo 4. Conditions: those of each theorem. -/
import Derived.Test.YtkeommkcjigioaaDoorPr
namespace Go.Proofs.YtkeommkcjigioaaDoor
set_option linter.unusedSectionVars false
set_option linter.unusedVariables false

section
variable {q S H : Nat} (hq : IsP q) (hS : S + S = H + 1) (hH : q = 2 * H + 1) (hodd : H % 2 = 1)
include hq hS hH hodd

theorem eul_q : 2 < q := by omega

theorem eul_nd {a : Nat} (ha : ¬ a % q = 0) : ¬ q ∣ a := fun h => ha (Nat.mod_eq_zero_of_dvd h)

theorem eul_one {a : Nat} (ha : ¬ a % q = 0) : a ^ H * a ^ H % q = 1 := by
  have := fermat hq (eul_nd hq hS hH hodd ha)
  rw [show q - 1 = H + H by omega, Nat.pow_add] at this
  exact this

/-- a number's half power is 1 or -1 -/
theorem eul_half {a : Nat} (ha : ¬ a % q = 0) : a ^ H % q = 1 ∨ a ^ H % q = q - 1 := by
  have h1 := eul_one hq hS hH hodd ha
  rw [Nat.mul_mod] at h1
  have hlt : a ^ H % q < q := Nat.mod_lt _ (by omega)
  generalize a ^ H % q = t at h1 hlt ⊢
  have ht : 0 < t := by
    rcases Nat.eq_zero_or_pos t with h | h
    · subst h; rw [Nat.mul_zero, Nat.zero_mod] at h1; cases h1
    · exact h
  obtain ⟨k, rfl⟩ : ∃ k, t = k + 1 := ⟨t - 1, by omega⟩
  have h2 : q ∣ k * (k + 2) := by
    have h3 : (k + 1) * (k + 1) % q = 1 % q := by rw [h1, Nat.mod_eq_of_lt (by omega)]
    have h4 := dvd_of_mod h3.symm
    rw [show (k + 1) * (k + 1) - 1 = k * (k + 2) by simp only [Nat.add_mul, Nat.mul_add, Nat.one_mul, Nat.mul_one]; omega] at h4
    exact h4
  rcases hq.euclid h2 with h | h
  · left
    have : k = 0 := by
      rcases Nat.eq_zero_or_pos k with h0 | h0
      · exact h0
      · have := Nat.le_of_dvd h0 h; omega
    omega
  · right
    have := Nat.le_of_dvd (by omega) h
    omega

theorem eul_sq (a : Nat) : a ^ S * a ^ S = a ^ H * a := by rw [← Nat.pow_add, hS, Nat.pow_succ]

theorem eul_zero {a k : Nat} (ha : a % q = 0) (hk : 0 < k) : a ^ k % q = 0 := by
  obtain ⟨j, rfl⟩ : ∃ j, k = j + 1 := ⟨k - 1, by omega⟩
  rw [Nat.pow_succ, Nat.mul_mod, ha, Nat.mul_zero, Nat.zero_mod]

/-- squares are the numbers whose half power is 1, and 0 -/
theorem eul_iff {a : Nat} (ha : ¬ a % q = 0) : a ^ S * a ^ S % q = a % q ↔ a ^ H % q = 1 := by
  rw [eul_sq hq hS hH hodd]
  constructor
  · intro h
    have hc : Nat.Coprime a q := hq.coprime (eul_nd hq hS hH hodd ha)
    have := mod_cancel (a := a ^ H) (b := 1) hc (by rw [Nat.mul_comm, h, Nat.mul_one])
    rw [this, Nat.mod_eq_of_lt (by omega)]
  · intro h
    rw [Nat.mul_mod, h, Nat.one_mul, Nat.mod_mod]

theorem eul_iff0 {a : Nat} (ha : a % q = 0) : a ^ S * a ^ S % q = a % q := by
  rw [eul_sq hq hS hH hodd, Nat.mul_mod, ha, Nat.mul_zero, Nat.zero_mod]

theorem eul_prod {a b : Nat} (ha : ¬ a % q = 0) (hb : ¬ b % q = 0) : ¬ a * b % q = 0 := fun h => by
  rcases hq.euclid (Nat.dvd_of_mod_eq_zero h) with h | h
  · exact eul_nd hq hS hH hodd ha h
  · exact eul_nd hq hS hH hodd hb h

theorem eul_neg2 : (q - 1) * (q - 1) % q = 1 := by
  have e : (q - 1) * (q - 1) = 1 + q * (q - 2) := by
    obtain ⟨k, rfl⟩ : ∃ k, q = k + 2 := ⟨q - 2, by omega⟩
    rw [show k + 2 - 1 = k + 1 by omega, show k + 2 - 2 = k by omega, Nat.add_mul, Nat.add_mul, Nat.mul_add]
    omega
  rw [e, Nat.add_mul_mod_self_left, Nat.mod_eq_of_lt (by omega)]

/-- of squares and others the products -/
theorem eul_forms {a b : Nat} (ha : ¬ a % q = 0) (hb : ¬ b % q = 0) :
    decide ((a * b) ^ S * (a * b) ^ S % q = a * b % q) = (decide (a ^ S * a ^ S % q = a % q) == decide (b ^ S * b ^ S % q = b % q)) := by
  have hp : (a * b) ^ H % q = a ^ H % q * (b ^ H % q) % q := by rw [Nat.mul_pow, Nat.mul_mod]
  have hn := eul_neg2 hq hS hH hodd
  have h1 : (1 : Nat) % q = 1 := Nat.mod_eq_of_lt (by omega)
  have h2 : (q - 1) % q = q - 1 := Nat.mod_eq_of_lt (by omega)
  have key : ((a * b) ^ H % q = 1) ↔ ((a ^ H % q = 1) ↔ (b ^ H % q = 1)) := by
    rw [hp]
    rcases eul_half hq hS hH hodd ha with ea | ea <;> rcases eul_half hq hS hH hodd hb with eb | eb <;> rw [ea, eb]
    · simp [h1]
    · rw [Nat.one_mul, h2]; omega
    · rw [Nat.mul_one, h2]; omega
    · rw [hn]; simp
  rw [Bool.eq_iff_iff]
  simp only [decide_eq_true_eq, beq_iff_eq, decide_eq_decide, eul_iff hq hS hH hodd ha, eul_iff hq hS hH hodd hb, eul_iff hq hS hH hodd (eul_prod hq hS hH hodd ha hb)]
  exact key

/-- a square has a root -/
theorem eul_root (a : Nat) : (a * a) ^ S * (a * a) ^ S % q = a * a % q := by
  by_cases ha : a % q = 0
  · exact eul_iff0 hq hS hH hodd (by rw [Nat.mul_mod, ha, Nat.zero_mul, Nat.zero_mod])
  · rw [eul_iff hq hS hH hodd (eul_prod hq hS hH hodd ha ha), Nat.mul_pow]
    exact eul_one hq hS hH hodd ha

theorem eul_neg {a : Nat} : (q - 1) * a % q = (q - a % q) % q := by
  have hlt : a % q < q := Nat.mod_lt _ (by omega)
  rw [← Nat.mul_mod_mod]
  generalize a % q = c at hlt ⊢
  rcases Nat.eq_zero_or_pos c with h | h
  · subst h; simp
  · have e : (q - 1) * c = (q - c) + q * (c - 1) := by
      obtain ⟨k, rfl⟩ : ∃ k, c = k + 1 := ⟨c - 1, by omega⟩
      rw [Nat.add_sub_cancel, Nat.sub_mul, Nat.one_mul, Nat.mul_add, Nat.mul_one]
      have : k + 1 ≤ q * k + q := by
        have := Nat.le_mul_of_pos_left k (show 0 < q by omega)
        omega
      omega
    rw [e, Nat.add_mul_mod_self_left]

/-- the root is the number or its negative -/
theorem eul_pm (a : Nat) : (a * a) ^ S % q = a % q ∨ (a * a) ^ S % q = (q - a % q) % q := by
  by_cases ha : a % q = 0
  · left
    rw [ha]
    exact eul_zero hq hS hH hodd (by rw [Nat.mul_mod, ha, Nat.zero_mul, Nat.zero_mod]) (by omega)
  · rw [Nat.mul_pow, eul_sq hq hS hH hodd]
    rcases eul_half hq hS hH hodd ha with e | e
    · left
      rw [Nat.mul_mod, e, Nat.one_mul, Nat.mod_mod]
    · right
      rw [← Nat.mod_mul_mod, e]
      exact eul_neg hq hS hH hodd

theorem eul_odd : ∀ k, (q - 1) ^ (2 * k + 1) % q = q - 1
  | 0 => by rw [Nat.mul_zero, Nat.zero_add, Nat.pow_one, Nat.mod_eq_of_lt (by omega)]
  | k + 1 => by
    rw [show 2 * (k + 1) + 1 = (2 * k + 1) + 2 by omega, Nat.pow_add, Nat.mul_mod, eul_odd k, show (q - 1) ^ 2 = (q - 1) * (q - 1) by rw [Nat.pow_succ, Nat.pow_one], eul_neg2 hq hS hH hodd, Nat.mul_one, Nat.mod_eq_of_lt (by omega)]

theorem eul_nz {a : Nat} (ha : ¬ a % q = 0) : ¬ (q - a % q) % q = 0 := by
  have hlt : a % q < q := Nat.mod_lt _ (by omega)
  rw [Nat.mod_eq_of_lt (by omega)]
  omega

/-- of a number and its negative one is a square -/
theorem eul_other {a : Nat} (ha : ¬ a % q = 0) : ((q - a % q) ^ S * (q - a % q) ^ S % q = (q - a % q) % q) ↔ ¬ (a ^ S * a ^ S % q = a % q) := by
  rw [eul_iff hq hS hH hodd (eul_nz hq hS hH hodd ha), eul_iff hq hS hH hodd ha]
  have e : (q - a % q) ^ H % q = (q - 1) * (a ^ H % q) % q := by
    rw [Nat.pow_mod, ← eul_neg hq hS hH hodd, ← Nat.pow_mod, Nat.mul_pow, Nat.mul_mod]
    obtain ⟨k, hk⟩ : ∃ k, H = 2 * k + 1 := ⟨H / 2, by omega⟩
    rw [show (q - 1) ^ H % q = q - 1 by rw [hk]; exact eul_odd hq hS hH hodd k]
  rw [e]
  have hn := eul_neg2 hq hS hH hodd
  rcases eul_half hq hS hH hodd ha with h | h <;> rw [h]
  · rw [Nat.mul_one, Nat.mod_eq_of_lt (by omega)]; omega
  · rw [hn]; omega
end
end Go.Proofs.YtkeommkcjigioaaDoor
