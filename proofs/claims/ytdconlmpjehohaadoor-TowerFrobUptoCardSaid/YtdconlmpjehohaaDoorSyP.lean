/- Sums of products of whole numbers, brought to one form. Conditions: none; plain definitions and lemmas. -/
import Derived.Test.YtdconlmpjehohaaDoorSxG
namespace Go.Proofs.YtdconlmpjehohaaDoor.Sx
set_option linter.unusedVariables false

abbrev Mono := List Nat
abbrev Poly := List (Mono × Int)

/-- -1: less, 0: same, 1: greater (as 0, 1, 2) -/
def cmpM : Mono → Mono → Nat
  | [], [] => 1
  | [], _ :: _ => 0
  | _ :: _, [] => 2
  | x :: xs, y :: ys => match Nat.blt x y with
    | true => 0
    | false => match Nat.beq x y with
      | true => cmpM xs ys
      | false => 2

theorem cmpM_eq : ∀ {x y : Mono}, cmpM x y = 1 → x = y
  | [], [], _ => rfl
  | [], _ :: _, h => by simp [cmpM] at h
  | _ :: _, [], h => by simp [cmpM] at h
  | x :: xs, y :: ys, h => by
    simp only [cmpM] at h
    cases hl : Nat.blt x y with
    | true => rw [hl] at h; simp at h
    | false =>
      rw [hl] at h
      dsimp only at h
      cases he : Nat.beq x y with
      | true => rw [he] at h; rw [Nat.eq_of_beq_eq_true he, cmpM_eq h]
      | false => rw [he] at h; simp at h

def mergeM : Nat → Mono → Mono → Mono
  | 0, xs, ys => xs ++ ys
  | _ + 1, [], ys => ys
  | _ + 1, x :: xs, [] => x :: xs
  | k + 1, x :: xs, y :: ys => match Nat.ble x y with
    | true => x :: mergeM k xs (y :: ys)
    | false => y :: mergeM k (x :: xs) ys

def addP : Nat → Poly → Poly → Poly
  | 0, p, q => p ++ q
  | _ + 1, [], q => q
  | _ + 1, t :: p, [] => t :: p
  | k + 1, (m, a) :: p, (l, b) :: q => match cmpM m l with
    | 0 => (m, a) :: addP k p ((l, b) :: q)
    | 1 => match a + b with
      | .ofNat 0 => addP k p q
      | c => (m, c) :: addP k p q
    | _ => (l, b) :: addP k ((m, a) :: p) q

def scaleP (m : Mono) (a : Int) : Poly → Poly
  | [] => []
  | (l, b) :: p => (mergeM (m.length + l.length) m l, a * b) :: scaleP m a p

def mulP : Poly → Poly → Poly
  | [], _ => []
  | (m, a) :: p, q => let r := mulP p q
    let s := scaleP m a q
    addP (s.length + r.length) s r

def negP : Poly → Poly
  | [] => []
  | (m, a) :: p => (m, -a) :: negP p

section
variable (ρ : Nat → Int)

def evM : Mono → Int
  | [] => 1
  | x :: xs => ρ x * evM xs

def evP : Poly → Int
  | [] => 0
  | (m, a) :: p => a * evM ρ m + evP p

theorem evM_append (m l : Mono) : evM ρ (m ++ l) = evM ρ m * evM ρ l := by
  induction m with
  | nil => simp [evM]
  | cons x xs ih => simp only [List.cons_append, evM, ih, Int.mul_assoc]

theorem evP_append (p q : Poly) : evP ρ (p ++ q) = evP ρ p + evP ρ q := by
  induction p with
  | nil => simp [evP]
  | cons t p ih => obtain ⟨m, a⟩ := t; simp only [List.cons_append, evP, ih, Int.add_assoc]

theorem evM_merge : ∀ (k : Nat) (m l : Mono), evM ρ (mergeM k m l) = evM ρ m * evM ρ l
  | 0, m, l => evM_append ρ m l
  | k + 1, [], l => by simp [mergeM, evM]
  | k + 1, x :: xs, [] => by simp [mergeM, evM]
  | k + 1, x :: xs, y :: ys => by
    simp only [mergeM]
    split
    · simp only [evM, evM_merge k xs (y :: ys), Int.mul_assoc]
    · simp only [evM, evM_merge k (x :: xs) ys]
      rw [← Int.mul_assoc (ρ y), Int.mul_comm (ρ y), Int.mul_assoc]

theorem evP_add : ∀ (k : Nat) (p q : Poly), evP ρ (addP k p q) = evP ρ p + evP ρ q
  | 0, p, q => evP_append ρ p q
  | k + 1, [], q => by simp [addP, evP]
  | k + 1, t :: p, [] => by simp [addP, evP]
  | k + 1, (m, a) :: p, (l, b) :: q => by
    simp only [addP]
    split
    · simp only [evP, evP_add k p ((l, b) :: q)]; omega
    · rename_i h
      have e := cmpM_eq h
      subst e
      split
      · rename_i h0
        have h0 : a + b = 0 := h0
        have : a * evM ρ m + b * evM ρ m = 0 := by rw [← Int.add_mul, h0, Int.zero_mul]
        simp only [evP, evP_add k p q]; omega
      · simp only [evP, evP_add k p q, Int.add_mul]; omega
    · simp only [evP, evP_add k ((m, a) :: p) q]; omega

theorem evP_scale (m : Mono) (a : Int) : ∀ (p : Poly), evP ρ (scaleP m a p) = a * evM ρ m * evP ρ p
  | [] => by simp [scaleP, evP]
  | (l, b) :: p => by
    simp only [scaleP, evP, evP_scale m a p, evM_merge, Int.mul_add]
    congr 1
    ac_rfl

theorem evP_mul : ∀ (p q : Poly), evP ρ (mulP p q) = evP ρ p * evP ρ q
  | [], q => by simp [mulP, evP]
  | (m, a) :: p, q => by
    simp only [mulP, evP, evP_add, evP_scale, evP_mul p q, Int.add_mul]

theorem evP_neg : ∀ (p : Poly), evP ρ (negP p) = - evP ρ p
  | [] => by simp [negP, evP]
  | (m, a) :: p => by
    simp only [negP, evP, evP_neg p, Int.neg_mul]; omega
end

def eqbM : Mono → Mono → Bool
  | [], [] => true
  | x :: xs, y :: ys => Nat.beq x y && eqbM xs ys
  | _, _ => false

theorem eqbM_eq : ∀ {x y : Mono}, eqbM x y = true → x = y
  | [], [], _ => rfl
  | x :: xs, y :: ys, h => by
    simp only [eqbM, Bool.and_eq_true] at h
    rw [Nat.eq_of_beq_eq_true h.1, eqbM_eq h.2]
  | [], _ :: _, h => by simp [eqbM] at h
  | _ :: _, [], h => by simp [eqbM] at h

def eqbI : Int → Int → Bool
  | .ofNat a, .ofNat b => Nat.beq a b
  | .negSucc a, .negSucc b => Nat.beq a b
  | _, _ => false

theorem eqbI_eq : ∀ {x y : Int}, eqbI x y = true → x = y
  | .ofNat a, .ofNat b, h => by rw [Nat.eq_of_beq_eq_true h]
  | .negSucc a, .negSucc b, h => by rw [Nat.eq_of_beq_eq_true h]
  | .ofNat a, .negSucc b, h => by simp [eqbI] at h
  | .negSucc a, .ofNat b, h => by simp [eqbI] at h

/-- all factors are nought modulo q -/
def nilP (q : Nat) : Poly → Bool
  | [] => true
  | (_, a) :: p => match a % (q : Int) with
    | .ofNat 0 => nilP q p
    | _ => false

theorem nilP_ok (ρ : Nat → Int) (q : Nat) : ∀ (p : Poly), nilP q p = true → evP ρ p % (q : Int) = 0
  | [], _ => by simp [evP]
  | (m, a) :: p, h => by
    simp only [nilP] at h
    split at h
    · rename_i h0
      have h0 : a % (q : Int) = 0 := h0
      have ih := nilP_ok ρ q p h
      simp only [evP]
      rw [Int.add_emod, ih, Int.mul_emod, h0, Int.zero_mul]
      simp
    · cases h

/-- sums, differences, products of atoms; 0: a number as it is -/
def norm (atom : E → Option Nat) : E → Option Poly
  | .dt i => match atom (.dt i) with
    | some j => some [([j], 1)]
    | none => none
  | .op k a b => match k with
    | 0 => match a with
      | .dt 0 => some []
      | .dt (n + 1) => some [([], (n : Int) + 1)]
      | _ => none
    | 1 => match norm atom a, norm atom b with
      | some p, some q => some (addP (p.length + q.length) p q)
      | _, _ => none
    | 2 => match norm atom a, norm atom b with
      | some p, some q => some (mulP p q)
      | _, _ => none
    | 3 => match norm atom a, norm atom b with
      | some p, some q => some (addP (p.length + q.length) p (negP q))
      | _, _ => none
    | 4 => match norm atom a with
      | some p => some (negP p)
      | none => none
    | k => match atom (.op k a b) with
      | some j => some [([j], 1)]
      | none => none

/-- numbers of a field, by a code -/
structure Fld where
  q : Nat
  pos : 0 < q
  ev : E → Nat
  lit : ∀ n b, ev (.op 0 (.dt n) b) = n
  add : ∀ a b, ev (.op 1 a b) = ev a + ev b
  mul : ∀ a b, ev (.op 2 a b) = ev a * ev b
  sub : ∀ a b, ev (.op 3 a b) = ev a + (q - ev b % q)
  neg : ∀ a b, ev (.op 4 a b) = q - ev a % q

theorem norm_ok (Φ : Fld) {atom : E → Option Nat} {ρ : Nat → Int} (hat : ∀ e j, atom e = some j → (Φ.ev e : Int) % (Φ.q : Int) = ρ j % (Φ.q : Int)) : ∀ {e : E} {p : Poly}, norm atom e = some p → (Φ.ev e : Int) % (Φ.q : Int) = evP ρ p % (Φ.q : Int)
  | .dt i, p, h => by
    simp only [norm] at h
    split at h
    · rename_i j hj
      injection h with h; subst h
      simp [evP, evM, hat _ _ hj]
    · cases h
  | .op k a b, p, h => by
    have hq : ∀ x : Nat, ((Φ.q - x % Φ.q : Nat) : Int) % (Φ.q : Int) = (-(x : Int)) % (Φ.q : Int) := by
      intro x
      have hlt : x % Φ.q < Φ.q := Nat.mod_lt _ Φ.pos
      rw [Int.natCast_sub (Nat.le_of_lt hlt), Int.natCast_emod, Int.sub_emod, Int.emod_self, Int.emod_emod_of_dvd _ (Int.dvd_refl _), ← Int.zero_emod (Φ.q : Int), ← Int.sub_emod, Int.zero_sub]
    simp only [norm] at h
    split at h
    · split at h
      · injection h with h; subst h; rw [Φ.lit]; simp [evP]
      · injection h with h; subst h; rw [Φ.lit]; simp [evP, evM]
      · cases h
    · split at h
      · rename_i x y h1 h2
        injection h with h; subst h
        rw [Φ.add, evP_add, Int.natCast_add, Int.add_emod, norm_ok Φ hat h1, norm_ok Φ hat h2, ← Int.add_emod]
      · cases h
    · split at h
      · rename_i x y h1 h2
        injection h with h; subst h
        rw [Φ.mul, evP_mul, Int.natCast_mul, Int.mul_emod, norm_ok Φ hat h1, norm_ok Φ hat h2, ← Int.mul_emod]
      · cases h
    · split at h
      · rename_i x y h1 h2
        injection h with h; subst h
        have h3 : (-(Φ.ev b : Int)) % (Φ.q : Int) = (- evP ρ y) % (Φ.q : Int) := by
          rw [← Int.zero_sub, Int.sub_emod, norm_ok Φ hat h2, ← Int.sub_emod, Int.zero_sub]
        rw [Φ.sub, evP_add, evP_neg, Int.natCast_add, Int.add_emod, norm_ok Φ hat h1, hq, h3, ← Int.add_emod]
      · cases h
    · split at h
      · rename_i x h1
        injection h with h; subst h
        rw [Φ.neg, evP_neg, hq, ← Int.zero_sub, Int.sub_emod, norm_ok Φ hat h1, ← Int.sub_emod, Int.zero_sub]
      · cases h
    · split at h
      · rename_i j hj
        injection h with h; subst h
        simp [evP, evM, hat _ _ hj]
      · cases h

/-- are two numbers alike modulo q: by their sums of products -/
def sameP (q : Nat) (atom : E → Option Nat) (a b : E) : Bool := match norm atom (.op 3 a b) with
  | some p => nilP q p
  | none => false

theorem sameP_ok (Φ : Fld) {atom : E → Option Nat} {ρ : Nat → Int} (hat : ∀ e j, atom e = some j → (Φ.ev e : Int) % (Φ.q : Int) = ρ j % (Φ.q : Int)) {a b : E} (h : sameP Φ.q atom a b = true) : Φ.ev a % Φ.q = Φ.ev b % Φ.q := by
  unfold sameP at h
  cases hn : norm atom (.op 3 a b) with
  | none => rw [hn] at h; cases h
  | some p =>
    rw [hn] at h
    have h1 := nilP_ok ρ Φ.q p h
    have h2 := norm_ok Φ hat hn
    rw [h1, Φ.sub] at h2
    have hlt : Φ.ev b % Φ.q < Φ.q := Nat.mod_lt _ Φ.pos
    have h3 : (Φ.ev a + (Φ.q - Φ.ev b % Φ.q)) % Φ.q = 0 := by exact_mod_cast h2
    have h4 : (Φ.ev a + (Φ.q - Φ.ev b % Φ.q) + Φ.ev b % Φ.q) % Φ.q = Φ.ev b % Φ.q := by
      rw [Nat.add_mod, h3, Nat.zero_add, Nat.mod_mod, Nat.mod_mod]
    rw [show Φ.ev a + (Φ.q - Φ.ev b % Φ.q) + Φ.ev b % Φ.q = Φ.ev a + Φ.q by omega, Nat.add_mod_right] at h4
    exact h4

end Go.Proofs.YtdconlmpjehohaaDoor.Sx
