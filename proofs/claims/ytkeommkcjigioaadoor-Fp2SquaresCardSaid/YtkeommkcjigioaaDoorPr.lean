/- Primes: Fermat's theorem, and Pocklington's test. Conditions: those of each theorem. -/
namespace Go.Proofs.YtkeommkcjigioaaDoor
set_option linter.unusedVariables false

def IsP (q : Nat) : Prop := 1 < q ∧ ∀ d, d ∣ q → d = 1 ∨ d = q

theorem perm_sub {α : Type} [DecidableEq α] : ∀ {l m : List α}, l.Nodup → (∀ x ∈ l, x ∈ m) → m.length ≤ l.length → l.Perm m
  | [], m, h, hs, hl => by
    have : m = [] := List.eq_nil_of_length_eq_zero (by simpa using hl)
    subst this
    exact List.Perm.refl _
  | x :: l, m, h, hs, hl => by
    have hx : x ∈ m := hs x (by simp)
    have hp := List.perm_cons_erase hx
    have hlen := hp.length_eq
    rw [List.nodup_cons] at h
    refine (List.Perm.cons x (perm_sub h.2 (fun y hy => ?_) ?_)).trans hp.symm
    · have hne : y ≠ x := fun e => h.1 (e ▸ hy)
      exact (List.mem_erase_of_ne hne).2 (hs y (by simp [hy]))
    · simp at hlen hl
      omega

def prodL : List Nat → Nat
  | [] => 1
  | x :: l => x * prodL l

theorem prodL_perm {l m : List Nat} (h : l.Perm m) : prodL l = prodL m := by
  induction h with
  | nil => rfl
  | cons x _ ih => simp only [prodL, ih]
  | swap x y l => simp only [prodL]; rw [← Nat.mul_assoc, Nat.mul_comm y x, Nat.mul_assoc]
  | trans _ _ h1 h2 => exact h1.trans h2

theorem IsP.coprime {q a : Nat} (hq : IsP q) (h : ¬ q ∣ a) : Nat.Coprime a q := by
  have hd := hq.2 (Nat.gcd a q) (Nat.gcd_dvd_right a q)
  rcases hd with hd | hd
  · exact hd
  · exact absurd (hd ▸ Nat.gcd_dvd_left a q) h

theorem IsP.euclid {q a b : Nat} (hq : IsP q) (h : q ∣ a * b) : q ∣ a ∨ q ∣ b := by
  by_cases ha : q ∣ a
  · exact .inl ha
  · exact .inr ((hq.coprime ha).symm.dvd_of_dvd_mul_left h)

theorem prodL_map (a q : Nat) : ∀ l : List Nat, prodL (l.map fun i => a * i % q) % q = a ^ l.length * prodL l % q
  | [] => by simp [prodL]
  | x :: l => by
    simp only [List.map_cons, prodL, List.length_cons, Nat.pow_succ]
    rw [Nat.mul_mod, prodL_map a q l, Nat.mod_mod, ← Nat.mul_mod]
    congr 1
    ac_rfl

theorem prodL_dvd {q : Nat} (hq : IsP q) : ∀ l : List Nat, (∀ x ∈ l, ¬ q ∣ x) → ¬ q ∣ prodL l
  | [], _, h => by
    have := Nat.le_of_dvd (by simp [prodL]) h
    have := hq.1
    simp [prodL] at *
    omega
  | x :: l, hx, h => by
    rcases hq.euclid h with h | h
    · exact hx x (by simp) h
    · exact prodL_dvd hq l (fun y hy => hx y (by simp [hy])) h

theorem dvd_of_mod {q x y : Nat} (h : x % q = y % q) : q ∣ y - x := Nat.dvd_of_mod_eq_zero (Nat.sub_mod_eq_zero_of_mod_eq h.symm)
theorem mod_of_dvd {q x y : Nat} (hxy : x ≤ y) (h : q ∣ y - x) : x % q = y % q := by
  obtain ⟨t, ht⟩ := h
  rw [show y = x + q * t by omega, Nat.add_mul_mod_self_left]

theorem nodup_map {α β : Type} {f : α → β} {l : List α} (hf : ∀ x ∈ l, ∀ y ∈ l, f x = f y → x = y) (h : l.Nodup) : (l.map f).Nodup := by
  unfold List.Nodup at *
  rw [List.pairwise_map]
  exact List.Pairwise.imp_of_mem (fun hx hy hne he => hne (hf _ hx _ hy he)) h

theorem mod_cancel {q a b c : Nat} (hc : Nat.Coprime c q) (h : c * a % q = c * b % q) : a % q = b % q := by
  have key : ∀ x y : Nat, x ≤ y → c * x % q = c * y % q → x % q = y % q := fun x y hxy h => by
    have h1 : q ∣ c * (y - x) := by
      rw [Nat.mul_sub]
      exact dvd_of_mod h
    have h2 : q ∣ y - x := hc.symm.dvd_of_dvd_mul_left h1
    exact mod_of_dvd hxy h2
  rcases Nat.le_total a b with h' | h'
  · exact key a b h' h
  · exact (key b a h' h.symm).symm

/-- Fermat's theorem -/
theorem fermat {q a : Nat} (hq : IsP q) (ha : ¬ q ∣ a) : a ^ (q - 1) % q = 1 := by
  have hq1 := hq.1
  have hco := hq.coprime ha
  have nd : ((List.range' 1 (q - 1)).map fun i => a * i % q).Nodup := by
    refine nodup_map (fun x hx y hy h => ?_) List.nodup_range'
    have := mod_cancel hco h
    simp [List.mem_range'_1] at hx hy
    rwa [Nat.mod_eq_of_lt (by omega), Nat.mod_eq_of_lt (by omega)] at this
  have hp : ((List.range' 1 (q - 1)).map fun i => a * i % q).Perm (List.range' 1 (q - 1)) := by
    refine perm_sub nd (fun x hx => ?_) (by simp)
    obtain ⟨i, hi, rfl⟩ := List.mem_map.1 hx
    simp [List.mem_range'_1] at hi ⊢
    have hlt : a * i % q < q := Nat.mod_lt _ (by omega)
    have hne : a * i % q ≠ 0 := fun h0 => by
      rcases hq.euclid (Nat.dvd_of_mod_eq_zero h0) with h | h
      · exact ha h
      · have := Nat.le_of_dvd (by omega) h; omega
    omega
  have h1 := prodL_map a q (List.range' 1 (q - 1))
  rw [prodL_perm hp, List.length_range'] at h1
  have hnd : ¬ q ∣ prodL (List.range' 1 (q - 1)) := prodL_dvd hq _ fun x hx h => by
    simp [List.mem_range'_1] at hx
    have := Nat.le_of_dvd (by omega) h
    omega
  have h2 := mod_cancel (hq.coprime hnd) (a := 1) (b := a ^ (q - 1)) (by rw [Nat.mul_one, h1, Nat.mul_comm])
  rw [Nat.mod_eq_of_lt hq1] at h2
  exact h2.symm

/-- no number from d on, so many, divides n -/
def tries (n : Nat) : Nat → Nat → Bool
  | 0, _ => true
  | f + 1, d => match Nat.beq (n % d) 0 with
    | true => false
    | false => tries n f (d + 1)

theorem tries_ok {n : Nat} : ∀ {f d : Nat}, tries n f d = true → ∀ e, d ≤ e → e < d + f → ¬ e ∣ n
  | 0, d, h, e, h1, h2, _ => by omega
  | f + 1, d, h, e, h1, h2, hd => by
    simp only [tries] at h
    cases hb : Nat.beq (n % d) 0 with
    | true => rw [hb] at h; cases h
    | false =>
      rw [hb] at h
      by_cases he : e = d
      · subst he
        exact Nat.ne_of_beq_eq_false hb (Nat.mod_eq_zero_of_dvd hd)
      · exact tries_ok h e (by omega) (by omega) hd

theorem isP_of_tries {n k : Nat} (hn : 1 < n) (hk : n < (k + 2) * (k + 2)) (h : tries n k 2 = true) : IsP n := by
  refine ⟨hn, fun d hd => ?_⟩
  by_cases h1 : d = 1
  · exact .inl h1
  right
  obtain ⟨e, he⟩ := hd
  have hd0 : 0 < d := by
    rcases Nat.eq_zero_or_pos d with h0 | h0
    · subst h0; omega
    · exact h0
  by_cases hdk : d < 2 + k
  · exact absurd ⟨e, he⟩ (tries_ok h d (by omega) hdk)
  · by_cases hek : e < 2 + k
    · by_cases he1 : e = 1
      · subst he1; omega
      · have he0 : 0 < e := by
          rcases Nat.eq_zero_or_pos e with h0 | h0
          · subst h0; omega
          · exact h0
        exact absurd ⟨d, by rw [he, Nat.mul_comm]⟩ (tries_ok h e (by omega) hek)
    · have : (k + 2) * (k + 2) ≤ d * e := Nat.mul_le_mul (by omega) (by omega)
      omega

theorem prime_factor : ∀ n : Nat, 1 < n → ∃ q, IsP q ∧ q ∣ n := by
  intro n
  induction n using Nat.strongRecOn with
  | _ n ih =>
    intro hn
    by_cases hp : ∀ d, d ∣ n → d = 1 ∨ d = n
    · exact ⟨n, ⟨hn, hp⟩, Nat.dvd_refl n⟩
    · obtain ⟨d, hd⟩ := Classical.not_forall.1 hp
      obtain ⟨hd, hne⟩ := Classical.not_imp.1 hd
      have hle := Nat.le_of_dvd (by omega) hd
      have hd0 : 0 < d := Nat.pos_of_dvd_of_pos hd (by omega)
      have h1 : d ≠ 1 := fun e => hne (.inl e)
      have h2 : d ≠ n := fun e => hne (.inr e)
      obtain ⟨q, hq, hqd⟩ := ih d (by omega) (by omega)
      exact ⟨q, hq, Nat.dvd_trans hqd hd⟩

theorem pow_one_mod {q t : Nat} (hq : 1 < q) (h : t % q = 1) (k : Nat) : t ^ k % q = 1 := by
  rw [Nat.pow_mod, h, Nat.one_pow, Nat.mod_eq_of_lt hq]

theorem pock_step {n q l a : Nat} (hq : IsP q) (hqn : q ∣ n) (hl : IsP l) (hln : l ∣ n - 1) (h1 : a ^ (n - 1) % n = 1) (h2 : Nat.Coprime (a ^ ((n - 1) / l) % n + n - 1) n) : l ∣ q - 1 := by
  refine Classical.byContradiction fun hnd => ?_
  have hq1 := hq.1
  have hl1 := hl.1
  have hn0 : 0 < n := by
    rcases Nat.eq_zero_or_pos n with h | h
    · subst h; simp at h2 h1
    · exact h
  have hmod : ∀ x : Nat, x % n % q = x % q := fun x => Nat.mod_mod_of_dvd x hqn
  have h1q : a ^ (n - 1) % q = 1 := by rw [← hmod, h1, Nat.mod_eq_of_lt hq1]
  have hn1 : n - 1 ≠ 0 := by
    intro h
    have : n = 1 := by omega
    subst this
    have := Nat.le_of_dvd (by omega) hqn
    omega
  have hqa : ¬ q ∣ a := fun h => by
    have : q ∣ a ^ (n - 1) := by rw [show n - 1 = (n - 2) + 1 by omega, Nat.pow_succ]; exact Nat.dvd_trans h (Nat.dvd_mul_left _ _)
    have := Nat.mod_eq_zero_of_dvd this
    omega
  have hf := fermat hq hqa
  have hfl := fermat hl hnd
  generalize ht : a ^ ((n - 1) / l) = t at h2
  have e1 : t ^ l % q = 1 := by rw [← ht, ← Nat.pow_mul, Nat.div_mul_cancel hln]; exact h1q
  have e2 : t ^ (q - 1) % q = 1 := by
    rw [← ht, ← Nat.pow_mul, Nat.mul_comm, Nat.pow_mul]
    exact pow_one_mod hq1 hf _
  have hk : (q - 1) ^ (l - 1) = 1 + l * ((q - 1) ^ (l - 1) / l) := by
    have := Nat.div_add_mod ((q - 1) ^ (l - 1)) l
    omega
  have e3 : t ^ ((q - 1) ^ (l - 1)) % q = 1 := by
    rw [show l - 1 = (l - 2) + 1 by omega, Nat.pow_succ, Nat.mul_comm, Nat.pow_mul]
    exact pow_one_mod hq1 e2 _
  have e4 : t ^ ((q - 1) ^ (l - 1)) % q = t % q := by
    rw [hk, Nat.pow_add, Nat.pow_one, Nat.pow_mul, Nat.mul_mod, pow_one_mod hq1 e1, Nat.mul_one, Nat.mod_mod]
  have e5 : t % q = 1 := e4.symm.trans e3
  have hdv : q ∣ t % n + n - 1 := by
    have h6 : (t % n) % q = 1 % q := by rw [hmod, e5, Nat.mod_eq_of_lt hq1]
    have h7 : 1 ≤ t % n := by
      rcases Nat.eq_zero_or_pos (t % n) with h | h
      · rw [h, Nat.zero_mod, Nat.mod_eq_of_lt hq1] at h6; omega
      · exact h
    have h8 : q ∣ t % n - 1 := dvd_of_mod h6.symm
    rw [show t % n + n - 1 = (t % n - 1) + n by omega]
    exact Nat.dvd_add h8 hqn
  have := Nat.dvd_gcd hdv hqn
  rw [h2] at this
  have := Nat.le_of_dvd (by omega) this
  omega

theorem prod_dvd {m : Nat} : ∀ {ls : List Nat}, (∀ x ∈ ls, IsP x ∧ x ∣ m) → ls.Nodup → prodL ls ∣ m
  | [], h, hn => by simp [prodL]
  | x :: ls, h, hn => by
    rw [List.nodup_cons] at hn
    have hx := h x (by simp)
    have hr := prod_dvd (fun y hy => h y (by simp [hy])) hn.2
    have hnd : ¬ x ∣ prodL ls := prodL_dvd hx.1 ls fun y hy hd => by
      rcases (h y (by simp [hy])).1.2 x hd with e | e
      · have := hx.1.1; omega
      · exact hn.1 (e ▸ hy)
    exact Nat.Coprime.mul_dvd_of_dvd_of_dvd (hx.1.coprime hnd).symm hx.2 hr

/-- Pocklington's test -/
theorem pock {n : Nat} (hn : 1 < n) (ls : List (Nat × Nat)) (h : ∀ x ∈ ls, IsP x.1 ∧ x.1 ∣ n - 1 ∧ x.2 ^ (n - 1) % n = 1 ∧ Nat.Coprime (x.2 ^ ((n - 1) / x.1) % n + n - 1) n)
    (hd : (ls.map (·.1)).Nodup) (hb : n < (prodL (ls.map (·.1)) + 1) * (prodL (ls.map (·.1)) + 1)) : IsP n := by
  have big : ∀ q, IsP q → q ∣ n → n < q * q := fun q hq hqn => by
    have hdv : prodL (ls.map (·.1)) ∣ q - 1 := prod_dvd (fun x hx => by
      obtain ⟨y, hy, rfl⟩ := List.mem_map.1 hx
      obtain ⟨h1, h2, h3, h4⟩ := h y hy
      exact ⟨h1, pock_step hq hqn h1 h2 h3 h4⟩) hd
    have hq1 := hq.1
    have := Nat.le_of_dvd (by omega) hdv
    exact Nat.lt_of_lt_of_le hb (Nat.mul_le_mul (by omega) (by omega))
  refine ⟨hn, fun d hdn => ?_⟩
  obtain ⟨e, he⟩ := hdn
  by_cases h1 : d = 1
  · exact .inl h1
  right
  by_cases he1 : e = 1
  · subst he1; omega
  exfalso
  have hd0 : d ≠ 0 := fun h => by subst h; omega
  have he0 : e ≠ 0 := fun h => by subst h; omega
  obtain ⟨p, hp, hpd⟩ := prime_factor d (by omega)
  obtain ⟨q, hq, hqe⟩ := prime_factor e (by omega)
  have b1 := big p hp (Nat.dvd_trans hpd ⟨e, he⟩)
  have b2 := big q hq (Nat.dvd_trans hqe ⟨d, by rw [he, Nat.mul_comm]⟩)
  have l1 := Nat.le_of_dvd (by omega) hpd
  have l2 := Nat.le_of_dvd (by omega) hqe
  rcases Nat.le_total d e with hde | hde
  · have : p * p ≤ d * e := Nat.mul_le_mul l1 (by omega)
    omega
  · have : q * q ≤ d * e := Nat.mul_le_mul (by omega) l2
    omega

def pwM (b m : Nat) : Nat → Nat → Nat
  | 0, _ => 1 % m
  | f + 1, e => if e % 2 = 1 then pwM b m f (e / 2) * pwM b m f (e / 2) % m * b % m else pwM b m f (e / 2) * pwM b m f (e / 2) % m

theorem pwM_eq (b m : Nat) : ∀ (f e : Nat), e < 2 ^ f → pwM b m f e = b ^ e % m
  | 0, e, h => by
    have : e = 0 := by simpa using h
    subst this
    rfl
  | f + 1, e, h => by
    have h2 : e / 2 < 2 ^ f := by rw [Nat.pow_succ] at h; omega
    have he : e = e / 2 + e / 2 + e % 2 := by omega
    simp only [pwM, pwM_eq b m f (e / 2) h2]
    split
    · rename_i h1
      conv => rhs; rw [he, h1, Nat.pow_succ, Nat.pow_add]
      rw [← Nat.mul_mod, Nat.mod_mul_mod]
    · rename_i h1
      have h0 : e % 2 = 0 := by omega
      conv => rhs; rw [he, h0, Nat.add_zero, Nat.pow_add]
      rw [← Nat.mul_mod]

/-- the test's reckoning, by squares and products -/
def pockB (n f : Nat) (ls : List (Nat × Nat)) : Bool := ls.all fun x => Nat.beq ((n - 1) % x.1) 0 && (Nat.beq (pwM x.2 n f (n - 1)) 1 && Nat.beq (Nat.gcd (pwM x.2 n f ((n - 1) / x.1) + n - 1) n) 1)

theorem isP_pock {n f : Nat} (hn : 1 < n) (hf : n ≤ 2 ^ f) (ls : List (Nat × Nat)) (hp : ∀ x ∈ ls, IsP x.1) (h : pockB n f ls = true)
    (hd : (ls.map (·.1)).Nodup) (hb : n < (prodL (ls.map (·.1)) + 1) * (prodL (ls.map (·.1)) + 1)) : IsP n := by
  refine pock hn ls (fun x hx => ?_) hd hb
  have := List.all_eq_true.1 h x hx
  simp only [Bool.and_eq_true] at this
  obtain ⟨h1, h2, h3⟩ := this
  have h2 := Nat.eq_of_beq_eq_true h2
  have h3 := Nat.eq_of_beq_eq_true h3
  rw [pwM_eq _ _ _ _ (by omega)] at h2
  rw [pwM_eq _ _ _ _ (Nat.lt_of_le_of_lt (Nat.div_le_self _ _) (by omega))] at h3
  exact ⟨hp x hx, Nat.dvd_of_mod_eq_zero (Nat.eq_of_beq_eq_true h1), h2, h3⟩

end Go.Proofs.YtkeommkcjigioaaDoor
