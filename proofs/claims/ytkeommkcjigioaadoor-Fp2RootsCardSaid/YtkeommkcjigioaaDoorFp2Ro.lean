/- Texts in one: Pr, Prfp, Eul, Fp2M, Fp2N, Fp2F, Fp2G. Conditions: those of each theorem. -/
import Derived.Test.YtkeommkcjigioaaDoorFp2A
import Derived.Test.YtkeommkcjigioaaDoorSyFpW
import Derived.Test.YtkeommkcjigioaaDoorSyFpX

/- Primes: Fermat's theorem, and Pocklington's test. Conditions: those of each theorem. -/
namespace Go.Proofs.YtkeommkcjigioaaDoor
set_option linter.unusedVariables false

def IsP (q : Nat) : Prop := 1 < q ∧ ∀ d, d ∣ q → d = 1 ∨ d = q

theorem perm_sub {α : Type} [DecidableEq α] : ∀ {l m : List α}, l.Nodup → (∀ x ∈ l, x ∈ m) → m.length ≤ l.length → l.Perm m
  | [], m, h, hs, hl => by
    have : m = [] := List.eq_nil_of_length_eq_zero (by simpa using hl)
    subst this
    exact List.Perm.refl _
  | x :: l, m, h, hs, hl => by
    have hx : x ∈ m := hs x (by simp)
    have hp := List.perm_cons_erase hx
    have hlen := hp.length_eq
    rw [List.nodup_cons] at h
    refine (List.Perm.cons x (perm_sub h.2 (fun y hy => ?_) ?_)).trans hp.symm
    · have hne : y ≠ x := fun e => h.1 (e ▸ hy)
      exact (List.mem_erase_of_ne hne).2 (hs y (by simp [hy]))
    · simp at hlen hl
      omega

def prodL : List Nat → Nat
  | [] => 1
  | x :: l => x * prodL l

theorem prodL_perm {l m : List Nat} (h : l.Perm m) : prodL l = prodL m := by
  induction h with
  | nil => rfl
  | cons x _ ih => simp only [prodL, ih]
  | swap x y l => simp only [prodL]; rw [← Nat.mul_assoc, Nat.mul_comm y x, Nat.mul_assoc]
  | trans _ _ h1 h2 => exact h1.trans h2

theorem IsP.coprime {q a : Nat} (hq : IsP q) (h : ¬ q ∣ a) : Nat.Coprime a q := by
  have hd := hq.2 (Nat.gcd a q) (Nat.gcd_dvd_right a q)
  rcases hd with hd | hd
  · exact hd
  · exact absurd (hd ▸ Nat.gcd_dvd_left a q) h

theorem IsP.euclid {q a b : Nat} (hq : IsP q) (h : q ∣ a * b) : q ∣ a ∨ q ∣ b := by
  by_cases ha : q ∣ a
  · exact .inl ha
  · exact .inr ((hq.coprime ha).symm.dvd_of_dvd_mul_left h)

theorem prodL_map (a q : Nat) : ∀ l : List Nat, prodL (l.map fun i => a * i % q) % q = a ^ l.length * prodL l % q
  | [] => by simp [prodL]
  | x :: l => by
    simp only [List.map_cons, prodL, List.length_cons, Nat.pow_succ]
    rw [Nat.mul_mod, prodL_map a q l, Nat.mod_mod, ← Nat.mul_mod]
    congr 1
    ac_rfl

theorem prodL_dvd {q : Nat} (hq : IsP q) : ∀ l : List Nat, (∀ x ∈ l, ¬ q ∣ x) → ¬ q ∣ prodL l
  | [], _, h => by
    have := Nat.le_of_dvd (by simp [prodL]) h
    have := hq.1
    simp [prodL] at *
    omega
  | x :: l, hx, h => by
    rcases hq.euclid h with h | h
    · exact hx x (by simp) h
    · exact prodL_dvd hq l (fun y hy => hx y (by simp [hy])) h

theorem dvd_of_mod {q x y : Nat} (h : x % q = y % q) : q ∣ y - x := Nat.dvd_of_mod_eq_zero (Nat.sub_mod_eq_zero_of_mod_eq h.symm)
theorem mod_of_dvd {q x y : Nat} (hxy : x ≤ y) (h : q ∣ y - x) : x % q = y % q := by
  obtain ⟨t, ht⟩ := h
  rw [show y = x + q * t by omega, Nat.add_mul_mod_self_left]

theorem nodup_map {α β : Type} {f : α → β} {l : List α} (hf : ∀ x ∈ l, ∀ y ∈ l, f x = f y → x = y) (h : l.Nodup) : (l.map f).Nodup := by
  unfold List.Nodup at *
  rw [List.pairwise_map]
  exact List.Pairwise.imp_of_mem (fun hx hy hne he => hne (hf _ hx _ hy he)) h

theorem mod_cancel {q a b c : Nat} (hc : Nat.Coprime c q) (h : c * a % q = c * b % q) : a % q = b % q := by
  have key : ∀ x y : Nat, x ≤ y → c * x % q = c * y % q → x % q = y % q := fun x y hxy h => by
    have h1 : q ∣ c * (y - x) := by
      rw [Nat.mul_sub]
      exact dvd_of_mod h
    have h2 : q ∣ y - x := hc.symm.dvd_of_dvd_mul_left h1
    exact mod_of_dvd hxy h2
  rcases Nat.le_total a b with h' | h'
  · exact key a b h' h
  · exact (key b a h' h.symm).symm

/-- Fermat's theorem -/
theorem fermat {q a : Nat} (hq : IsP q) (ha : ¬ q ∣ a) : a ^ (q - 1) % q = 1 := by
  have hq1 := hq.1
  have hco := hq.coprime ha
  have nd : ((List.range' 1 (q - 1)).map fun i => a * i % q).Nodup := by
    refine nodup_map (fun x hx y hy h => ?_) List.nodup_range'
    have := mod_cancel hco h
    simp [List.mem_range'_1] at hx hy
    rwa [Nat.mod_eq_of_lt (by omega), Nat.mod_eq_of_lt (by omega)] at this
  have hp : ((List.range' 1 (q - 1)).map fun i => a * i % q).Perm (List.range' 1 (q - 1)) := by
    refine perm_sub nd (fun x hx => ?_) (by simp)
    obtain ⟨i, hi, rfl⟩ := List.mem_map.1 hx
    simp [List.mem_range'_1] at hi ⊢
    have hlt : a * i % q < q := Nat.mod_lt _ (by omega)
    have hne : a * i % q ≠ 0 := fun h0 => by
      rcases hq.euclid (Nat.dvd_of_mod_eq_zero h0) with h | h
      · exact ha h
      · have := Nat.le_of_dvd (by omega) h; omega
    omega
  have h1 := prodL_map a q (List.range' 1 (q - 1))
  rw [prodL_perm hp, List.length_range'] at h1
  have hnd : ¬ q ∣ prodL (List.range' 1 (q - 1)) := prodL_dvd hq _ fun x hx h => by
    simp [List.mem_range'_1] at hx
    have := Nat.le_of_dvd (by omega) h
    omega
  have h2 := mod_cancel (hq.coprime hnd) (a := 1) (b := a ^ (q - 1)) (by rw [Nat.mul_one, h1, Nat.mul_comm])
  rw [Nat.mod_eq_of_lt hq1] at h2
  exact h2.symm

/-- no number from d on, so many, divides n -/
def tries (n : Nat) : Nat → Nat → Bool
  | 0, _ => true
  | f + 1, d => match Nat.beq (n % d) 0 with
    | true => false
    | false => tries n f (d + 1)

theorem tries_ok {n : Nat} : ∀ {f d : Nat}, tries n f d = true → ∀ e, d ≤ e → e < d + f → ¬ e ∣ n
  | 0, d, h, e, h1, h2, _ => by omega
  | f + 1, d, h, e, h1, h2, hd => by
    simp only [tries] at h
    cases hb : Nat.beq (n % d) 0 with
    | true => rw [hb] at h; cases h
    | false =>
      rw [hb] at h
      by_cases he : e = d
      · subst he
        exact Nat.ne_of_beq_eq_false hb (Nat.mod_eq_zero_of_dvd hd)
      · exact tries_ok h e (by omega) (by omega) hd

theorem isP_of_tries {n k : Nat} (hn : 1 < n) (hk : n < (k + 2) * (k + 2)) (h : tries n k 2 = true) : IsP n := by
  refine ⟨hn, fun d hd => ?_⟩
  by_cases h1 : d = 1
  · exact .inl h1
  right
  obtain ⟨e, he⟩ := hd
  have hd0 : 0 < d := by
    rcases Nat.eq_zero_or_pos d with h0 | h0
    · subst h0; omega
    · exact h0
  by_cases hdk : d < 2 + k
  · exact absurd ⟨e, he⟩ (tries_ok h d (by omega) hdk)
  · by_cases hek : e < 2 + k
    · by_cases he1 : e = 1
      · subst he1; omega
      · have he0 : 0 < e := by
          rcases Nat.eq_zero_or_pos e with h0 | h0
          · subst h0; omega
          · exact h0
        exact absurd ⟨d, by rw [he, Nat.mul_comm]⟩ (tries_ok h e (by omega) hek)
    · have : (k + 2) * (k + 2) ≤ d * e := Nat.mul_le_mul (by omega) (by omega)
      omega

theorem prime_factor : ∀ n : Nat, 1 < n → ∃ q, IsP q ∧ q ∣ n := by
  intro n
  induction n using Nat.strongRecOn with
  | _ n ih =>
    intro hn
    by_cases hp : ∀ d, d ∣ n → d = 1 ∨ d = n
    · exact ⟨n, ⟨hn, hp⟩, Nat.dvd_refl n⟩
    · obtain ⟨d, hd⟩ := Classical.not_forall.1 hp
      obtain ⟨hd, hne⟩ := Classical.not_imp.1 hd
      have hle := Nat.le_of_dvd (by omega) hd
      have hd0 : 0 < d := Nat.pos_of_dvd_of_pos hd (by omega)
      have h1 : d ≠ 1 := fun e => hne (.inl e)
      have h2 : d ≠ n := fun e => hne (.inr e)
      obtain ⟨q, hq, hqd⟩ := ih d (by omega) (by omega)
      exact ⟨q, hq, Nat.dvd_trans hqd hd⟩

theorem pow_one_mod {q t : Nat} (hq : 1 < q) (h : t % q = 1) (k : Nat) : t ^ k % q = 1 := by
  rw [Nat.pow_mod, h, Nat.one_pow, Nat.mod_eq_of_lt hq]

theorem pock_step {n q l a : Nat} (hq : IsP q) (hqn : q ∣ n) (hl : IsP l) (hln : l ∣ n - 1) (h1 : a ^ (n - 1) % n = 1) (h2 : Nat.Coprime (a ^ ((n - 1) / l) % n + n - 1) n) : l ∣ q - 1 := by
  refine Classical.byContradiction fun hnd => ?_
  have hq1 := hq.1
  have hl1 := hl.1
  have hn0 : 0 < n := by
    rcases Nat.eq_zero_or_pos n with h | h
    · subst h; simp at h2 h1
    · exact h
  have hmod : ∀ x : Nat, x % n % q = x % q := fun x => Nat.mod_mod_of_dvd x hqn
  have h1q : a ^ (n - 1) % q = 1 := by rw [← hmod, h1, Nat.mod_eq_of_lt hq1]
  have hn1 : n - 1 ≠ 0 := by
    intro h
    have : n = 1 := by omega
    subst this
    have := Nat.le_of_dvd (by omega) hqn
    omega
  have hqa : ¬ q ∣ a := fun h => by
    have : q ∣ a ^ (n - 1) := by rw [show n - 1 = (n - 2) + 1 by omega, Nat.pow_succ]; exact Nat.dvd_trans h (Nat.dvd_mul_left _ _)
    have := Nat.mod_eq_zero_of_dvd this
    omega
  have hf := fermat hq hqa
  have hfl := fermat hl hnd
  generalize ht : a ^ ((n - 1) / l) = t at h2
  have e1 : t ^ l % q = 1 := by rw [← ht, ← Nat.pow_mul, Nat.div_mul_cancel hln]; exact h1q
  have e2 : t ^ (q - 1) % q = 1 := by
    rw [← ht, ← Nat.pow_mul, Nat.mul_comm, Nat.pow_mul]
    exact pow_one_mod hq1 hf _
  have hk : (q - 1) ^ (l - 1) = 1 + l * ((q - 1) ^ (l - 1) / l) := by
    have := Nat.div_add_mod ((q - 1) ^ (l - 1)) l
    omega
  have e3 : t ^ ((q - 1) ^ (l - 1)) % q = 1 := by
    rw [show l - 1 = (l - 2) + 1 by omega, Nat.pow_succ, Nat.mul_comm, Nat.pow_mul]
    exact pow_one_mod hq1 e2 _
  have e4 : t ^ ((q - 1) ^ (l - 1)) % q = t % q := by
    rw [hk, Nat.pow_add, Nat.pow_one, Nat.pow_mul, Nat.mul_mod, pow_one_mod hq1 e1, Nat.mul_one, Nat.mod_mod]
  have e5 : t % q = 1 := e4.symm.trans e3
  have hdv : q ∣ t % n + n - 1 := by
    have h6 : (t % n) % q = 1 % q := by rw [hmod, e5, Nat.mod_eq_of_lt hq1]
    have h7 : 1 ≤ t % n := by
      rcases Nat.eq_zero_or_pos (t % n) with h | h
      · rw [h, Nat.zero_mod, Nat.mod_eq_of_lt hq1] at h6; omega
      · exact h
    have h8 : q ∣ t % n - 1 := dvd_of_mod h6.symm
    rw [show t % n + n - 1 = (t % n - 1) + n by omega]
    exact Nat.dvd_add h8 hqn
  have := Nat.dvd_gcd hdv hqn
  rw [h2] at this
  have := Nat.le_of_dvd (by omega) this
  omega

theorem prod_dvd {m : Nat} : ∀ {ls : List Nat}, (∀ x ∈ ls, IsP x ∧ x ∣ m) → ls.Nodup → prodL ls ∣ m
  | [], h, hn => by simp [prodL]
  | x :: ls, h, hn => by
    rw [List.nodup_cons] at hn
    have hx := h x (by simp)
    have hr := prod_dvd (fun y hy => h y (by simp [hy])) hn.2
    have hnd : ¬ x ∣ prodL ls := prodL_dvd hx.1 ls fun y hy hd => by
      rcases (h y (by simp [hy])).1.2 x hd with e | e
      · have := hx.1.1; omega
      · exact hn.1 (e ▸ hy)
    exact Nat.Coprime.mul_dvd_of_dvd_of_dvd (hx.1.coprime hnd).symm hx.2 hr

/-- Pocklington's test -/
theorem pock {n : Nat} (hn : 1 < n) (ls : List (Nat × Nat)) (h : ∀ x ∈ ls, IsP x.1 ∧ x.1 ∣ n - 1 ∧ x.2 ^ (n - 1) % n = 1 ∧ Nat.Coprime (x.2 ^ ((n - 1) / x.1) % n + n - 1) n)
    (hd : (ls.map (·.1)).Nodup) (hb : n < (prodL (ls.map (·.1)) + 1) * (prodL (ls.map (·.1)) + 1)) : IsP n := by
  have big : ∀ q, IsP q → q ∣ n → n < q * q := fun q hq hqn => by
    have hdv : prodL (ls.map (·.1)) ∣ q - 1 := prod_dvd (fun x hx => by
      obtain ⟨y, hy, rfl⟩ := List.mem_map.1 hx
      obtain ⟨h1, h2, h3, h4⟩ := h y hy
      exact ⟨h1, pock_step hq hqn h1 h2 h3 h4⟩) hd
    have hq1 := hq.1
    have := Nat.le_of_dvd (by omega) hdv
    exact Nat.lt_of_lt_of_le hb (Nat.mul_le_mul (by omega) (by omega))
  refine ⟨hn, fun d hdn => ?_⟩
  obtain ⟨e, he⟩ := hdn
  by_cases h1 : d = 1
  · exact .inl h1
  right
  by_cases he1 : e = 1
  · subst he1; omega
  exfalso
  have hd0 : d ≠ 0 := fun h => by subst h; omega
  have he0 : e ≠ 0 := fun h => by subst h; omega
  obtain ⟨p, hp, hpd⟩ := prime_factor d (by omega)
  obtain ⟨q, hq, hqe⟩ := prime_factor e (by omega)
  have b1 := big p hp (Nat.dvd_trans hpd ⟨e, he⟩)
  have b2 := big q hq (Nat.dvd_trans hqe ⟨d, by rw [he, Nat.mul_comm]⟩)
  have l1 := Nat.le_of_dvd (by omega) hpd
  have l2 := Nat.le_of_dvd (by omega) hqe
  rcases Nat.le_total d e with hde | hde
  · have : p * p ≤ d * e := Nat.mul_le_mul l1 (by omega)
    omega
  · have : q * q ≤ d * e := Nat.mul_le_mul (by omega) l2
    omega

def pwM (b m : Nat) : Nat → Nat → Nat
  | 0, _ => 1 % m
  | f + 1, e => if e % 2 = 1 then pwM b m f (e / 2) * pwM b m f (e / 2) % m * b % m else pwM b m f (e / 2) * pwM b m f (e / 2) % m

theorem pwM_eq (b m : Nat) : ∀ (f e : Nat), e < 2 ^ f → pwM b m f e = b ^ e % m
  | 0, e, h => by
    have : e = 0 := by simpa using h
    subst this
    rfl
  | f + 1, e, h => by
    have h2 : e / 2 < 2 ^ f := by rw [Nat.pow_succ] at h; omega
    have he : e = e / 2 + e / 2 + e % 2 := by omega
    simp only [pwM, pwM_eq b m f (e / 2) h2]
    split
    · rename_i h1
      conv => rhs; rw [he, h1, Nat.pow_succ, Nat.pow_add]
      rw [← Nat.mul_mod, Nat.mod_mul_mod]
    · rename_i h1
      have h0 : e % 2 = 0 := by omega
      conv => rhs; rw [he, h0, Nat.add_zero, Nat.pow_add]
      rw [← Nat.mul_mod]

/-- the test's reckoning, by squares and products -/
def pockB (n f : Nat) (ls : List (Nat × Nat)) : Bool := ls.all fun x => Nat.beq ((n - 1) % x.1) 0 && (Nat.beq (pwM x.2 n f (n - 1)) 1 && Nat.beq (Nat.gcd (pwM x.2 n f ((n - 1) / x.1) + n - 1) n) 1)

theorem isP_pock {n f : Nat} (hn : 1 < n) (hf : n ≤ 2 ^ f) (ls : List (Nat × Nat)) (hp : ∀ x ∈ ls, IsP x.1) (h : pockB n f ls = true)
    (hd : (ls.map (·.1)).Nodup) (hb : n < (prodL (ls.map (·.1)) + 1) * (prodL (ls.map (·.1)) + 1)) : IsP n := by
  refine pock hn ls (fun x hx => ?_) hd hb
  have := List.all_eq_true.1 h x hx
  simp only [Bool.and_eq_true] at this
  obtain ⟨h1, h2, h3⟩ := this
  have h2 := Nat.eq_of_beq_eq_true h2
  have h3 := Nat.eq_of_beq_eq_true h3
  rw [pwM_eq _ _ _ _ (by omega)] at h2
  rw [pwM_eq _ _ _ _ (Nat.lt_of_le_of_lt (Nat.div_le_self _ _) (by omega))] at h3
  exact ⟨hp x hx, Nat.dvd_of_mod_eq_zero (Nat.eq_of_beq_eq_true h1), h2, h3⟩

end Go.Proofs.YtkeommkcjigioaaDoor

/- Package fp: the modulus is prime. Conditions: none. -/
namespace Go.Proofs.YtkeommkcjigioaaDoor
set_option linter.unusedVariables false
set_option maxRecDepth 100000

theorem pr_421987 : IsP 421987 := isP_of_tries (k := 648) (by decide +kernel) (by decide +kernel) (by decide +kernel)
theorem pr_13090036741 : IsP 13090036741 := isP_pock (f := 34) (by decide +kernel) (by decide +kernel) [(421987, 2)] (by
    simp only [List.forall_mem_cons]
    exact ⟨pr_421987, fun x hx => by cases hx⟩) (by decide +kernel) (by decide +kernel) (by decide +kernel)
theorem pr_755057 : IsP 755057 := isP_of_tries (k := 867) (by decide +kernel) (by decide +kernel) (by decide +kernel)
theorem pr_3819663927398918131021 : IsP 3819663927398918131021 := isP_pock (f := 72) (by decide +kernel) (by decide +kernel) [(13090036741, 2), (755057, 2)] (by
    simp only [List.forall_mem_cons]
    exact ⟨pr_13090036741, pr_755057, fun x hx => by cases hx⟩) (by decide +kernel) (by decide +kernel) (by decide +kernel)
theorem pr_1125266252156850182658904441386709967 : IsP 1125266252156850182658904441386709967 := isP_pock (f := 120) (by decide +kernel) (by decide +kernel) [(3819663927398918131021, 2)] (by
    simp only [List.forall_mem_cons]
    exact ⟨pr_3819663927398918131021, fun x hx => by cases hx⟩) (by decide +kernel) (by decide +kernel) (by decide +kernel)
theorem pr_15778400344354997994418419698270088123916926905054652752758194827714659 : IsP 15778400344354997994418419698270088123916926905054652752758194827714659 := isP_pock (f := 234) (by decide +kernel) (by decide +kernel) [(1125266252156850182658904441386709967, 2)] (by
    simp only [List.forall_mem_cons]
    exact ⟨pr_1125266252156850182658904441386709967, fun x hx => by cases hx⟩) (by decide +kernel) (by decide +kernel) (by decide +kernel)
theorem pr_4002409555221667393417789825735904156556882819939007885332058136124031650490837864442687629129015664037894272559787 : IsP 4002409555221667393417789825735904156556882819939007885332058136124031650490837864442687629129015664037894272559787 := isP_pock (f := 381) (by decide +kernel) (by decide +kernel) [(15778400344354997994418419698270088123916926905054652752758194827714659, 2)] (by
    simp only [List.forall_mem_cons]
    exact ⟨pr_15778400344354997994418419698270088123916926905054652752758194827714659, fun x hx => by cases hx⟩) (by decide +kernel) (by decide +kernel) (by decide +kernel)

end Go.Proofs.YtkeommkcjigioaaDoor

/- Squares modulo a prime that is 3 modulo 4. Conditions: those of each theorem. -/
namespace Go.Proofs.YtkeommkcjigioaaDoor
set_option linter.unusedSectionVars false
set_option linter.unusedVariables false

section
variable {q S H : Nat} (hq : IsP q) (hS : S + S = H + 1) (hH : q = 2 * H + 1) (hodd : H % 2 = 1)
include hq hS hH hodd

theorem eul_q : 2 < q := by omega

theorem eul_nd {a : Nat} (ha : ¬ a % q = 0) : ¬ q ∣ a := fun h => ha (Nat.mod_eq_zero_of_dvd h)

theorem eul_one {a : Nat} (ha : ¬ a % q = 0) : a ^ H * a ^ H % q = 1 := by
  have := fermat hq (eul_nd hq hS hH hodd ha)
  rw [show q - 1 = H + H by omega, Nat.pow_add] at this
  exact this

/-- a number's half power is 1 or -1 -/
theorem eul_half {a : Nat} (ha : ¬ a % q = 0) : a ^ H % q = 1 ∨ a ^ H % q = q - 1 := by
  have h1 := eul_one hq hS hH hodd ha
  rw [Nat.mul_mod] at h1
  have hlt : a ^ H % q < q := Nat.mod_lt _ (by omega)
  generalize a ^ H % q = t at h1 hlt ⊢
  have ht : 0 < t := by
    rcases Nat.eq_zero_or_pos t with h | h
    · subst h; rw [Nat.mul_zero, Nat.zero_mod] at h1; cases h1
    · exact h
  obtain ⟨k, rfl⟩ : ∃ k, t = k + 1 := ⟨t - 1, by omega⟩
  have h2 : q ∣ k * (k + 2) := by
    have h3 : (k + 1) * (k + 1) % q = 1 % q := by rw [h1, Nat.mod_eq_of_lt (by omega)]
    have h4 := dvd_of_mod h3.symm
    rw [show (k + 1) * (k + 1) - 1 = k * (k + 2) by simp only [Nat.add_mul, Nat.mul_add, Nat.one_mul, Nat.mul_one]; omega] at h4
    exact h4
  rcases hq.euclid h2 with h | h
  · left
    have : k = 0 := by
      rcases Nat.eq_zero_or_pos k with h0 | h0
      · exact h0
      · have := Nat.le_of_dvd h0 h; omega
    omega
  · right
    have := Nat.le_of_dvd (by omega) h
    omega

theorem eul_sq (a : Nat) : a ^ S * a ^ S = a ^ H * a := by rw [← Nat.pow_add, hS, Nat.pow_succ]

theorem eul_zero {a k : Nat} (ha : a % q = 0) (hk : 0 < k) : a ^ k % q = 0 := by
  obtain ⟨j, rfl⟩ : ∃ j, k = j + 1 := ⟨k - 1, by omega⟩
  rw [Nat.pow_succ, Nat.mul_mod, ha, Nat.mul_zero, Nat.zero_mod]

/-- squares are the numbers whose half power is 1, and 0 -/
theorem eul_iff {a : Nat} (ha : ¬ a % q = 0) : a ^ S * a ^ S % q = a % q ↔ a ^ H % q = 1 := by
  rw [eul_sq hq hS hH hodd]
  constructor
  · intro h
    have hc : Nat.Coprime a q := hq.coprime (eul_nd hq hS hH hodd ha)
    have := mod_cancel (a := a ^ H) (b := 1) hc (by rw [Nat.mul_comm, h, Nat.mul_one])
    rw [this, Nat.mod_eq_of_lt (by omega)]
  · intro h
    rw [Nat.mul_mod, h, Nat.one_mul, Nat.mod_mod]

theorem eul_iff0 {a : Nat} (ha : a % q = 0) : a ^ S * a ^ S % q = a % q := by
  rw [eul_sq hq hS hH hodd, Nat.mul_mod, ha, Nat.mul_zero, Nat.zero_mod]

theorem eul_prod {a b : Nat} (ha : ¬ a % q = 0) (hb : ¬ b % q = 0) : ¬ a * b % q = 0 := fun h => by
  rcases hq.euclid (Nat.dvd_of_mod_eq_zero h) with h | h
  · exact eul_nd hq hS hH hodd ha h
  · exact eul_nd hq hS hH hodd hb h

theorem eul_neg2 : (q - 1) * (q - 1) % q = 1 := by
  have e : (q - 1) * (q - 1) = 1 + q * (q - 2) := by
    obtain ⟨k, rfl⟩ : ∃ k, q = k + 2 := ⟨q - 2, by omega⟩
    rw [show k + 2 - 1 = k + 1 by omega, show k + 2 - 2 = k by omega, Nat.add_mul, Nat.add_mul, Nat.mul_add]
    omega
  rw [e, Nat.add_mul_mod_self_left, Nat.mod_eq_of_lt (by omega)]

/-- of squares and others the products -/
theorem eul_forms {a b : Nat} (ha : ¬ a % q = 0) (hb : ¬ b % q = 0) :
    decide ((a * b) ^ S * (a * b) ^ S % q = a * b % q) = (decide (a ^ S * a ^ S % q = a % q) == decide (b ^ S * b ^ S % q = b % q)) := by
  have hp : (a * b) ^ H % q = a ^ H % q * (b ^ H % q) % q := by rw [Nat.mul_pow, Nat.mul_mod]
  have hn := eul_neg2 hq hS hH hodd
  have h1 : (1 : Nat) % q = 1 := Nat.mod_eq_of_lt (by omega)
  have h2 : (q - 1) % q = q - 1 := Nat.mod_eq_of_lt (by omega)
  have key : ((a * b) ^ H % q = 1) ↔ ((a ^ H % q = 1) ↔ (b ^ H % q = 1)) := by
    rw [hp]
    rcases eul_half hq hS hH hodd ha with ea | ea <;> rcases eul_half hq hS hH hodd hb with eb | eb <;> rw [ea, eb]
    · simp [h1]
    · rw [Nat.one_mul, h2]; omega
    · rw [Nat.mul_one, h2]; omega
    · rw [hn]; simp
  rw [Bool.eq_iff_iff]
  simp only [decide_eq_true_eq, beq_iff_eq, decide_eq_decide, eul_iff hq hS hH hodd ha, eul_iff hq hS hH hodd hb, eul_iff hq hS hH hodd (eul_prod hq hS hH hodd ha hb)]
  exact key

/-- a square has a root -/
theorem eul_root (a : Nat) : (a * a) ^ S * (a * a) ^ S % q = a * a % q := by
  by_cases ha : a % q = 0
  · exact eul_iff0 hq hS hH hodd (by rw [Nat.mul_mod, ha, Nat.zero_mul, Nat.zero_mod])
  · rw [eul_iff hq hS hH hodd (eul_prod hq hS hH hodd ha ha), Nat.mul_pow]
    exact eul_one hq hS hH hodd ha

theorem eul_neg {a : Nat} : (q - 1) * a % q = (q - a % q) % q := by
  have hlt : a % q < q := Nat.mod_lt _ (by omega)
  rw [← Nat.mul_mod_mod]
  generalize a % q = c at hlt ⊢
  rcases Nat.eq_zero_or_pos c with h | h
  · subst h; simp
  · have e : (q - 1) * c = (q - c) + q * (c - 1) := by
      obtain ⟨k, rfl⟩ : ∃ k, c = k + 1 := ⟨c - 1, by omega⟩
      rw [Nat.add_sub_cancel, Nat.sub_mul, Nat.one_mul, Nat.mul_add, Nat.mul_one]
      have : k + 1 ≤ q * k + q := by
        have := Nat.le_mul_of_pos_left k (show 0 < q by omega)
        omega
      omega
    rw [e, Nat.add_mul_mod_self_left]

/-- the root is the number or its negative -/
theorem eul_pm (a : Nat) : (a * a) ^ S % q = a % q ∨ (a * a) ^ S % q = (q - a % q) % q := by
  by_cases ha : a % q = 0
  · left
    rw [ha]
    exact eul_zero hq hS hH hodd (by rw [Nat.mul_mod, ha, Nat.zero_mul, Nat.zero_mod]) (by omega)
  · rw [Nat.mul_pow, eul_sq hq hS hH hodd]
    rcases eul_half hq hS hH hodd ha with e | e
    · left
      rw [Nat.mul_mod, e, Nat.one_mul, Nat.mod_mod]
    · right
      rw [← Nat.mod_mul_mod, e]
      exact eul_neg hq hS hH hodd

theorem eul_odd : ∀ k, (q - 1) ^ (2 * k + 1) % q = q - 1
  | 0 => by rw [Nat.mul_zero, Nat.zero_add, Nat.pow_one, Nat.mod_eq_of_lt (by omega)]
  | k + 1 => by
    rw [show 2 * (k + 1) + 1 = (2 * k + 1) + 2 by omega, Nat.pow_add, Nat.mul_mod, eul_odd k, show (q - 1) ^ 2 = (q - 1) * (q - 1) by rw [Nat.pow_succ, Nat.pow_one], eul_neg2 hq hS hH hodd, Nat.mul_one, Nat.mod_eq_of_lt (by omega)]

theorem eul_nz {a : Nat} (ha : ¬ a % q = 0) : ¬ (q - a % q) % q = 0 := by
  have hlt : a % q < q := Nat.mod_lt _ (by omega)
  rw [Nat.mod_eq_of_lt (by omega)]
  omega

/-- of a number and its negative one is a square -/
theorem eul_other {a : Nat} (ha : ¬ a % q = 0) : ((q - a % q) ^ S * (q - a % q) ^ S % q = (q - a % q) % q) ↔ ¬ (a ^ S * a ^ S % q = a % q) := by
  rw [eul_iff hq hS hH hodd (eul_nz hq hS hH hodd ha), eul_iff hq hS hH hodd ha]
  have e : (q - a % q) ^ H % q = (q - 1) * (a ^ H % q) % q := by
    rw [Nat.pow_mod, ← eul_neg hq hS hH hodd, ← Nat.pow_mod, Nat.mul_pow, Nat.mul_mod]
    obtain ⟨k, hk⟩ : ∃ k, H = 2 * k + 1 := ⟨H / 2, by omega⟩
    rw [show (q - 1) ^ H % q = q - 1 by rw [hk]; exact eul_odd hq hS hH hodd k]
  rw [e]
  have hn := eul_neg2 hq hS hH hodd
  rcases eul_half hq hS hH hodd ha with h | h <;> rw [h]
  · rw [Nat.mul_one, Nat.mod_eq_of_lt (by omega)]; omega
  · rw [hn]; omega
end
end Go.Proofs.YtkeommkcjigioaaDoor

/- Square roots modulo p, for package fp2. Conditions: those of each theorem. -/
namespace Go.Proofs.YtkeommkcjigioaaDoor
open Go.RowKit Sx
set_option linter.unusedVariables false

theorem fpPrime : IsP fpQ := pr_4002409555221667393417789825735904156556882819939007885332058136124031650490837864442687629129015664037894272559787
def fpH : Nat := 2001204777610833696708894912867952078278441409969503942666029068062015825245418932221343814564507832018947136279893
theorem fpSS : fpS + fpS = fpH + 1 := by decide +kernel
theorem fpHH : fpQ = 2 * fpH + 1 := by decide +kernel
theorem fpHo : fpH % 2 = 1 := by decide +kernel
theorem fpQI : fpQ = fpI + 2 := by decide +kernel
theorem fpQ0 : 0 < fpQ := by decide

/-- alike modulo p -/
def Cg (a b : Nat) : Prop := a % fpQ = b % fpQ
theorem Cg.rfl' (a : Nat) : Cg a a := rfl
theorem Cg.symm {a b : Nat} (h : Cg a b) : Cg b a := Eq.symm h
theorem Cg.trans {a b c : Nat} (h : Cg a b) (k : Cg b c) : Cg a c := Eq.trans h k
theorem Cg.add {a b c d : Nat} (h : Cg a b) (k : Cg c d) : Cg (a + c) (b + d) := by
  unfold Cg at *; rw [Nat.add_mod, h, k, ← Nat.add_mod]
theorem Cg.mul {a b c d : Nat} (h : Cg a b) (k : Cg c d) : Cg (a * c) (b * d) := by
  unfold Cg at *; rw [Nat.mul_mod, h, k, ← Nat.mul_mod]
theorem Cg.neg {a b : Nat} (h : Cg a b) : Cg (fpQ - a % fpQ) (fpQ - b % fpQ) := by
  unfold Cg at *; rw [h]
theorem Cg.pow {a b : Nat} (k : Nat) (h : Cg a b) : Cg (a ^ k) (b ^ k) := pow_cong k h

/-- four numbers -/
def V4 (a b c d : Nat) : Ev := ⟨fun i => match i with
  | 0 => a
  | 1 => b
  | 2 => c
  | _ => d, fun _ => [], fun x => x, fun x => x⟩

theorem ring4 (a b c d : Nat) {x y : E} (h : sameP fpQ fpAtom x y = true) : Cg (fpEv (V4 a b c d) x) (fpEv (V4 a b c d) y) := sameP_ok (fpFld (V4 a b c d)) (fpAtom_ok (V4 a b c d)) h

abbrev pE (a b : E) : E := .op 1 a b
abbrev mE (a b : E) : E := .op 2 a b
abbrev dE (a b : E) : E := .op 3 a b
abbrev v0 : E := .dt 0
abbrev v1 : E := .dt 1
abbrev v2 : E := .dt 2
abbrev v3 : E := .dt 3

section
variable {R : Ev} (hR : R.Ok)
include hR

theorem sqr_c {a b : Nat} (h : Cg a b) : Cg (R.sqr a) (R.sqr b) := sqr_mod hR h
theorem inv_c {a b : Nat} (h : Cg a b) : Cg (R.inv a) (R.inv b) := by rw [hR.inv, hR.inv]; exact h.pow fpI

/-- a square has a root: the number or its negative -/
theorem root_sq {n m : Nat} (h : Cg n (m * m)) : Cg (R.sqr n * R.sqr n) n ∧ (Cg (R.sqr n) m ∨ Cg (R.sqr n) (fpQ - m % fpQ)) := by
  have h1 := sqr_c hR h
  have h2 : Cg (R.sqr (m * m) * R.sqr (m * m)) (m * m) := by unfold Cg; rw [hR.sqr]; exact eul_root fpPrime fpSS fpHH fpHo m
  have h3 : Cg (R.sqr (m * m)) m ∨ Cg (R.sqr (m * m)) (fpQ - m % fpQ) := by unfold Cg; rw [hR.sqr]; exact eul_pm fpPrime fpSS fpHH fpHo m
  refine ⟨(h1.mul h1).trans (h2.trans h.symm), ?_⟩
  rcases h3 with h3 | h3
  · exact .inl (h1.trans h3)
  · exact .inr (h1.trans h3)

/-- the negative of a square that is not 0 has none -/
theorem no_root {n m : Nat} (h : Cg n (fpQ - m * m % fpQ)) (hm : ¬ m % fpQ = 0) : ¬ Cg (R.sqr n * R.sqr n) n := by
  intro hc
  have h1 := sqr_c hR h
  have hmm := eul_prod fpPrime fpSS fpHH fpHo hm hm
  have h2 := eul_other fpPrime fpSS fpHH fpHo hmm
  have h3 := eul_root fpPrime fpSS fpHH fpHo m
  have h4 : Cg (R.sqr (fpQ - m * m % fpQ) * R.sqr (fpQ - m * m % fpQ)) (fpQ - m * m % fpQ) := (h1.mul h1).symm.trans (hc.trans h)
  unfold Cg at h4
  rw [hR.sqr] at h4
  exact absurd h3 (h2.1 h4)

theorem sqr_zero {n : Nat} (h : n % fpQ = 0) : R.sqr n % fpQ = 0 := by
  rw [hR.sqr]; exact eul_zero fpPrime fpSS fpHH fpHo h (by decide +kernel)

/-- of two numbers whose product is the negative of a square that is not 0 just one has a root -/
theorem one_root {u v m : Nat} (h : Cg (u * v) (fpQ - m * m % fpQ)) (hm : ¬ m % fpQ = 0) (hu : ¬ Cg (R.sqr u * R.sqr u) u) : Cg (R.sqr v * R.sqr v) v := by
  have hmm := eul_prod fpPrime fpSS fpHH fpHo hm hm
  have hn : ¬ u * v % fpQ = 0 := by
    intro h0
    have := eul_nz fpPrime fpSS fpHH fpHo hmm
    unfold Cg at h
    rw [h] at h0
    exact this h0
  have u0 : ¬ u % fpQ = 0 := fun h0 => hn (by rw [Nat.mul_mod, h0, Nat.zero_mul, Nat.zero_mod])
  have v0' : ¬ v % fpQ = 0 := fun h0 => hn (by rw [Nat.mul_mod, h0, Nat.mul_zero, Nat.zero_mod])
  have hf := eul_forms fpPrime fpSS fpHH fpHo u0 v0'
  have hnr := no_root hR h hm
  unfold Cg at hu hnr ⊢
  rw [hR.sqr] at hu hnr ⊢
  rw [decide_eq_false hnr, decide_eq_false hu] at hf
  by_cases hv : v ^ fpS * v ^ fpS % fpQ = v % fpQ
  · exact hv
  · rw [decide_eq_false hv] at hf; cases hf

theorem mul_inv {a : Nat} (ha : ¬ a % fpQ = 0) : Cg (a * R.inv a) 1 := by
  have := fermat fpPrime (fun h => ha (Nat.mod_eq_zero_of_dvd h))
  rw [show fpQ - 1 = fpI + 1 by rw [fpQI]; omega, Nat.pow_succ, Nat.mul_comm] at this
  unfold Cg
  rw [hR.inv, this]
  decide

theorem half_c : Cg (2 * R.inv 2) 1 := mul_inv hR (by decide)

/-- half of twice a number -/
theorem half_of {x y : Nat} (h : Cg x (y + y)) : Cg (x * R.inv 2) y := by
  have h1 := (h.mul (Cg.rfl' (R.inv 2)))
  have h2 : Cg ((y + y) * R.inv 2) (y * (2 * R.inv 2)) := by
    have e : (y + y) * R.inv 2 = y * (2 * R.inv 2) := by rw [← Nat.mul_assoc, Nat.mul_two]
    rw [e]; exact Cg.rfl' _
  have h3 := (Cg.rfl' y).mul (half_c hR)
  rw [Nat.mul_one] at h3
  exact h1.trans (h2.trans h3)

theorem div_c {a b s : Nat} (hs : ¬ s % fpQ = 0) (h : Cg s a) : Cg (a * b * R.inv s) b := by
  have h1 : Cg (a * b * R.inv s) (s * b * R.inv s) := (h.symm.mul (Cg.rfl' b)).mul (Cg.rfl' _)
  have h2 : s * b * R.inv s = b * (s * R.inv s) := by ac_rfl
  rw [h2] at h1
  have h3 := (Cg.rfl' b).mul (mul_inv hR hs)
  rw [Nat.mul_one] at h3
  exact h1.trans h3

theorem div_n {a b s : Nat} (hs : ¬ s % fpQ = 0) (h : Cg s (fpQ - a % fpQ)) : Cg (a * b * R.inv s) (fpQ - b % fpQ) := by
  have e : Cg a (fpQ - s % fpQ) := by
    have h1 := ring4 a 0 0 0 (x := v0) (y := .op 4 (.op 4 v0 (.dt 0)) (.dt 0)) (by kernel_rfl)
    exact Cg.trans h1 h.symm.neg
  have h1 : Cg (a * b * R.inv s) ((fpQ - s % fpQ) * b * R.inv s) := (e.mul (Cg.rfl' b)).mul (Cg.rfl' _)
  have h2 : Cg ((fpQ - s % fpQ) * b * R.inv s) (fpQ - (b * (s * R.inv s)) % fpQ) := ring4 s b (R.inv s) 0 (x := mE (mE (.op 4 v0 (.dt 0)) v1) v2) (y := .op 4 (mE v1 (mE v0 v2)) (.dt 0)) (by kernel_rfl)
  have h3 := (Cg.rfl' b).mul (mul_inv hR hs)
  rw [Nat.mul_one] at h3
  exact h1.trans (h2.trans h3.neg)
end

theorem cg_dec {R : Ev} {a b : E} (h : Cg (fpEv R a) (fpEv R b)) : decide (fpEv R a % fpQ = fpEv R b % fpQ) = true := decide_eq_true h
theorem cg_dec0 {R : Ev} {a b : E} (h : ¬ Cg (fpEv R a) (fpEv R b)) : decide (fpEv R a % fpQ = fpEv R b % fpQ) = false := decide_eq_false h
theorem cg_zero {a : Nat} : Cg a 0 ↔ a % fpQ = 0 := by unfold Cg; rw [Nat.zero_mod]

/-- the sum of two squares is 0 just if both are -/
theorem fp_norm0 (a b : Nat) : (a * a + b * b) % fpQ = 0 ↔ a % fpQ = 0 ∧ b % fpQ = 0 := by
  have hq : 0 < fpQ := by decide
  constructor
  · intro h
    by_cases hb : b % fpQ = 0
    · refine ⟨?_, hb⟩
      have e : (a * a) % fpQ = 0 := by
        rw [Nat.add_mod, Nat.mul_mod b, hb, Nat.mul_zero, Nat.zero_mod, Nat.add_zero, Nat.mod_mod] at h
        exact h
      by_cases ha : a % fpQ = 0
      · exact ha
      · exact absurd e (eul_prod fpPrime fpSS fpHH fpHo ha ha)
    · exfalso
      have hbb := eul_prod fpPrime fpSS fpHH fpHo hb hb
      have h1 := eul_other fpPrime fpSS fpHH fpHo hbb
      have h2 := eul_root fpPrime fpSS fpHH fpHo b
      have h3 := eul_root fpPrime fpSS fpHH fpHo a
      have e : (fpQ - b * b % fpQ) % fpQ = a * a % fpQ := by
        have hlt : b * b % fpQ < fpQ := Nat.mod_lt _ hq
        have h4 : a * a % fpQ < fpQ := Nat.mod_lt _ hq
        rw [Nat.add_mod] at h
        generalize a * a % fpQ = u at *
        generalize b * b % fpQ = v at *
        have h5 : u + v = fpQ := by
          rcases Nat.lt_or_ge (u + v) fpQ with h6 | h6
          · rw [Nat.mod_eq_of_lt h6] at h; omega
          · have : (u + v) % fpQ = u + v - fpQ := by rw [Nat.mod_eq_sub_mod h6, Nat.mod_eq_of_lt (by omega)]
            omega
        rw [show fpQ - v = u by omega, Nat.mod_eq_of_lt h4]
      have key : ∀ x y : Nat, x % fpQ = y % fpQ → y ^ fpS * y ^ fpS % fpQ = y % fpQ → x ^ fpS * x ^ fpS % fpQ = x % fpQ := fun x y hxy hy => by
        rw [← Nat.pow_add, Nat.pow_mod, hxy, ← Nat.pow_mod, Nat.pow_add, hy]
      have h7 := key (fpQ - b * b % fpQ) (a * a) e h3
      exact absurd h2 (h1.1 h7)
  · rintro ⟨ha, hb⟩
    rw [Nat.add_mod, Nat.mul_mod a, ha, Nat.mul_mod b, hb]
    rfl

theorem sub0 {a b : Nat} (h : Cg b 0) : Cg (a + (fpQ - b % fpQ)) a := by
  have h : b % fpQ = 0 := cg_zero.1 h
  unfold Cg
  rw [h, Nat.sub_zero, Nat.add_mod_right]
theorem neg0 {b : Nat} (h : Cg b 0) : Cg (fpQ - b % fpQ) 0 := by
  have h : b % fpQ = 0 := cg_zero.1 h
  unfold Cg
  rw [h, Nat.sub_zero, Nat.mod_self, Nat.zero_mod]
theorem mul0l {a : Nat} (b : Nat) (h : Cg a 0) : Cg (a * b) 0 := by
  have := h.mul (Cg.rfl' b)
  rwa [Nat.zero_mul] at this
theorem mul0r {b : Nat} (a : Nat) (h : Cg b 0) : Cg (a * b) 0 := by
  have := (Cg.rfl' a).mul h
  rwa [Nat.mul_zero] at this
theorem add0l {a : Nat} (b : Nat) (h : Cg a 0) : Cg (a + b) b := by
  have := h.add (Cg.rfl' b)
  rwa [Nat.zero_add] at this
theorem negneg (a : Nat) : Cg (fpQ - (fpQ - a % fpQ) % fpQ) a := ring4 a 0 0 0 (x := .op 4 (.op 4 v0 (.dt 0)) (.dt 0)) (y := v0) (by kernel_rfl)

theorem ringR (R : Ev) {x y : E} (h : sameP fpQ fpAtom x y = true) : Cg (fpEv R x) (fpEv R y) := sameP_ok (fpFld R) (fpAtom_ok R) h

theorem flag_odd {R : Ev} {a : E} (h : ¬ fpEv R a % fpQ = 0) : flagV R 0 (nE a) = !flagV R 0 a := by
  have hlt : fpEv R a % fpQ < fpQ := Nat.mod_lt _ fpQ0
  have e : (fpQ - fpEv R a % fpQ) % fpQ = fpQ - fpEv R a % fpQ := Nat.mod_eq_of_lt (by omega)
  have ho : fpQ % 2 = 1 := by decide
  show decide (fpEv R (nE a) % fpQ % 2 = 1) = !decide (fpEv R a % fpQ % 2 = 1)
  rw [fpEv_neg, e]
  generalize fpEv R a % fpQ = u at hlt h ⊢
  rw [← decide_not, decide_eq_decide]
  omega

theorem flag_large {R : Ev} {a : E} (h : ¬ fpEv R a % fpQ = 0) : flagV R 1 (nE a) = !flagV R 1 a := by
  show decide ((fpQ - fpEv R (nE a) % fpQ) % fpQ < fpEv R (nE a) % fpQ) = !decide ((fpQ - fpEv R a % fpQ) % fpQ < fpEv R a % fpQ)
  rw [fpEv_neg]
  have hlt : fpEv R a % fpQ < fpQ := Nat.mod_lt _ fpQ0
  obtain ⟨u, hu⟩ : ∃ u, fpEv R a % fpQ = u := ⟨_, rfl⟩
  rw [hu] at h hlt ⊢
  have e : (fpQ - u) % fpQ = fpQ - u := Nat.mod_eq_of_lt (by omega)
  have e2 : (fpQ - (fpQ - u)) % fpQ = u := by rw [Nat.sub_sub_self (Nat.le_of_lt hlt), Nat.mod_eq_of_lt hlt]
  rw [e, e2]
  have ho : fpQ % 2 = 1 := by decide
  rw [← decide_not, decide_eq_decide]
  omega

theorem flag_odd0 {R : Ev} {a : E} (h : fpEv R a % fpQ = 0) : flagV R 0 a = false := by
  show decide (fpEv R a % fpQ % 2 = 1) = false
  rw [h]; rfl
theorem flag_large0 {R : Ev} {a : E} (h : fpEv R a % fpQ = 0) : flagV R 1 a = false := by
  show decide ((fpQ - fpEv R a % fpQ) % fpQ < fpEv R a % fpQ) = false
  rw [h]; exact decide_eq_false (Nat.not_lt_zero _)
theorem nz_neg {a : Nat} (h : ¬ a % fpQ = 0) : ¬ (fpQ - a % fpQ) % fpQ = 0 := eul_nz fpPrime fpSS fpHH fpHo h

end Go.Proofs.YtkeommkcjigioaaDoor

/- Package fp2 and the reference's pairs as entries of the table. Conditions: those of each theorem. -/
namespace Go.Proofs.YtkeommkcjigioaaDoor
open Go.RowKit Sx
set_option linter.unusedVariables false

/-- are the bytes of pairs alike? -/
def sameNE (X : Fx) : Entry := fun cs => match cs with
  | [.view [.el (.op 10 p _), .el (.op 10 q _)], .held (.op 20 (.op 25 a b) _)] => match isFp p && (isFp q && (below X a && below X b)), toFp X a, toFp X b with
    | true, some x, some y => match fpSameL X.eqs [p, q] [x, y] with
      | some r => some (boolR r)
      | none => none
    | _, _, _ => none
  | _ => sameBE X cs

theorem sameNE_ok {R : Ev} (hR : R.Ok) {X : Fx} (hX : FpTold R X) : EntryOk (fpDenS R) FpTab 26 (sameNE X) := by
  refine ⟨by kernel_rfl, fun cs r hr σ w vs hv hI => ?_⟩
  unfold sameNE at hr
  split at hr
  · rename_i p p' q q' a b b'
    split at hr
    · rename_i x y hb hx hy
      simp only [Bool.and_eq_true] at hb
      obtain ⟨ip, iq, ba, bb⟩ := hb
      split at hr
      · rename_i s hs
        injection hr with hr; subst hr
        obtain ⟨u, us, rfl, ⟨bk, o, c, l, rfl, hlc, h1, h2, h3⟩, v, ws, rfl, h4, h5⟩ := hv
        have h5 : ws = [] := h5
        subst h5
        obtain ⟨B, d, rfl, b1, b2, b3⟩ := hold20 h4
        have er : R.row (.op 25 a b) = digs 48 (wdE R a) ++ digs 48 (wdE R b) := by simp only [Ev.row]
        rw [er] at b1 ⊢
        have h1 : some (nums .u8 (digs 48 (fpEv R p % fpQ)) ++ (nums .u8 (digs 48 (fpEv R q % fpQ)) ++ [])) = some l := h1
        injection h1 with h1
        rw [List.append_nil, ← nums_append] at h1
        subst h1
        have la : ∀ z, (digs 48 z).length = 48 := fun z => digs_length 48 z
        have hlen : (nums .u8 (digs 48 (fpEv R p % fpQ) ++ digs 48 (fpEv R q % fpQ))).length = (digs 48 (fpEv R p % fpQ) ++ digs 48 (fpEv R q % fpQ)).length := nums_length _ _
        rw [hlen]
        have hl := same_calls (some ⟨bk, o, none⟩) B (digs 48 (fpEv R p % fpQ) ++ digs 48 (fpEv R q % fpQ)) (digs 48 (wdE R a) ++ digs 48 (wdE R b)) c d w (.inr ⟨bk, o, rfl, h2, h3⟩) b1 (by rw [List.length_append, la, la]; decide) (by rw [List.length_append, la, la]; decide)
        have hq : fpQ < 256 ^ 48 := by decide
        have e : SameB (digs 48 (fpEv R p % fpQ) ++ digs 48 (fpEv R q % fpQ)) (digs 48 (wdE R a) ++ digs 48 (wdE R b)) = s := by
          have hs := fpSameL_ok hX.eqs hs
          unfold SameB
          rw [← hs, decide_eq_decide]
          have ea := toFp_ok hR hX hx
          have eb := toFp_ok hR hX hy
          have la' := below_ok hX ba
          have lb' := below_ok hX bb
          rw [Nat.mod_eq_of_lt la'] at ea
          rw [Nat.mod_eq_of_lt lb'] at eb
          rw [← ea, ← eb]
          simp only [List.map_cons, List.map_nil]
          have lt : ∀ z, z % fpQ < 256 ^ 48 := fun z => Nat.lt_trans (Nat.mod_lt _ (by decide)) hq
          constructor
          · intro h
            obtain ⟨g1, g2⟩ := List.append_inj h (by rw [la, la])
            rw [digs_inj (lt _) (lt _) g1, digs_inj (lt _) (lt _) g2]
          · intro h
            injection h with g1 g2
            injection g2 with g2 _
            rw [g1, g2]
        rw [e] at hl
        exact calls_bool (hl.mono fun y w' ⟨h1, h2⟩ => ⟨h1, below_ex h2⟩)
      · cases hr
    · cases hr
  · exact (sameBE_ok hR hX).2 cs r hr σ w vs hv hI

noncomputable def fp2N0 (P : Program) (X : Fx) : List (Nat × Entry) := (26, sameNE X) :: fpRefS P X

theorem fp2N0_ok {R : Ev} {X : Fx} (hR : R.Ok) (hX : FpTold R X) : ∀ x ∈ fp2N0 Tryd.prog X, EntryOk (fpDenS R) FpTab x.1 x.2 := by
  unfold fp2N0
  rw [List.forall_mem_cons]
  exact ⟨sameNE_ok hR hX, fpRefS_ok hR hX⟩

/-- functions that call those -/
noncomputable def fp2N1 (P : Program) (X : Fx) : List (Nat × Entry) :=
  (24, inlE P X (fp2N0 P X) Tryd.f24) ::
  (13, inlE P X (fp2N0 P X) Tryd.f13) ::
  (19, inlE P X (fp2N0 P X) Tryd.f19) ::
  (20, inlE P X (fp2N0 P X) Tryd.f20) ::
  (21, inlE P X (fp2N0 P X) Tryd.f21) ::
  (16, inlE P X (fp2N0 P X) Tryd.f16) ::
  (22, inlE P X (fp2N0 P X) Tryd.f22) ::
  (14, inlE P X (fp2N0 P X) Tryd.f14) ::
  (37, inlE P X (fp2N0 P X) Tryd.f37) ::
  (41, inlE P X (fp2N0 P X) Tryd.f41) ::
  (17, inlE P X (fp2N0 P X) Tryd.f17) ::
  (43, inlE P X (fp2N0 P X) Tryd.f43) ::
  (44, inlE P X (fp2N0 P X) Tryd.f44) ::
  (25, inlE P X (fp2N0 P X) Tryd.f25) ::
  (30, inlE P X (fp2N0 P X) Tryd.f30) ::
  (61, inlE P X (fp2N0 P X) Tryd.f61) ::
  (62, inlE P X (fp2N0 P X) Tryd.f62) ::
  (34, inlE P X (fp2N0 P X) Tryd.f34) ::
  (35, inlE P X (fp2N0 P X) Tryd.f35) ::
  (36, inlE P X (fp2N0 P X) Tryd.f36) ::
  (40, inlE P X (fp2N0 P X) Tryd.f40) :: fp2N0 P X

theorem fp2N1_ok {R : Ev} {X : Fx} (hR : R.Ok) (hX : FpTold R X) : ∀ x ∈ fp2N1 Tryd.prog X, EntryOk (fpDenS R) FpTab x.1 x.2 := by
  unfold fp2N1
  simp only [List.forall_mem_cons]
  have h := fp2N0_ok hR hX
  exact ⟨inlE_ok hX h (by kernel_rfl) Tryd.func24, inlE_ok hX h (by kernel_rfl) Tryd.func13, inlE_ok hX h (by kernel_rfl) Tryd.func19, inlE_ok hX h (by kernel_rfl) Tryd.func20, inlE_ok hX h (by kernel_rfl) Tryd.func21, inlE_ok hX h (by kernel_rfl) Tryd.func16, inlE_ok hX h (by kernel_rfl) Tryd.func22, inlE_ok hX h (by kernel_rfl) Tryd.func14, inlE_ok hX h (by kernel_rfl) Tryd.func37, inlE_ok hX h (by kernel_rfl) Tryd.func41, inlE_ok hX h (by kernel_rfl) Tryd.func17, inlE_ok hX h (by kernel_rfl) Tryd.func43, inlE_ok hX h (by kernel_rfl) Tryd.func44, inlE_ok hX h (by kernel_rfl) Tryd.func25, inlE_ok hX h (by kernel_rfl) Tryd.func30, inlE_ok hX h (by kernel_rfl) Tryd.func61, inlE_ok hX h (by kernel_rfl) Tryd.func62, inlE_ok hX h (by kernel_rfl) Tryd.func34, inlE_ok hX h (by kernel_rfl) Tryd.func35, inlE_ok hX h (by kernel_rfl) Tryd.func36, inlE_ok hX h (by kernel_rfl) Tryd.func40, h⟩

/-- functions that call those -/
noncomputable def fp2N2 (P : Program) (X : Fx) : List (Nat × Entry) :=
  (38, inlE P X (fp2N1 P X) Tryd.f38) ::
  (45, inlE P X (fp2N1 P X) Tryd.f45) ::
  (42, inlE P X (fp2N1 P X) Tryd.f42) :: fp2N1 P X

theorem fp2N2_ok {R : Ev} {X : Fx} (hR : R.Ok) (hX : FpTold R X) : ∀ x ∈ fp2N2 Tryd.prog X, EntryOk (fpDenS R) FpTab x.1 x.2 := by
  unfold fp2N2
  simp only [List.forall_mem_cons]
  have h := fp2N1_ok hR hX
  exact ⟨inlE_ok hX h (by kernel_rfl) Tryd.func38, inlE_ok hX h (by kernel_rfl) Tryd.func45, inlE_ok hX h (by kernel_rfl) Tryd.func42, h⟩

/-- all functions -/
noncomputable def fp2nAll (P : Program) (X : Fx) : List (Nat × Entry) :=
  (9, head2E) ::
  (33, inlE P X (fp2N2 P X) Tryd.f33) ::
  (32, inlE P X (fp2N2 P X) Tryd.f32) ::
  (10, inlE P X (fp2N2 P X) Tryd.f10) :: fp2N2 P X

theorem fp2nAll_ok {R : Ev} {X : Fx} (hR : R.Ok) (hX : FpTold R X) : ∀ x ∈ fp2nAll Tryd.prog X, EntryOk (fpDenS R) FpTab x.1 x.2 := by
  unfold fp2nAll
  simp only [List.forall_mem_cons]
  have h := fp2N2_ok hR hX
  exact ⟨head2E_ok R, inlE_ok hX h (by kernel_rfl) Tryd.func33, inlE_ok hX h (by kernel_rfl) Tryd.func32, inlE_ok hX h (by kernel_rfl) Tryd.func10, h⟩

/-- a statement over rows of bytes and the reference, run -/
theorem fp2n_law {R : Ev} {X : Fx} {f : FuncId} {fn : Func} (hf : Tryd.prog.funcs[f]? = some fn) {ins : List RV} (hR : R.Ok) (hX : FpTold R X) (hrun : runFn Tryd.prog (fpTable X (fp2nAll Tryd.prog X)) 400 fn ins = some (boolR true))
    {vs : List Value} {w : World} (ht : FpTab w) (hin : RVsIs (fpDenS R) 0 w ins vs) : Calls Tryd.prog f vs.toArray w fun e w' => e = .returned (.bool true) ∧ Below w.heap.size w w' :=
  bool_post (calls_run (fpRight hX (fp2nAll_ok hR hX)) mixed hf hrun hin fun w' hb => ht.below hb)

end Go.Proofs.YtkeommkcjigioaaDoor

/- Package fp2 against the reference: the walk of Fp2Roots. Conditions: those of each theorem. -/
namespace Go.Proofs.YtkeommkcjigioaaDoor
open Go.RowKit Sx
set_option linter.unusedVariables false
set_option linter.unusedSectionVars false

abbrev iE (a : E) : E := .op 5 a (.dt 0)
abbrev qE (a : E) : E := mE (sE a) (sE a)
abbrev aA : E := wE 0
abbrev bB : E := wE 1
abbrev hH : E := iE (lE 2)
abbrev xN : E := pE (mE aA aA) (mE bB bB)
/-- the numbers in the reference's words -/
abbrev mA : E := .op 45 (.op 41 (.dt 0) (.dt 0)) (.dt 0)
abbrev mB : E := .op 45 (.op 41 (.dt 1) (.dt 0)) (.dt 0)
abbrev w1 : E := mE (pE aA (sE xN)) hH
abbrev w2 : E := mE (pE aA (nE (sE xN))) hH
abbrev yR (u : E) : E := mE (mE bB hH) (iE (sE u))

/-- a pair's square is the number -/
def squF (s y : E) : List (E × E × Bool) := [(mE (pE s y) (dE s y), aA, true), (pE (mE s y) (mE s y), bB, true)]
def rtF (oA oB gA gB : Bool) : List (Nat × E × Bool) := [(0, aA, oA), (2, mA, oA), (0, bB, oB), (2, mB, oB), (1, aA, gA), (1, bB, gB)]
def rtL : List (Nat × Bool) := [(0, false), (1, false)]
def rtBl : Bool → List (E × E × Bool)
  | true => (qE aA, aA, true) :: squF (sE aA) (lE 0)
  | false => (qE aA, aA, false) :: (qE (nE aA), nE aA, true) :: squF (lE 0) (sE (nE aA))
def rtGl : Bool → List (E × E × Bool)
  | true => (qE w1, w1, true) :: (sE w1, lE 0, false) :: squF (sE w1) (yR w1)
  | false => (qE w1, w1, false) :: (qE w2, w2, true) :: (sE w2, lE 0, false) :: squF (sE w2) (yR w2)
def rtB (z r oA oB gA gB : Bool) : Fx := { eqs := [(bB, lE 0, true), (aA, lE 0, z), (qE xN, xN, true)] ++ rtBl r, flags := rtF oA oB gA gB, longs := rtL, lim := 64 }
def rtN (z oA oB gA gB : Bool) : Fx := { eqs := [(bB, lE 0, false), (aA, lE 0, z), (qE xN, xN, false)], flags := rtF oA oB gA gB, longs := rtL, lim := 64 }
def rtG (z r oA oB gA gB : Bool) : Fx := { eqs := [(bB, lE 0, false), (aA, lE 0, z), (qE xN, xN, true)] ++ rtGl r, flags := rtF oA oB gA gB, longs := rtL, lim := 64 }

theorem facts_app {R : Ev} {F G : List (E × E × Bool)} (hF : FpFacts R F) (hG : FpFacts R G) : FpFacts R (F ++ G) := fun x hx => by
  rcases List.mem_append.1 hx with h | h
  · exact hF x h
  · exact hG x h

section
variable {R : Ev} (hR : R.Ok)
include hR

theorem sq_fst {u v m s a : Nat} (h1 : Cg (s * s) u) (hs : ¬ s % fpQ = 0) (h2 : Cg (u * v) (fpQ - m * m % fpQ)) (h3 : Cg (u + v) a) : Cg ((s + m * R.inv s) * (s + (fpQ - m * R.inv s % fpQ))) a := by
  have hi := mul_inv hR hs
  generalize R.inv s = i at *
  have e1 : Cg ((s + m * i) * (s + (fpQ - m * i % fpQ))) (s * s + (fpQ - m * m * (i * i) % fpQ)) := ring4 s m i 0 (x := mE (pE v0 (mE v1 v2)) (dE v0 (mE v1 v2))) (y := dE (mE v0 v0) (mE (mE v1 v1) (mE v2 v2))) (by kernel_rfl)
  have e2 : Cg (m * m) (fpQ - s * s * v % fpQ) := (negneg (m * m)).symm.trans (h2.symm.neg.trans ((h1.symm.mul (Cg.rfl' v)).neg))
  have e3 : Cg ((fpQ - s * s * v % fpQ) * (i * i)) (fpQ - (s * i) * (s * i) * v % fpQ) := ring4 s i v 0 (x := mE (nE (mE (mE v0 v0) v2)) (mE v1 v1)) (y := nE (mE (mE (mE v0 v1) (mE v0 v1)) v2)) (by kernel_rfl)
  have e4 : Cg (fpQ - (s * i) * (s * i) * v % fpQ) (fpQ - v % fpQ) := by
    have := ((hi.mul hi).mul (Cg.rfl' v)).neg
    have e : 1 * 1 * v = v := by omega
    rw [e] at this
    exact this
  have e5 : Cg (m * m * (i * i)) (fpQ - v % fpQ) := (e2.mul (Cg.rfl' _)).trans (e3.trans e4)
  exact e1.trans ((h1.add (e5.neg.trans (negneg v))).trans h3)

theorem sq_snd {b s : Nat} (hs : ¬ s % fpQ = 0) : Cg (s * (b * R.inv 2 * R.inv s) + s * (b * R.inv 2 * R.inv s)) b := by
  have hi := mul_inv hR hs
  have hh := half_c hR
  generalize R.inv s = i at *
  generalize R.inv 2 = h at *
  have e1 : Cg (s * (b * h * i) + s * (b * h * i)) (s * i * b * (2 * h)) := ring4 s b h i (x := pE (mE v0 (mE (mE v1 v2) v3)) (mE v0 (mE (mE v1 v2) v3))) (y := mE (mE (mE v0 v3) v1) (mE (lE 2) v2)) (by kernel_rfl)
  have e2 := (hi.mul (Cg.rfl' b)).mul hh
  rw [Nat.one_mul, Nat.mul_one] at e2
  exact e1.trans e2
end

theorem tz_ {R : Ev} {a : E} (h : Cg (fpEv R a) 0) : decide (fpEv R a % fpQ = fpEv R (lE 0) % fpQ) = true := decide_eq_true (by rw [fpEv_lit]; exact h)
theorem tn_ {R : Ev} {a : E} (h : ¬ fpEv R a % fpQ = 0) : decide (fpEv R a % fpQ = fpEv R (lE 0) % fpQ) = false := decide_eq_false (by rw [fpEv_lit]; exact fun k => h (cg_zero.1 k))
theorem eS_ (R : Ev) (u : E) : fpEv R (qE u) = R.sqr (fpEv R u) * R.sqr (fpEv R u) := by rw [fpEv_mul, fpEv_sqr]
theorem eN_ (R : Ev) : fpEv R xN = fpEv R aA * fpEv R aA + fpEv R bB * fpEv R bB := by rw [fpEv_add, fpEv_mul, fpEv_mul]

section
variable {R : Ev} (hR : R.Ok)
include hR

theorem sq_z1 {s a : Nat} (h : Cg (s * s) a) : Cg ((s + 0) * (s + (fpQ - 0 % fpQ))) a := by
  have e1 : Cg ((s + 0) * (s + (fpQ - 0 % fpQ))) (s * s) := by
    have := (Cg.rfl' (s + 0)).mul (sub0 (a := s) (Cg.rfl' 0))
    rwa [Nat.add_zero] at this
  exact e1.trans h

theorem sq_z2 {s a : Nat} (h : Cg (s * s) (fpQ - a % fpQ)) : Cg ((0 + s) * (0 + (fpQ - s % fpQ))) a := by
  have e1 : Cg (s * (fpQ - s % fpQ)) (fpQ - s * s % fpQ) := ring4 s 0 0 0 (x := mE v0 (nE v0)) (y := nE (mE v0 v0)) (by kernel_rfl)
  rw [Nat.zero_add, Nat.zero_add]
  exact e1.trans (h.neg.trans (negneg a))

theorem facts_B (zb : fpEv R bB % fpQ = 0) : Cg (fpEv R (qE xN)) (fpEv R xN) ∧ ∃ r, FpFacts R (rtBl r) := by
  have cb := cg_zero.2 zb
  have cN : Cg (fpEv R xN) (fpEv R aA * fpEv R aA) := by
    rw [eN_]
    have := (Cg.rfl' (fpEv R aA * fpEv R aA)).add (mul0l (fpEv R bB) cb)
    rwa [Nat.add_zero] at this
  refine ⟨by rw [eS_]; exact (root_sq hR cN).1, ?_⟩
  by_cases hr : Cg (R.sqr (fpEv R aA) * R.sqr (fpEv R aA)) (fpEv R aA)
  · refine ⟨true, ?_⟩
    have e1 := sq_z1 hR hr
    intro x hx
    simp only [rtBl, squF, List.mem_cons, List.not_mem_nil, or_false] at hx
    rcases hx with rfl | rfl | rfl
    · exact cg_dec (by rw [eS_]; exact hr)
    · refine cg_dec ?_
      rw [fpEv_mul, fpEv_add, fpEv_sub, fpEv_sqr, fpEv_lit]
      exact e1
    · refine cg_dec (Cg.trans ?_ cb.symm)
      rw [fpEv_add, fpEv_mul, fpEv_lit, Nat.mul_zero]
      exact Cg.rfl' 0
  · have za : ¬ fpEv R aA % fpQ = 0 := fun h => hr (by
      have h2 := sqr_zero hR h
      unfold Cg
      rw [Nat.mul_mod, h2, Nat.mul_zero, Nat.zero_mod, h])
    have ho := eul_other fpPrime fpSS fpHH fpHo za
    have hr2 : Cg (R.sqr (fpQ - fpEv R aA % fpQ) * R.sqr (fpQ - fpEv R aA % fpQ)) (fpQ - fpEv R aA % fpQ) := by
      unfold Cg at hr ⊢
      rw [hR.sqr] at hr ⊢
      exact ho.2 hr
    have e2 := sq_z2 hR hr2
    refine ⟨false, ?_⟩
    intro x hx
    simp only [rtBl, squF, List.mem_cons, List.not_mem_nil, or_false] at hx
    rcases hx with rfl | rfl | rfl | rfl
    · exact cg_dec0 (by rw [eS_]; exact hr)
    · exact cg_dec (by rw [eS_, fpEv_neg]; exact hr2)
    · refine cg_dec ?_
      rw [fpEv_mul, fpEv_add, fpEv_sub, fpEv_sqr, fpEv_neg, fpEv_lit]
      exact e2
    · refine cg_dec (Cg.trans ?_ cb.symm)
      rw [fpEv_add, fpEv_mul, fpEv_lit, Nat.zero_mul]
      exact Cg.rfl' 0

theorem facts_G (zb : ¬ fpEv R bB % fpQ = 0) (hn : Cg (R.sqr (fpEv R xN) * R.sqr (fpEv R xN)) (fpEv R xN)) : ∃ r, FpFacts R (rtGl r) := by
  have hh := half_c hR
  have nh : ¬ R.inv 2 % fpQ = 0 := fun h => by
    unfold Cg at hh
    rw [Nat.mul_mod, h, Nat.mul_zero, Nat.zero_mod] at hh
    exact absurd hh (by decide)
  have ehH : fpEv R hH = R.inv 2 := by rw [fpEv_inv, fpEv_lit]
  have ew1 : fpEv R w1 = (fpEv R aA + R.sqr (fpEv R xN)) * R.inv 2 := by rw [fpEv_mul, ehH, fpEv_add, fpEv_sqr]
  have ew2 : fpEv R w2 = (fpEv R aA + (fpQ - R.sqr (fpEv R xN) % fpQ)) * R.inv 2 := by rw [fpEv_mul, ehH, fpEv_add, fpEv_neg, fpEv_sqr]
  have nm := eul_prod fpPrime fpSS fpHH fpHo zb nh
  have hsub : Cg (fpEv R aA * fpEv R aA + (fpQ - fpEv R xN % fpQ)) (fpQ - fpEv R bB * fpEv R bB % fpQ) := by
    rw [eN_]
    exact ring4 (fpEv R aA) (fpEv R bB) 0 0 (x := dE (mE v0 v0) (pE (mE v0 v0) (mE v1 v1))) (y := nE (mE v1 v1)) (by kernel_rfl)
  have hprod : Cg (fpEv R w1 * fpEv R w2) (fpQ - fpEv R bB * R.inv 2 * (fpEv R bB * R.inv 2) % fpQ) := by
    rw [ew1, ew2]
    have e1 := ring4 (fpEv R aA) (R.sqr (fpEv R xN)) (R.inv 2) 0 (x := mE (mE (pE v0 v1) v2) (mE (pE v0 (nE v1)) v2)) (y := mE (dE (mE v0 v0) (mE v1 v1)) (mE v2 v2)) (by kernel_rfl)
    have e2 : Cg (fpEv R aA * fpEv R aA + (fpQ - R.sqr (fpEv R xN) * R.sqr (fpEv R xN) % fpQ)) (fpQ - fpEv R bB * fpEv R bB % fpQ) := ((Cg.rfl' _).add hn.neg).trans hsub
    have e3 := e2.mul (Cg.rfl' (R.inv 2 * R.inv 2))
    have e4 := ring4 (fpEv R bB) (R.inv 2) 0 0 (x := mE (nE (mE v0 v0)) (mE v1 v1)) (y := nE (mE (mE v0 v1) (mE v0 v1))) (by kernel_rfl)
    exact Cg.trans e1 (Cg.trans e3 e4)
  have hsum : Cg (fpEv R w1 + fpEv R w2) (fpEv R aA) := by
    rw [ew1, ew2]
    have e1 := ring4 (fpEv R aA) (R.sqr (fpEv R xN)) (R.inv 2) 0 (x := pE (mE (pE v0 v1) v2) (mE (pE v0 (nE v1)) v2)) (y := mE v0 (mE (lE 2) v2)) (by kernel_rfl)
    have e2 := (Cg.rfl' (fpEv R aA)).mul hh
    rw [Nat.mul_one] at e2
    exact Cg.trans e1 e2
  have hmm : ¬ (fpQ - fpEv R bB * R.inv 2 * (fpEv R bB * R.inv 2) % fpQ) % fpQ = 0 := nz_neg (eul_prod fpPrime fpSS fpHH fpHo nm nm)
  have root : ∀ u v : E, Cg (fpEv R u * fpEv R v) (fpQ - fpEv R bB * R.inv 2 * (fpEv R bB * R.inv 2) % fpQ) → Cg (fpEv R u + fpEv R v) (fpEv R aA) → Cg (R.sqr (fpEv R u) * R.sqr (fpEv R u)) (fpEv R u) →
      ¬ fpEv R (sE u) % fpQ = 0 ∧ FpFacts R (squF (sE u) (yR u)) := fun u v hp hq hr => by
    have hs : ¬ R.sqr (fpEv R u) % fpQ = 0 := fun h => by
      have : fpEv R u % fpQ = 0 := by
        unfold Cg at hr
        rw [← hr, Nat.mul_mod, h, Nat.mul_zero, Nat.zero_mod]
      unfold Cg at hp
      rw [Nat.mul_mod, this, Nat.zero_mul, Nat.zero_mod] at hp
      exact hmm hp.symm
    refine ⟨by rw [fpEv_sqr]; exact hs, ?_⟩
    have ey : fpEv R (yR u) = fpEv R bB * R.inv 2 * R.inv (R.sqr (fpEv R u)) := by rw [fpEv_mul, fpEv_mul, ehH, fpEv_inv, fpEv_sqr]
    have g1 := sq_fst hR hr hs hp hq
    have g2 := sq_snd hR (b := fpEv R bB) hs
    intro x hx
    simp only [squF, List.mem_cons, List.not_mem_nil, or_false] at hx
    rcases hx with rfl | rfl
    · refine cg_dec ?_
      rw [fpEv_mul, fpEv_add, fpEv_sub, ey, fpEv_sqr]
      exact g1
    · refine cg_dec ?_
      rw [fpEv_add, fpEv_mul, ey, fpEv_sqr]
      exact g2
  by_cases hr : Cg (R.sqr (fpEv R w1) * R.sqr (fpEv R w1)) (fpEv R w1)
  · obtain ⟨g1, g2⟩ := root w1 w2 hprod hsum hr
    refine ⟨true, ?_⟩
    intro x hx
    simp only [rtGl, List.mem_cons] at hx
    rcases hx with rfl | rfl | hx
    · exact cg_dec (by rw [eS_]; exact hr)
    · exact tn_ g1
    · exact g2 x hx
  · have hr2 := one_root hR hprod nm hr
    obtain ⟨g1, g2⟩ := root w2 w1 (by rw [Nat.mul_comm]; exact hprod) (by rw [Nat.add_comm]; exact hsum) hr2
    refine ⟨false, ?_⟩
    intro x hx
    simp only [rtGl, List.mem_cons] at hx
    rcases hx with rfl | rfl | rfl | hx
    · exact cg_dec0 (by rw [eS_]; exact hr)
    · exact cg_dec (by rw [eS_]; exact hr2)
    · exact tn_ g1
    · exact g2 x hx

theorem facts_odd (i : Nat) (o : Bool) (h : flagV R 0 (wE i) = o) : flagV R 2 (.op 45 (.op 41 (.dt i) (.dt 0)) (.dt 0)) = o := by
  rw [← h]
  show decide (wdE R (.op 45 (.op 41 (.dt i) (.dt 0)) (.dt 0)) % 2 = 1) = decide (fpEv R (wE i) % fpQ % 2 = 1)
  have e : wdE R (.op 45 (.op 41 (.dt i) (.dt 0)) (.dt 0)) = fpEv R (wE i) % fpQ := by
    rw [wdE_mod, wdE_row, fpEv_wide]
    rfl
  rw [e]
end

end Go.Proofs.YtkeommkcjigioaaDoor

/- Package fp2 against the reference: the walk of Fp2Roots (runs). Conditions: those of each theorem. -/
namespace Go.Proofs.YtkeommkcjigioaaDoor
open Go.RowKit Sx
set_option linter.unusedVariables false

section
set_option maxRecDepth 100000
theorem fp2Roots_run1 : runFn Tryd.prog (fpTable { longs := [(0, true)], lim := 64 } (fp2nAll Tryd.prog { longs := [(0, true)], lim := 64 })) 400 Tryd.f8 [hArg 0, hArg 1] = some (boolR true) := by kernel_rfl
theorem fp2Roots_run2 : runFn Tryd.prog (fpTable { longs := [(0, false), (1, true)], lim := 64 } (fp2nAll Tryd.prog { longs := [(0, false), (1, true)], lim := 64 })) 400 Tryd.f8 [hArg 0, hArg 1] = some (boolR true) := by kernel_rfl
theorem fp2Roots_runB (z r oA oB gA gB : Bool) : runFn Tryd.prog (fpTable (rtB z r oA oB gA gB) (fp2nAll Tryd.prog (rtB z r oA oB gA gB))) 400 Tryd.f8 [hArg 0, hArg 1] = some (boolR true) := by
  cases z <;> cases r <;> cases oA <;> cases oB <;> cases gA <;> cases gB <;> kernel_rfl
theorem fp2Roots_runN (z oA oB gA gB : Bool) : runFn Tryd.prog (fpTable (rtN z oA oB gA gB) (fp2nAll Tryd.prog (rtN z oA oB gA gB))) 400 Tryd.f8 [hArg 0, hArg 1] = some (boolR true) := by
  cases z <;> cases oA <;> cases oB <;> cases gA <;> cases gB <;> kernel_rfl
theorem fp2Roots_runG (z r oA oB gA gB : Bool) : runFn Tryd.prog (fpTable (rtG z r oA oB gA gB) (fp2nAll Tryd.prog (rtG z r oA oB gA gB))) 400 Tryd.f8 [hArg 0, hArg 1] = some (boolR true) := by
  cases z <;> cases r <;> cases oA <;> cases oB <;> cases gA <;> cases gB <;> kernel_rfl
end

theorem fp2Roots_calls (A0 A1 : Option Addr) (n0 n1 c0 c1 : Nat) (l0 l1 : List Nat) (w : World) (ht : FpTab w)
    (hr0 : Rd w A0 (nums .u8 l0)) (hl0 : l0.length = n0) (hc0 : n0 ≤ c0) (hn0 : n0 ≤ 140737488355328) (hb0 : ∀ x ∈ l0, x < 256) (hk0 : ∀ g, blk A0 = some g → g < w.heap.size)
    (hr1 : Rd w A1 (nums .u8 l1)) (hl1 : l1.length = n1) (hc1 : n1 ≤ c1) (hn1 : n1 ≤ 140737488355328) (hb1 : ∀ x ∈ l1, x < 256) (hk1 : ∀ g, blk A1 = some g → g < w.heap.size) :
    Calls Tryd.prog 8 #[.slice A0 n0 c0, .slice A1 n1 c1] w fun e w' => e = .returned (.bool true) ∧ Below w.heap.size w w' := by
  obtain ⟨inv, hinv⟩ := inv_ex
  obtain ⟨sqr_, hsqr⟩ := sqr_ex
  let R : Ev := ⟨fun _ => 0, rows [l0, l1], inv, sqr_⟩
  have hR : R.Ok := ⟨rows_ok (by simp only [List.forall_mem_cons]; exact ⟨⟨hl0 ▸ hn0, hb0⟩, ⟨hl1 ▸ hn1, hb1⟩, fun x hx => by cases hx⟩), hinv, hsqr⟩
  have hin : RVsIs (fpDenS R) 0 w [hArg 0, hArg 1] [.slice A0 n0 c0, .slice A1 n1 c1] :=
    ⟨_, _, rfl, hArg_ok (R := R) (i := 0) hr0 hl0 hc0 hk0, _, _, rfl, hArg_ok (R := R) (i := 1) hr1 hl1 hc1 hk1, rfl⟩
  have go : ∀ X, FpTold R X → runFn Tryd.prog (fpTable X (fp2nAll Tryd.prog X)) 400 Tryd.f8 [hArg 0, hArg 1] = some (boolR true) → _ := fun X hX hrun => fp2n_law Tryd.func8 hR hX hrun ht hin
  by_cases h0 : 64 < l0.length
  · exact go _ (told64L (by intro x hx; simp at hx; subst hx; exact decide_eq_true h0)) fp2Roots_run1
  by_cases h1 : 64 < l1.length
  · exact go _ (told64L (by intro x hx; simp at hx; rcases hx with rfl | rfl; exact decide_eq_false h0; exact decide_eq_true h1)) fp2Roots_run2
  have hL : ∀ x ∈ rtL, decide (64 < (R.bys x.1).length) = x.2 := by intro x hx; simp [rtL] at hx; rcases hx with rfl | rfl; exact decide_eq_false h0; exact decide_eq_false h1
  have fl : ∀ k a, ∃ r, flagV R k a = r := fun a b => ⟨_, rfl⟩
  obtain ⟨oA, hoA⟩ := fl 0 aA
  obtain ⟨oB, hoB⟩ := fl 0 bB
  obtain ⟨gA, hgA⟩ := fl 1 aA
  obtain ⟨gB, hgB⟩ := fl 1 bB
  have hoA2 := facts_odd hR 0 oA hoA
  have hoB2 := facts_odd hR 1 oB hoB
  have hF : ∀ x ∈ rtF oA oB gA gB, flagV R x.1 x.2.1 = x.2.2 := by
    unfold rtF; simp only [List.forall_mem_cons]; exact ⟨hoA, hoA2, hoB, hoB2, hgA, hgB, fun x hx => by cases hx⟩
  have hz : ∃ z, decide (fpEv R aA % fpQ = fpEv R (lE 0) % fpQ) = z := ⟨_, rfl⟩
  obtain ⟨z, hz⟩ := hz
  have fB := facts_B hR
  have fG := facts_G hR
  have tz := tz_ (R := R) (a := bB)
  have tn := tn_ (R := R) (a := bB)
  have eN := eS_ R xN
  clear_value R
  by_cases zb : fpEv R bB % fpQ = 0
  · obtain ⟨q1, r, hf⟩ := fB zb
    have base : FpFacts R [(bB, lE 0, true), (aA, lE 0, z), (qE xN, xN, true)] := by
      unfold FpFacts; simp only [List.forall_mem_cons]
      exact ⟨tz (cg_zero.2 zb), hz, cg_dec q1, fun x hx => by cases hx⟩
    exact go (rtB z r oA oB gA gB) (told64 (facts_app base hf) hL hF) (fp2Roots_runB z r oA oB gA gB)
  · by_cases hn : Cg (R.sqr (fpEv R xN) * R.sqr (fpEv R xN)) (fpEv R xN)
    · obtain ⟨r, hf⟩ := fG zb hn
      have base : FpFacts R [(bB, lE 0, false), (aA, lE 0, z), (qE xN, xN, true)] := by
        unfold FpFacts; simp only [List.forall_mem_cons]
        exact ⟨tn zb, hz, cg_dec (by rw [eN]; exact hn), fun x hx => by cases hx⟩
      exact go (rtG z r oA oB gA gB) (told64 (facts_app base hf) hL hF) (fp2Roots_runG z r oA oB gA gB)
    · refine go (rtN z oA oB gA gB) (told64 ?_ hL hF) (fp2Roots_runN z oA oB gA gB)
      unfold FpFacts; simp only [List.forall_mem_cons]
      exact ⟨tn zb, hz, cg_dec0 (by rw [eN]; exact hn), fun x hx => by cases hx⟩

end Go.Proofs.YtkeommkcjigioaaDoor
