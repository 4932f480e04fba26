/- Texts in one: Pr, Prfp, Eul, TwV, TwU. Conditions: those of each theorem. -/
import Derived.Test.YtdconlmpjehohaaDoorTwS2

/- Primes: Fermat's theorem, and Pocklington's test. Conditions: those of each theorem. -/
namespace Go.Proofs.YtdconlmpjehohaaDoor
set_option linter.unusedVariables false

def IsP (q : Nat) : Prop := 1 < q ∧ ∀ d, d ∣ q → d = 1 ∨ d = q

theorem perm_sub {α : Type} [DecidableEq α] : ∀ {l m : List α}, l.Nodup → (∀ x ∈ l, x ∈ m) → m.length ≤ l.length → l.Perm m
  | [], m, h, hs, hl => by
    have : m = [] := List.eq_nil_of_length_eq_zero (by simpa using hl)
    subst this
    exact List.Perm.refl _
  | x :: l, m, h, hs, hl => by
    have hx : x ∈ m := hs x (by simp)
    have hp := List.perm_cons_erase hx
    have hlen := hp.length_eq
    rw [List.nodup_cons] at h
    refine (List.Perm.cons x (perm_sub h.2 (fun y hy => ?_) ?_)).trans hp.symm
    · have hne : y ≠ x := fun e => h.1 (e ▸ hy)
      exact (List.mem_erase_of_ne hne).2 (hs y (by simp [hy]))
    · simp at hlen hl
      omega

def prodL : List Nat → Nat
  | [] => 1
  | x :: l => x * prodL l

theorem prodL_perm {l m : List Nat} (h : l.Perm m) : prodL l = prodL m := by
  induction h with
  | nil => rfl
  | cons x _ ih => simp only [prodL, ih]
  | swap x y l => simp only [prodL]; rw [← Nat.mul_assoc, Nat.mul_comm y x, Nat.mul_assoc]
  | trans _ _ h1 h2 => exact h1.trans h2

theorem IsP.coprime {q a : Nat} (hq : IsP q) (h : ¬ q ∣ a) : Nat.Coprime a q := by
  have hd := hq.2 (Nat.gcd a q) (Nat.gcd_dvd_right a q)
  rcases hd with hd | hd
  · exact hd
  · exact absurd (hd ▸ Nat.gcd_dvd_left a q) h

theorem IsP.euclid {q a b : Nat} (hq : IsP q) (h : q ∣ a * b) : q ∣ a ∨ q ∣ b := by
  by_cases ha : q ∣ a
  · exact .inl ha
  · exact .inr ((hq.coprime ha).symm.dvd_of_dvd_mul_left h)

theorem prodL_map (a q : Nat) : ∀ l : List Nat, prodL (l.map fun i => a * i % q) % q = a ^ l.length * prodL l % q
  | [] => by simp [prodL]
  | x :: l => by
    simp only [List.map_cons, prodL, List.length_cons, Nat.pow_succ]
    rw [Nat.mul_mod, prodL_map a q l, Nat.mod_mod, ← Nat.mul_mod]
    congr 1
    ac_rfl

theorem prodL_dvd {q : Nat} (hq : IsP q) : ∀ l : List Nat, (∀ x ∈ l, ¬ q ∣ x) → ¬ q ∣ prodL l
  | [], _, h => by
    have := Nat.le_of_dvd (by simp [prodL]) h
    have := hq.1
    simp [prodL] at *
    omega
  | x :: l, hx, h => by
    rcases hq.euclid h with h | h
    · exact hx x (by simp) h
    · exact prodL_dvd hq l (fun y hy => hx y (by simp [hy])) h

theorem dvd_of_mod {q x y : Nat} (h : x % q = y % q) : q ∣ y - x := Nat.dvd_of_mod_eq_zero (Nat.sub_mod_eq_zero_of_mod_eq h.symm)
theorem mod_of_dvd {q x y : Nat} (hxy : x ≤ y) (h : q ∣ y - x) : x % q = y % q := by
  obtain ⟨t, ht⟩ := h
  rw [show y = x + q * t by omega, Nat.add_mul_mod_self_left]

theorem nodup_map {α β : Type} {f : α → β} {l : List α} (hf : ∀ x ∈ l, ∀ y ∈ l, f x = f y → x = y) (h : l.Nodup) : (l.map f).Nodup := by
  unfold List.Nodup at *
  rw [List.pairwise_map]
  exact List.Pairwise.imp_of_mem (fun hx hy hne he => hne (hf _ hx _ hy he)) h

theorem mod_cancel {q a b c : Nat} (hc : Nat.Coprime c q) (h : c * a % q = c * b % q) : a % q = b % q := by
  have key : ∀ x y : Nat, x ≤ y → c * x % q = c * y % q → x % q = y % q := fun x y hxy h => by
    have h1 : q ∣ c * (y - x) := by
      rw [Nat.mul_sub]
      exact dvd_of_mod h
    have h2 : q ∣ y - x := hc.symm.dvd_of_dvd_mul_left h1
    exact mod_of_dvd hxy h2
  rcases Nat.le_total a b with h' | h'
  · exact key a b h' h
  · exact (key b a h' h.symm).symm

/-- Fermat's theorem -/
theorem fermat {q a : Nat} (hq : IsP q) (ha : ¬ q ∣ a) : a ^ (q - 1) % q = 1 := by
  have hq1 := hq.1
  have hco := hq.coprime ha
  have nd : ((List.range' 1 (q - 1)).map fun i => a * i % q).Nodup := by
    refine nodup_map (fun x hx y hy h => ?_) List.nodup_range'
    have := mod_cancel hco h
    simp [List.mem_range'_1] at hx hy
    rwa [Nat.mod_eq_of_lt (by omega), Nat.mod_eq_of_lt (by omega)] at this
  have hp : ((List.range' 1 (q - 1)).map fun i => a * i % q).Perm (List.range' 1 (q - 1)) := by
    refine perm_sub nd (fun x hx => ?_) (by simp)
    obtain ⟨i, hi, rfl⟩ := List.mem_map.1 hx
    simp [List.mem_range'_1] at hi ⊢
    have hlt : a * i % q < q := Nat.mod_lt _ (by omega)
    have hne : a * i % q ≠ 0 := fun h0 => by
      rcases hq.euclid (Nat.dvd_of_mod_eq_zero h0) with h | h
      · exact ha h
      · have := Nat.le_of_dvd (by omega) h; omega
    omega
  have h1 := prodL_map a q (List.range' 1 (q - 1))
  rw [prodL_perm hp, List.length_range'] at h1
  have hnd : ¬ q ∣ prodL (List.range' 1 (q - 1)) := prodL_dvd hq _ fun x hx h => by
    simp [List.mem_range'_1] at hx
    have := Nat.le_of_dvd (by omega) h
    omega
  have h2 := mod_cancel (hq.coprime hnd) (a := 1) (b := a ^ (q - 1)) (by rw [Nat.mul_one, h1, Nat.mul_comm])
  rw [Nat.mod_eq_of_lt hq1] at h2
  exact h2.symm

/-- no number from d on, so many, divides n -/
def tries (n : Nat) : Nat → Nat → Bool
  | 0, _ => true
  | f + 1, d => match Nat.beq (n % d) 0 with
    | true => false
    | false => tries n f (d + 1)

theorem tries_ok {n : Nat} : ∀ {f d : Nat}, tries n f d = true → ∀ e, d ≤ e → e < d + f → ¬ e ∣ n
  | 0, d, h, e, h1, h2, _ => by omega
  | f + 1, d, h, e, h1, h2, hd => by
    simp only [tries] at h
    cases hb : Nat.beq (n % d) 0 with
    | true => rw [hb] at h; cases h
    | false =>
      rw [hb] at h
      by_cases he : e = d
      · subst he
        exact Nat.ne_of_beq_eq_false hb (Nat.mod_eq_zero_of_dvd hd)
      · exact tries_ok h e (by omega) (by omega) hd

theorem isP_of_tries {n k : Nat} (hn : 1 < n) (hk : n < (k + 2) * (k + 2)) (h : tries n k 2 = true) : IsP n := by
  refine ⟨hn, fun d hd => ?_⟩
  by_cases h1 : d = 1
  · exact .inl h1
  right
  obtain ⟨e, he⟩ := hd
  have hd0 : 0 < d := by
    rcases Nat.eq_zero_or_pos d with h0 | h0
    · subst h0; omega
    · exact h0
  by_cases hdk : d < 2 + k
  · exact absurd ⟨e, he⟩ (tries_ok h d (by omega) hdk)
  · by_cases hek : e < 2 + k
    · by_cases he1 : e = 1
      · subst he1; omega
      · have he0 : 0 < e := by
          rcases Nat.eq_zero_or_pos e with h0 | h0
          · subst h0; omega
          · exact h0
        exact absurd ⟨d, by rw [he, Nat.mul_comm]⟩ (tries_ok h e (by omega) hek)
    · have : (k + 2) * (k + 2) ≤ d * e := Nat.mul_le_mul (by omega) (by omega)
      omega

theorem prime_factor : ∀ n : Nat, 1 < n → ∃ q, IsP q ∧ q ∣ n := by
  intro n
  induction n using Nat.strongRecOn with
  | _ n ih =>
    intro hn
    by_cases hp : ∀ d, d ∣ n → d = 1 ∨ d = n
    · exact ⟨n, ⟨hn, hp⟩, Nat.dvd_refl n⟩
    · obtain ⟨d, hd⟩ := Classical.not_forall.1 hp
      obtain ⟨hd, hne⟩ := Classical.not_imp.1 hd
      have hle := Nat.le_of_dvd (by omega) hd
      have hd0 : 0 < d := Nat.pos_of_dvd_of_pos hd (by omega)
      have h1 : d ≠ 1 := fun e => hne (.inl e)
      have h2 : d ≠ n := fun e => hne (.inr e)
      obtain ⟨q, hq, hqd⟩ := ih d (by omega) (by omega)
      exact ⟨q, hq, Nat.dvd_trans hqd hd⟩

theorem pow_one_mod {q t : Nat} (hq : 1 < q) (h : t % q = 1) (k : Nat) : t ^ k % q = 1 := by
  rw [Nat.pow_mod, h, Nat.one_pow, Nat.mod_eq_of_lt hq]

theorem pock_step {n q l a : Nat} (hq : IsP q) (hqn : q ∣ n) (hl : IsP l) (hln : l ∣ n - 1) (h1 : a ^ (n - 1) % n = 1) (h2 : Nat.Coprime (a ^ ((n - 1) / l) % n + n - 1) n) : l ∣ q - 1 := by
  refine Classical.byContradiction fun hnd => ?_
  have hq1 := hq.1
  have hl1 := hl.1
  have hn0 : 0 < n := by
    rcases Nat.eq_zero_or_pos n with h | h
    · subst h; simp at h2 h1
    · exact h
  have hmod : ∀ x : Nat, x % n % q = x % q := fun x => Nat.mod_mod_of_dvd x hqn
  have h1q : a ^ (n - 1) % q = 1 := by rw [← hmod, h1, Nat.mod_eq_of_lt hq1]
  have hn1 : n - 1 ≠ 0 := by
    intro h
    have : n = 1 := by omega
    subst this
    have := Nat.le_of_dvd (by omega) hqn
    omega
  have hqa : ¬ q ∣ a := fun h => by
    have : q ∣ a ^ (n - 1) := by rw [show n - 1 = (n - 2) + 1 by omega, Nat.pow_succ]; exact Nat.dvd_trans h (Nat.dvd_mul_left _ _)
    have := Nat.mod_eq_zero_of_dvd this
    omega
  have hf := fermat hq hqa
  have hfl := fermat hl hnd
  generalize ht : a ^ ((n - 1) / l) = t at h2
  have e1 : t ^ l % q = 1 := by rw [← ht, ← Nat.pow_mul, Nat.div_mul_cancel hln]; exact h1q
  have e2 : t ^ (q - 1) % q = 1 := by
    rw [← ht, ← Nat.pow_mul, Nat.mul_comm, Nat.pow_mul]
    exact pow_one_mod hq1 hf _
  have hk : (q - 1) ^ (l - 1) = 1 + l * ((q - 1) ^ (l - 1) / l) := by
    have := Nat.div_add_mod ((q - 1) ^ (l - 1)) l
    omega
  have e3 : t ^ ((q - 1) ^ (l - 1)) % q = 1 := by
    rw [show l - 1 = (l - 2) + 1 by omega, Nat.pow_succ, Nat.mul_comm, Nat.pow_mul]
    exact pow_one_mod hq1 e2 _
  have e4 : t ^ ((q - 1) ^ (l - 1)) % q = t % q := by
    rw [hk, Nat.pow_add, Nat.pow_one, Nat.pow_mul, Nat.mul_mod, pow_one_mod hq1 e1, Nat.mul_one, Nat.mod_mod]
  have e5 : t % q = 1 := e4.symm.trans e3
  have hdv : q ∣ t % n + n - 1 := by
    have h6 : (t % n) % q = 1 % q := by rw [hmod, e5, Nat.mod_eq_of_lt hq1]
    have h7 : 1 ≤ t % n := by
      rcases Nat.eq_zero_or_pos (t % n) with h | h
      · rw [h, Nat.zero_mod, Nat.mod_eq_of_lt hq1] at h6; omega
      · exact h
    have h8 : q ∣ t % n - 1 := dvd_of_mod h6.symm
    rw [show t % n + n - 1 = (t % n - 1) + n by omega]
    exact Nat.dvd_add h8 hqn
  have := Nat.dvd_gcd hdv hqn
  rw [h2] at this
  have := Nat.le_of_dvd (by omega) this
  omega

theorem prod_dvd {m : Nat} : ∀ {ls : List Nat}, (∀ x ∈ ls, IsP x ∧ x ∣ m) → ls.Nodup → prodL ls ∣ m
  | [], h, hn => by simp [prodL]
  | x :: ls, h, hn => by
    rw [List.nodup_cons] at hn
    have hx := h x (by simp)
    have hr := prod_dvd (fun y hy => h y (by simp [hy])) hn.2
    have hnd : ¬ x ∣ prodL ls := prodL_dvd hx.1 ls fun y hy hd => by
      rcases (h y (by simp [hy])).1.2 x hd with e | e
      · have := hx.1.1; omega
      · exact hn.1 (e ▸ hy)
    exact Nat.Coprime.mul_dvd_of_dvd_of_dvd (hx.1.coprime hnd).symm hx.2 hr

/-- Pocklington's test -/
theorem pock {n : Nat} (hn : 1 < n) (ls : List (Nat × Nat)) (h : ∀ x ∈ ls, IsP x.1 ∧ x.1 ∣ n - 1 ∧ x.2 ^ (n - 1) % n = 1 ∧ Nat.Coprime (x.2 ^ ((n - 1) / x.1) % n + n - 1) n)
    (hd : (ls.map (·.1)).Nodup) (hb : n < (prodL (ls.map (·.1)) + 1) * (prodL (ls.map (·.1)) + 1)) : IsP n := by
  have big : ∀ q, IsP q → q ∣ n → n < q * q := fun q hq hqn => by
    have hdv : prodL (ls.map (·.1)) ∣ q - 1 := prod_dvd (fun x hx => by
      obtain ⟨y, hy, rfl⟩ := List.mem_map.1 hx
      obtain ⟨h1, h2, h3, h4⟩ := h y hy
      exact ⟨h1, pock_step hq hqn h1 h2 h3 h4⟩) hd
    have hq1 := hq.1
    have := Nat.le_of_dvd (by omega) hdv
    exact Nat.lt_of_lt_of_le hb (Nat.mul_le_mul (by omega) (by omega))
  refine ⟨hn, fun d hdn => ?_⟩
  obtain ⟨e, he⟩ := hdn
  by_cases h1 : d = 1
  · exact .inl h1
  right
  by_cases he1 : e = 1
  · subst he1; omega
  exfalso
  have hd0 : d ≠ 0 := fun h => by subst h; omega
  have he0 : e ≠ 0 := fun h => by subst h; omega
  obtain ⟨p, hp, hpd⟩ := prime_factor d (by omega)
  obtain ⟨q, hq, hqe⟩ := prime_factor e (by omega)
  have b1 := big p hp (Nat.dvd_trans hpd ⟨e, he⟩)
  have b2 := big q hq (Nat.dvd_trans hqe ⟨d, by rw [he, Nat.mul_comm]⟩)
  have l1 := Nat.le_of_dvd (by omega) hpd
  have l2 := Nat.le_of_dvd (by omega) hqe
  rcases Nat.le_total d e with hde | hde
  · have : p * p ≤ d * e := Nat.mul_le_mul l1 (by omega)
    omega
  · have : q * q ≤ d * e := Nat.mul_le_mul (by omega) l2
    omega

def pwM (b m : Nat) : Nat → Nat → Nat
  | 0, _ => 1 % m
  | f + 1, e => if e % 2 = 1 then pwM b m f (e / 2) * pwM b m f (e / 2) % m * b % m else pwM b m f (e / 2) * pwM b m f (e / 2) % m

theorem pwM_eq (b m : Nat) : ∀ (f e : Nat), e < 2 ^ f → pwM b m f e = b ^ e % m
  | 0, e, h => by
    have : e = 0 := by simpa using h
    subst this
    rfl
  | f + 1, e, h => by
    have h2 : e / 2 < 2 ^ f := by rw [Nat.pow_succ] at h; omega
    have he : e = e / 2 + e / 2 + e % 2 := by omega
    simp only [pwM, pwM_eq b m f (e / 2) h2]
    split
    · rename_i h1
      conv => rhs; rw [he, h1, Nat.pow_succ, Nat.pow_add]
      rw [← Nat.mul_mod, Nat.mod_mul_mod]
    · rename_i h1
      have h0 : e % 2 = 0 := by omega
      conv => rhs; rw [he, h0, Nat.add_zero, Nat.pow_add]
      rw [← Nat.mul_mod]

/-- the test's reckoning, by squares and products -/
def pockB (n f : Nat) (ls : List (Nat × Nat)) : Bool := ls.all fun x => Nat.beq ((n - 1) % x.1) 0 && (Nat.beq (pwM x.2 n f (n - 1)) 1 && Nat.beq (Nat.gcd (pwM x.2 n f ((n - 1) / x.1) + n - 1) n) 1)

theorem isP_pock {n f : Nat} (hn : 1 < n) (hf : n ≤ 2 ^ f) (ls : List (Nat × Nat)) (hp : ∀ x ∈ ls, IsP x.1) (h : pockB n f ls = true)
    (hd : (ls.map (·.1)).Nodup) (hb : n < (prodL (ls.map (·.1)) + 1) * (prodL (ls.map (·.1)) + 1)) : IsP n := by
  refine pock hn ls (fun x hx => ?_) hd hb
  have := List.all_eq_true.1 h x hx
  simp only [Bool.and_eq_true] at this
  obtain ⟨h1, h2, h3⟩ := this
  have h2 := Nat.eq_of_beq_eq_true h2
  have h3 := Nat.eq_of_beq_eq_true h3
  rw [pwM_eq _ _ _ _ (by omega)] at h2
  rw [pwM_eq _ _ _ _ (Nat.lt_of_le_of_lt (Nat.div_le_self _ _) (by omega))] at h3
  exact ⟨hp x hx, Nat.dvd_of_mod_eq_zero (Nat.eq_of_beq_eq_true h1), h2, h3⟩

end Go.Proofs.YtdconlmpjehohaaDoor

/- Package fp: the modulus is prime. Conditions: none. -/
namespace Go.Proofs.YtdconlmpjehohaaDoor
set_option linter.unusedVariables false
set_option maxRecDepth 100000

theorem pr_421987 : IsP 421987 := isP_of_tries (k := 648) (by decide +kernel) (by decide +kernel) (by decide +kernel)
theorem pr_13090036741 : IsP 13090036741 := isP_pock (f := 34) (by decide +kernel) (by decide +kernel) [(421987, 2)] (by
    simp only [List.forall_mem_cons]
    exact ⟨pr_421987, fun x hx => by cases hx⟩) (by decide +kernel) (by decide +kernel) (by decide +kernel)
theorem pr_755057 : IsP 755057 := isP_of_tries (k := 867) (by decide +kernel) (by decide +kernel) (by decide +kernel)
theorem pr_3819663927398918131021 : IsP 3819663927398918131021 := isP_pock (f := 72) (by decide +kernel) (by decide +kernel) [(13090036741, 2), (755057, 2)] (by
    simp only [List.forall_mem_cons]
    exact ⟨pr_13090036741, pr_755057, fun x hx => by cases hx⟩) (by decide +kernel) (by decide +kernel) (by decide +kernel)
theorem pr_1125266252156850182658904441386709967 : IsP 1125266252156850182658904441386709967 := isP_pock (f := 120) (by decide +kernel) (by decide +kernel) [(3819663927398918131021, 2)] (by
    simp only [List.forall_mem_cons]
    exact ⟨pr_3819663927398918131021, fun x hx => by cases hx⟩) (by decide +kernel) (by decide +kernel) (by decide +kernel)
theorem pr_15778400344354997994418419698270088123916926905054652752758194827714659 : IsP 15778400344354997994418419698270088123916926905054652752758194827714659 := isP_pock (f := 234) (by decide +kernel) (by decide +kernel) [(1125266252156850182658904441386709967, 2)] (by
    simp only [List.forall_mem_cons]
    exact ⟨pr_1125266252156850182658904441386709967, fun x hx => by cases hx⟩) (by decide +kernel) (by decide +kernel) (by decide +kernel)
theorem pr_4002409555221667393417789825735904156556882819939007885332058136124031650490837864442687629129015664037894272559787 : IsP 4002409555221667393417789825735904156556882819939007885332058136124031650490837864442687629129015664037894272559787 := isP_pock (f := 381) (by decide +kernel) (by decide +kernel) [(15778400344354997994418419698270088123916926905054652752758194827714659, 2)] (by
    simp only [List.forall_mem_cons]
    exact ⟨pr_15778400344354997994418419698270088123916926905054652752758194827714659, fun x hx => by cases hx⟩) (by decide +kernel) (by decide +kernel) (by decide +kernel)

end Go.Proofs.YtdconlmpjehohaaDoor

/- Squares modulo a prime that is 3 modulo 4. Conditions: those of each theorem. -/
namespace Go.Proofs.YtdconlmpjehohaaDoor
set_option linter.unusedSectionVars false
set_option linter.unusedVariables false

section
variable {q S H : Nat} (hq : IsP q) (hS : S + S = H + 1) (hH : q = 2 * H + 1) (hodd : H % 2 = 1)
include hq hS hH hodd

theorem eul_q : 2 < q := by omega

theorem eul_nd {a : Nat} (ha : ¬ a % q = 0) : ¬ q ∣ a := fun h => ha (Nat.mod_eq_zero_of_dvd h)

theorem eul_one {a : Nat} (ha : ¬ a % q = 0) : a ^ H * a ^ H % q = 1 := by
  have := fermat hq (eul_nd hq hS hH hodd ha)
  rw [show q - 1 = H + H by omega, Nat.pow_add] at this
  exact this

/-- a number's half power is 1 or -1 -/
theorem eul_half {a : Nat} (ha : ¬ a % q = 0) : a ^ H % q = 1 ∨ a ^ H % q = q - 1 := by
  have h1 := eul_one hq hS hH hodd ha
  rw [Nat.mul_mod] at h1
  have hlt : a ^ H % q < q := Nat.mod_lt _ (by omega)
  generalize a ^ H % q = t at h1 hlt ⊢
  have ht : 0 < t := by
    rcases Nat.eq_zero_or_pos t with h | h
    · subst h; rw [Nat.mul_zero, Nat.zero_mod] at h1; cases h1
    · exact h
  obtain ⟨k, rfl⟩ : ∃ k, t = k + 1 := ⟨t - 1, by omega⟩
  have h2 : q ∣ k * (k + 2) := by
    have h3 : (k + 1) * (k + 1) % q = 1 % q := by rw [h1, Nat.mod_eq_of_lt (by omega)]
    have h4 := dvd_of_mod h3.symm
    rw [show (k + 1) * (k + 1) - 1 = k * (k + 2) by simp only [Nat.add_mul, Nat.mul_add, Nat.one_mul, Nat.mul_one]; omega] at h4
    exact h4
  rcases hq.euclid h2 with h | h
  · left
    have : k = 0 := by
      rcases Nat.eq_zero_or_pos k with h0 | h0
      · exact h0
      · have := Nat.le_of_dvd h0 h; omega
    omega
  · right
    have := Nat.le_of_dvd (by omega) h
    omega

theorem eul_sq (a : Nat) : a ^ S * a ^ S = a ^ H * a := by rw [← Nat.pow_add, hS, Nat.pow_succ]

theorem eul_zero {a k : Nat} (ha : a % q = 0) (hk : 0 < k) : a ^ k % q = 0 := by
  obtain ⟨j, rfl⟩ : ∃ j, k = j + 1 := ⟨k - 1, by omega⟩
  rw [Nat.pow_succ, Nat.mul_mod, ha, Nat.mul_zero, Nat.zero_mod]

/-- squares are the numbers whose half power is 1, and 0 -/
theorem eul_iff {a : Nat} (ha : ¬ a % q = 0) : a ^ S * a ^ S % q = a % q ↔ a ^ H % q = 1 := by
  rw [eul_sq hq hS hH hodd]
  constructor
  · intro h
    have hc : Nat.Coprime a q := hq.coprime (eul_nd hq hS hH hodd ha)
    have := mod_cancel (a := a ^ H) (b := 1) hc (by rw [Nat.mul_comm, h, Nat.mul_one])
    rw [this, Nat.mod_eq_of_lt (by omega)]
  · intro h
    rw [Nat.mul_mod, h, Nat.one_mul, Nat.mod_mod]

theorem eul_iff0 {a : Nat} (ha : a % q = 0) : a ^ S * a ^ S % q = a % q := by
  rw [eul_sq hq hS hH hodd, Nat.mul_mod, ha, Nat.mul_zero, Nat.zero_mod]

theorem eul_prod {a b : Nat} (ha : ¬ a % q = 0) (hb : ¬ b % q = 0) : ¬ a * b % q = 0 := fun h => by
  rcases hq.euclid (Nat.dvd_of_mod_eq_zero h) with h | h
  · exact eul_nd hq hS hH hodd ha h
  · exact eul_nd hq hS hH hodd hb h

theorem eul_neg2 : (q - 1) * (q - 1) % q = 1 := by
  have e : (q - 1) * (q - 1) = 1 + q * (q - 2) := by
    obtain ⟨k, rfl⟩ : ∃ k, q = k + 2 := ⟨q - 2, by omega⟩
    rw [show k + 2 - 1 = k + 1 by omega, show k + 2 - 2 = k by omega, Nat.add_mul, Nat.add_mul, Nat.mul_add]
    omega
  rw [e, Nat.add_mul_mod_self_left, Nat.mod_eq_of_lt (by omega)]

/-- of squares and others the products -/
theorem eul_forms {a b : Nat} (ha : ¬ a % q = 0) (hb : ¬ b % q = 0) :
    decide ((a * b) ^ S * (a * b) ^ S % q = a * b % q) = (decide (a ^ S * a ^ S % q = a % q) == decide (b ^ S * b ^ S % q = b % q)) := by
  have hp : (a * b) ^ H % q = a ^ H % q * (b ^ H % q) % q := by rw [Nat.mul_pow, Nat.mul_mod]
  have hn := eul_neg2 hq hS hH hodd
  have h1 : (1 : Nat) % q = 1 := Nat.mod_eq_of_lt (by omega)
  have h2 : (q - 1) % q = q - 1 := Nat.mod_eq_of_lt (by omega)
  have key : ((a * b) ^ H % q = 1) ↔ ((a ^ H % q = 1) ↔ (b ^ H % q = 1)) := by
    rw [hp]
    rcases eul_half hq hS hH hodd ha with ea | ea <;> rcases eul_half hq hS hH hodd hb with eb | eb <;> rw [ea, eb]
    · simp [h1]
    · rw [Nat.one_mul, h2]; omega
    · rw [Nat.mul_one, h2]; omega
    · rw [hn]; simp
  rw [Bool.eq_iff_iff]
  simp only [decide_eq_true_eq, beq_iff_eq, decide_eq_decide, eul_iff hq hS hH hodd ha, eul_iff hq hS hH hodd hb, eul_iff hq hS hH hodd (eul_prod hq hS hH hodd ha hb)]
  exact key

/-- a square has a root -/
theorem eul_root (a : Nat) : (a * a) ^ S * (a * a) ^ S % q = a * a % q := by
  by_cases ha : a % q = 0
  · exact eul_iff0 hq hS hH hodd (by rw [Nat.mul_mod, ha, Nat.zero_mul, Nat.zero_mod])
  · rw [eul_iff hq hS hH hodd (eul_prod hq hS hH hodd ha ha), Nat.mul_pow]
    exact eul_one hq hS hH hodd ha

theorem eul_neg {a : Nat} : (q - 1) * a % q = (q - a % q) % q := by
  have hlt : a % q < q := Nat.mod_lt _ (by omega)
  rw [← Nat.mul_mod_mod]
  generalize a % q = c at hlt ⊢
  rcases Nat.eq_zero_or_pos c with h | h
  · subst h; simp
  · have e : (q - 1) * c = (q - c) + q * (c - 1) := by
      obtain ⟨k, rfl⟩ : ∃ k, c = k + 1 := ⟨c - 1, by omega⟩
      rw [Nat.add_sub_cancel, Nat.sub_mul, Nat.one_mul, Nat.mul_add, Nat.mul_one]
      have : k + 1 ≤ q * k + q := by
        have := Nat.le_mul_of_pos_left k (show 0 < q by omega)
        omega
      omega
    rw [e, Nat.add_mul_mod_self_left]

/-- the root is the number or its negative -/
theorem eul_pm (a : Nat) : (a * a) ^ S % q = a % q ∨ (a * a) ^ S % q = (q - a % q) % q := by
  by_cases ha : a % q = 0
  · left
    rw [ha]
    exact eul_zero hq hS hH hodd (by rw [Nat.mul_mod, ha, Nat.zero_mul, Nat.zero_mod]) (by omega)
  · rw [Nat.mul_pow, eul_sq hq hS hH hodd]
    rcases eul_half hq hS hH hodd ha with e | e
    · left
      rw [Nat.mul_mod, e, Nat.one_mul, Nat.mod_mod]
    · right
      rw [← Nat.mod_mul_mod, e]
      exact eul_neg hq hS hH hodd

theorem eul_odd : ∀ k, (q - 1) ^ (2 * k + 1) % q = q - 1
  | 0 => by rw [Nat.mul_zero, Nat.zero_add, Nat.pow_one, Nat.mod_eq_of_lt (by omega)]
  | k + 1 => by
    rw [show 2 * (k + 1) + 1 = (2 * k + 1) + 2 by omega, Nat.pow_add, Nat.mul_mod, eul_odd k, show (q - 1) ^ 2 = (q - 1) * (q - 1) by rw [Nat.pow_succ, Nat.pow_one], eul_neg2 hq hS hH hodd, Nat.mul_one, Nat.mod_eq_of_lt (by omega)]

theorem eul_nz {a : Nat} (ha : ¬ a % q = 0) : ¬ (q - a % q) % q = 0 := by
  have hlt : a % q < q := Nat.mod_lt _ (by omega)
  rw [Nat.mod_eq_of_lt (by omega)]
  omega

/-- of a number and its negative one is a square -/
theorem eul_other {a : Nat} (ha : ¬ a % q = 0) : ((q - a % q) ^ S * (q - a % q) ^ S % q = (q - a % q) % q) ↔ ¬ (a ^ S * a ^ S % q = a % q) := by
  rw [eul_iff hq hS hH hodd (eul_nz hq hS hH hodd ha), eul_iff hq hS hH hodd ha]
  have e : (q - a % q) ^ H % q = (q - 1) * (a ^ H % q) % q := by
    rw [Nat.pow_mod, ← eul_neg hq hS hH hodd, ← Nat.pow_mod, Nat.mul_pow, Nat.mul_mod]
    obtain ⟨k, hk⟩ : ∃ k, H = 2 * k + 1 := ⟨H / 2, by omega⟩
    rw [show (q - 1) ^ H % q = q - 1 by rw [hk]; exact eul_odd hq hS hH hodd k]
  rw [e]
  have hn := eul_neg2 hq hS hH hodd
  rcases eul_half hq hS hH hodd ha with h | h <;> rw [h]
  · rw [Nat.mul_one, Nat.mod_eq_of_lt (by omega)]; omega
  · rw [hn]; omega
end
end Go.Proofs.YtdconlmpjehohaaDoor

/- Norms of numbers of the second and of the third degree: nought modulo q just if the number is. Conditions: those of each theorem. -/
namespace Go.Proofs.YtdconlmpjehohaaDoor
open Go.RowKit Sx
set_option linter.unusedVariables false
set_option linter.unusedSimpArgs false

theorem fpPrime : IsP fpQ := pr_4002409555221667393417789825735904156556882819939007885332058136124031650490837864442687629129015664037894272559787
def fpH : Nat := 2001204777610833696708894912867952078278441409969503942666029068062015825245418932221343814564507832018947136279893
theorem fpSS : fpS + fpS = fpH + 1 := by decide +kernel
theorem fpHH : fpQ = 2 * fpH + 1 := by decide +kernel
theorem fpHo : fpH % 2 = 1 := by decide +kernel

/-- the sum of two squares is 0 just if both are -/
theorem fp_norm0 (a b : Nat) : (a * a + b * b) % fpQ = 0 ↔ a % fpQ = 0 ∧ b % fpQ = 0 := by
  have hq : 0 < fpQ := by decide
  constructor
  · intro h
    by_cases hb : b % fpQ = 0
    · refine ⟨?_, hb⟩
      have e : (a * a) % fpQ = 0 := by
        rw [Nat.add_mod, Nat.mul_mod b, hb, Nat.mul_zero, Nat.zero_mod, Nat.add_zero, Nat.mod_mod] at h
        exact h
      by_cases ha : a % fpQ = 0
      · exact ha
      · exact absurd e (eul_prod fpPrime fpSS fpHH fpHo ha ha)
    · exfalso
      have hbb := eul_prod fpPrime fpSS fpHH fpHo hb hb
      have h1 := eul_other fpPrime fpSS fpHH fpHo hbb
      have h2 := eul_root fpPrime fpSS fpHH fpHo b
      have h3 := eul_root fpPrime fpSS fpHH fpHo a
      have e : (fpQ - b * b % fpQ) % fpQ = a * a % fpQ := by
        have hlt : b * b % fpQ < fpQ := Nat.mod_lt _ hq
        have h4 : a * a % fpQ < fpQ := Nat.mod_lt _ hq
        rw [Nat.add_mod] at h
        generalize a * a % fpQ = u at *
        generalize b * b % fpQ = v at *
        have h5 : u + v = fpQ := by
          rcases Nat.lt_or_ge (u + v) fpQ with h6 | h6
          · rw [Nat.mod_eq_of_lt h6] at h; omega
          · have : (u + v) % fpQ = u + v - fpQ := by rw [Nat.mod_eq_sub_mod h6, Nat.mod_eq_of_lt (by omega)]
            omega
        rw [show fpQ - v = u by omega, Nat.mod_eq_of_lt h4]
      have key : ∀ x y : Nat, x % fpQ = y % fpQ → y ^ fpS * y ^ fpS % fpQ = y % fpQ → x ^ fpS * x ^ fpS % fpQ = x % fpQ := fun x y hxy hy => by
        rw [← Nat.pow_add, Nat.pow_mod, hxy, ← Nat.pow_mod, Nat.pow_add, hy]
      have h7 := key (fpQ - b * b % fpQ) (a * a) e h3
      exact absurd h2 (h1.1 h7)
  · rintro ⟨ha, hb⟩
    rw [Nat.add_mod, Nat.mul_mod a, ha, Nat.mul_mod b, hb]
    rfl

def fpK : Nat := 1334136518407222464472596608578634718852294273313002628444019378708010550163612621480895876376338554679298090853262
theorem fpKK : fpQ - 1 = fpK + fpK + fpK := by decide +kernel
theorem two_H : 2 ^ fpH % fpQ = fpQ - 1 := by
  rw [← pwM_eq 2 fpQ 400 fpH (by decide +kernel)]
  decide +kernel
theorem two_K : 2 ^ fpK % fpQ = 793479390729215512621379701633421447060886740281060493010456487427281649075476305620758731620350 := by
  rw [← pwM_eq 2 fpQ 400 fpK (by decide +kernel)]
  decide +kernel

theorem fp_nd {n : Nat} (h : ¬ n % fpQ = 0) : ¬ fpQ ∣ n := fun hd => h (Nat.mod_eq_zero_of_dvd hd)

theorem fp_prod {a b : Nat} (h : a * b % fpQ = 0) : a % fpQ = 0 ∨ b % fpQ = 0 := by
  rcases fpPrime.euclid (Nat.dvd_of_mod_eq_zero h) with h | h
  · exact .inl (Nat.mod_eq_zero_of_dvd h)
  · exact .inr (Nat.mod_eq_zero_of_dvd h)

theorem fp_two : ¬ 2 % fpQ = 0 := by decide +kernel

/-- 2 is no square -/
theorem fp_nonsq {n m : Nat} (h : 2 * (n * n) % fpQ = m * m % fpQ) : n % fpQ = 0 := by
  by_cases hn : n % fpQ = 0
  · exact hn
  exfalso
  by_cases hm : m % fpQ = 0
  · rw [Nat.mul_mod m, hm, Nat.mul_zero, Nat.zero_mod] at h
    rcases fp_prod h with h | h
    · exact fp_two h
    · rcases fp_prod h with h | h <;> exact hn h
  · have h1 := eul_one fpPrime fpSS fpHH fpHo hn
    have h2 := eul_one fpPrime fpSS fpHH fpHo hm
    have h3 : (2 * (n * n)) ^ fpH % fpQ = (m * m) ^ fpH % fpQ := by rw [Nat.pow_mod, h, ← Nat.pow_mod]
    rw [Nat.mul_pow, Nat.mul_pow, Nat.mul_pow, h2, Nat.mul_mod, h1, two_H] at h3
    revert h3
    decide +kernel

/-- 2 is no cube -/
theorem fp_noncube {n m : Nat} (h : 2 * (n * n * n) % fpQ = m * m * m % fpQ) : n % fpQ = 0 := by
  by_cases hn : n % fpQ = 0
  · exact hn
  exfalso
  by_cases hm : m % fpQ = 0
  · rw [Nat.mul_mod (m * m), hm, Nat.mul_zero, Nat.zero_mod] at h
    rcases fp_prod h with h | h
    · exact fp_two h
    · rcases fp_prod h with h | h
      · rcases fp_prod h with h | h <;> exact hn h
      · exact hn h
  · have f1 := fermat fpPrime (fp_nd hn)
    have f2 := fermat fpPrime (fp_nd hm)
    rw [fpKK, Nat.pow_add, Nat.pow_add] at f1 f2
    have h3 : (2 * (n * n * n)) ^ fpK % fpQ = (m * m * m) ^ fpK % fpQ := by rw [Nat.pow_mod, h, ← Nat.pow_mod]
    rw [Nat.mul_pow, Nat.mul_pow, Nat.mul_pow, Nat.mul_pow, Nat.mul_pow, f2, Nat.mul_mod, f1, two_K] at h3
    revert h3
    decide +kernel

/-- divided by q -/
def Dv (a : Int) : Prop := (fpQ : Int) ∣ a

theorem nat_of (a : Int) : ∃ (n : Nat) (c : Int), (n : Int) = a - (fpQ : Int) * c :=
  ⟨(a % (fpQ : Int)).toNat, a / (fpQ : Int), by rw [Int.toNat_of_nonneg (Int.emod_nonneg _ (by decide)), Int.emod_def]⟩

theorem dv_nat {n : Nat} (h : n % fpQ = 0) : Dv (n : Int) := Int.ofNat_dvd.2 (Nat.dvd_of_mod_eq_zero h)
theorem nat_dv {n : Nat} (h : Dv (n : Int)) : n % fpQ = 0 := Nat.mod_eq_zero_of_dvd (Int.ofNat_dvd.1 h)
theorem dv_add {a b : Int} (ha : Dv a) (hb : Dv b) : Dv (a + b) := Int.dvd_add ha hb
theorem dv_sub {a b : Int} (ha : Dv a) (hb : Dv b) : Dv (a - b) := Int.dvd_sub ha hb
theorem dv_mul {a : Int} (b : Int) (ha : Dv a) : Dv (a * b) := Int.dvd_trans ha (Int.dvd_mul_right a b)
theorem dv_q (c : Int) : Dv ((fpQ : Int) * c) := Int.dvd_mul_right _ c
theorem mod_nat {n m : Nat} (h : Dv ((n : Int) - m)) : n % fpQ = m % fpQ := by
  apply Int.ofNat.inj
  show ((n % fpQ : Nat) : Int) = ((m % fpQ : Nat) : Int)
  rw [Int.natCast_emod, Int.natCast_emod]
  exact Int.emod_eq_emod_iff_emod_sub_eq_zero.2 (Int.emod_eq_zero_of_dvd h)

theorem dv_back {a : Int} {n : Nat} {c : Int} (h : (n : Int) = a - (fpQ : Int) * c) (hn : n % fpQ = 0) : Dv a := by
  have := dv_add (dv_nat hn) (dv_q c)
  rw [h] at this
  rwa [Int.sub_add_cancel] at this

theorem alg1 (q a b c d k : Int) (h : a * a + b * b = q * k) : (a - q * c) * (a - q * c) + (b - q * d) * (b - q * d) = q * (k - 2 * a * c + q * c * c - 2 * b * d + q * d * d) := by grind
theorem alg2 (q a b c d k : Int) (h : 2 * (a * a) - b * b = q * k) : 2 * ((a - q * c) * (a - q * c)) - (b - q * d) * (b - q * d) = q * (k - 4 * a * c + 2 * q * c * c + 2 * b * d - q * d * d) := by grind
theorem alg3 (q a b c d k : Int) (h : 2 * (a * a * a) - b * b * b = q * k) : 2 * ((a - q * c) * (a - q * c) * (a - q * c)) - (b - q * d) * (b - q * d) * (b - q * d) = q * (k - 6 * a * a * c + 6 * q * a * c * c - 2 * q * q * c * c * c + 3 * b * b * d - 3 * q * b * d * d + q * q * d * d * d) := by grind

theorem dv_norm {a b : Int} (h : Dv (a * a + b * b)) : Dv a ∧ Dv b := by
  obtain ⟨n, c, hn⟩ := nat_of a
  obtain ⟨m, d, hm⟩ := nat_of b
  obtain ⟨k, hk⟩ := h
  have h1 : Dv ((n * n + m * m : Nat) : Int) := by
    rw [Int.natCast_add, Int.natCast_mul, Int.natCast_mul, hn, hm, alg1 _ _ _ c d k hk]
    exact dv_q _
  obtain ⟨h2, h3⟩ := (fp_norm0 n m).1 (nat_dv h1)
  exact ⟨dv_back hn h2, dv_back hm h3⟩

theorem dv_nonsq {a b : Int} (h : Dv (2 * (a * a) - b * b)) : Dv a := by
  obtain ⟨n, c, hn⟩ := nat_of a
  obtain ⟨m, d, hm⟩ := nat_of b
  obtain ⟨k, hk⟩ := h
  have h1 : Dv (((2 * (n * n) : Nat) : Int) - ((m * m : Nat) : Int)) := by
    rw [Int.natCast_mul, Int.natCast_mul, Int.natCast_mul, hn, hm]
    have e : ((2 : Nat) : Int) = 2 := rfl
    rw [e, alg2 _ _ _ c d k hk]
    exact dv_q _
  exact dv_back hn (fp_nonsq (mod_nat h1))

theorem dv_noncube {a b : Int} (h : Dv (2 * (a * a * a) - b * b * b)) : Dv a := by
  obtain ⟨n, c, hn⟩ := nat_of a
  obtain ⟨m, d, hm⟩ := nat_of b
  obtain ⟨k, hk⟩ := h
  have h1 : Dv (((2 * (n * n * n) : Nat) : Int) - ((m * m * m : Nat) : Int)) := by
    rw [Int.natCast_mul, Int.natCast_mul, Int.natCast_mul, Int.natCast_mul, Int.natCast_mul, hn, hm]
    have e : ((2 : Nat) : Int) = 2 := rfl
    rw [e, alg3 _ _ _ c d k hk]
    exact dv_q _
  exact dv_back hn (fp_noncube (mod_nat h1))

theorem dv_prod {a b : Int} (h : Dv (a * b)) : Dv a ∨ Dv b := by
  obtain ⟨n, c, hn⟩ := nat_of a
  obtain ⟨m, d, hm⟩ := nat_of b
  obtain ⟨k, hk⟩ := h
  have h1 : Dv ((n * m : Nat) : Int) := by
    rw [Int.natCast_mul, hn, hm]
    have : (a - (fpQ : Int) * c) * (b - (fpQ : Int) * d) = (fpQ : Int) * (k - a * d - b * c + (fpQ : Int) * c * d) := by
      generalize (fpQ : Int) = q at *
      grind
    rw [this]
    exact dv_q _
  rcases fp_prod (nat_dv h1) with h | h
  · exact .inl (dv_back hn h)
  · exact .inr (dv_back hm h)

/-- numbers of the second degree -/
structure G where
  r : Int
  i : Int
def G.mul (x y : G) : G := ⟨x.r * y.r - x.i * y.i, x.r * y.i + x.i * y.r⟩
def G.sub (x y : G) : G := ⟨x.r - y.r, x.i - y.i⟩
def G.add (x y : G) : G := ⟨x.r + y.r, x.i + y.i⟩
def G.up (x : G) : G := ⟨x.r - x.i, x.r + x.i⟩
def G.cube (x : G) : G := (x.mul x).mul x
def G.Dv (x : G) : Prop := Go.Proofs.YtdconlmpjehohaaDoor.Dv x.r ∧ Go.Proofs.YtdconlmpjehohaaDoor.Dv x.i
def G.n (x : G) : Int := x.r * x.r + x.i * x.i
def nA (A B C : G) : G := (A.mul A).sub (B.mul C).up
def nB (A B C : G) : G := (C.mul C).up.sub (A.mul B)
def nC (A B C : G) : G := (B.mul B).sub (A.mul C)
def nN (A B C : G) : G := (A.mul (nA A B C)).add ((C.mul (nB A B C)).add (B.mul (nC A B C))).up

set_option maxHeartbeats 4000000
theorem i1 (A B C : G) : (nN A B C).mul ((C.cube).up.sub B.cube) = (nB A B C).cube.sub (nC A B C).cube.up := by
  simp only [nN, nA, nB, nC, G.mul, G.sub, G.add, G.up, G.cube, G.mk.injEq]
  constructor <;> grind
theorem i2 (A B C : G) : (C.mul (nB A B C)).sub (B.mul (nC A B C)) = C.cube.up.sub B.cube := by
  simp only [nN, nA, nB, nC, G.mul, G.sub, G.add, G.up, G.cube, G.mk.injEq]
  constructor <;> grind
theorem i3 (A B C : G) : nN ((A.mul A).add ((B.mul C).add (B.mul C)).up) (((A.mul B).add (A.mul B)).add (C.mul C).up) (((A.mul C).add (A.mul C)).add (B.mul B)) = (nN A B C).mul (nN A B C) := by
  simp only [nN, nA, nB, nC, G.mul, G.sub, G.add, G.up, G.cube, G.mk.injEq]
  constructor <;> grind
theorem i4 (A B C : G) : nN C.up A B = (nN A B C).up := by
  simp only [nN, nA, nB, nC, G.mul, G.sub, G.add, G.up, G.cube, G.mk.injEq]
  constructor <;> grind
theorem n_mul (x y : G) : (x.mul y).n = x.n * y.n := by
  simp only [G.n, G.mul]
  grind
theorem n_up (x : G) : x.up.n = 2 * x.n := by
  simp only [G.n, G.up]
  grind
theorem n_sub (x y : G) : x.n - y.n = (x.sub y).r * (x.r + y.r) + (x.sub y).i * (x.i + y.i) := by
  simp only [G.n, G.sub]
  grind

theorem G.Dv.n {x : G} (h : x.Dv) : Go.Proofs.YtdconlmpjehohaaDoor.Dv x.n := dv_add (dv_mul _ h.1) (dv_mul _ h.2)
theorem G.Dv.of_n {x : G} (h : Go.Proofs.YtdconlmpjehohaaDoor.Dv x.n) : x.Dv := dv_norm h
theorem G.Dv.mul {x : G} (h : x.Dv) (y : G) : (x.mul y).Dv := ⟨dv_sub (dv_mul _ h.1) (dv_mul _ h.2), dv_add (dv_mul _ h.1) (dv_mul _ h.2)⟩
theorem G.Dv.mul' {x : G} (h : x.Dv) (y : G) : (y.mul x).Dv := by
  have e : y.mul x = x.mul y := by
    simp only [G.mul, G.mk.injEq]
    constructor <;> grind
  rw [e]; exact h.mul y
theorem G.Dv.sub {x y : G} (h : x.Dv) (h' : y.Dv) : (x.sub y).Dv := ⟨dv_sub h.1 h'.1, dv_sub h.2 h'.2⟩
theorem G.Dv.add {x y : G} (h : x.Dv) (h' : y.Dv) : (x.add y).Dv := ⟨dv_add h.1 h'.1, dv_add h.2 h'.2⟩
theorem G.Dv.up {x : G} (h : x.Dv) : x.up.Dv := ⟨dv_sub h.1 h.2, dv_add h.1 h.2⟩
theorem G.Dv.prod {x y : G} (h : (x.mul y).Dv) : x.Dv ∨ y.Dv := by
  have := h.n
  rw [n_mul] at this
  rcases dv_prod this with h | h
  · exact .inl (.of_n h)
  · exact .inr (.of_n h)
theorem G.Dv.of_cube {x : G} (h : x.cube.Dv) : x.Dv := by
  rcases G.Dv.prod h with h | h
  · rcases G.Dv.prod h with h | h <;> exact h
  · exact h
theorem G.Dv.cube {x : G} (h : x.Dv) : x.cube.Dv := (h.mul x).mul x

/-- 1 + i is no cube -/
theorem g_noncube {x y : G} (h : (x.cube.up.sub y.cube).Dv) : x.Dv := by
  refine .of_n (dv_noncube (b := y.n) ?_)
  have e : 2 * (x.n * x.n * x.n) - y.n * y.n * y.n = x.cube.up.n - y.cube.n := by
    rw [n_up]
    unfold G.cube
    rw [n_mul, n_mul, n_mul, n_mul]
  rw [e, n_sub]
  exact dv_add (dv_mul _ h.1) (dv_mul _ h.2)

/-- the cubic norm is nought just if the number is -/
theorem cub_norm {A B C : G} (h : (nN A B C).Dv) : A.Dv ∧ B.Dv ∧ C.Dv := by
  have h1 : ((nB A B C).cube.sub (nC A B C).cube.up).Dv := by
    rw [← i1]
    exact h.mul _
  have h2 : ((nC A B C).cube.up.sub (nB A B C).cube).Dv := by
    have e : (nC A B C).cube.up.sub (nB A B C).cube = G.sub ⟨0, 0⟩ ((nB A B C).cube.sub (nC A B C).cube.up) := by
      simp only [G.sub, G.mk.injEq]
      constructor <;> omega
    rw [e]
    exact G.Dv.sub ⟨Int.dvd_zero _, Int.dvd_zero _⟩ h1
  have hc := g_noncube h2
  have hb : (nB A B C).Dv := by
    refine .of_cube ?_
    have e : (nB A B C).cube = ((nB A B C).cube.sub (nC A B C).cube.up).add (nC A B C).cube.up := by
      generalize (nB A B C).cube = u
      generalize (nC A B C).cube.up = v
      cases u
      simp only [G.sub, G.add, G.mk.injEq]
      constructor <;> omega
    rw [e]
    exact h1.add hc.cube.up
  have h3 : (C.cube.up.sub B.cube).Dv := by
    rw [← i2]
    exact (hb.mul' C).sub (hc.mul' B)
  have hC := g_noncube h3
  have hB : B.Dv := by
    refine .of_cube ?_
    have e : B.cube = C.cube.up.sub (C.cube.up.sub B.cube) := by
      generalize B.cube = u
      generalize C.cube.up = v
      cases u
      simp only [G.sub, G.mk.injEq]
      constructor <;> omega
    rw [e]
    exact hC.cube.up.sub h3
  refine ⟨.of_cube ?_, hB, hC⟩
  have e : A.cube = ((nN A B C).sub ((C.mul (nB A B C)).add (B.mul (nC A B C))).up).add (A.mul (B.mul C).up) := by
    simp only [nN, nA, nB, nC, G.mul, G.sub, G.add, G.up, G.cube, G.mk.injEq]
    constructor <;> grind
  rw [e]
  exact (h.sub ((hC.mul _).add (hB.mul _)).up).add ((hB.mul C).up.mul' A)

end Go.Proofs.YtdconlmpjehohaaDoor

/- Inverses of the third and of the twelfth degree: runs over variables. Conditions: those of each theorem. -/
namespace Go.Proofs.YtdconlmpjehohaaDoor
open Go.RowKit Sx
set_option linter.unusedVariables false
set_option linter.unusedSimpArgs false

/-- sums, products of variables below n -/
def polyN (n : Nat) : E → Bool
  | .dt i => Nat.blt i n
  | .op k a b => match k with
    | 0 => match a with
      | .dt _ => true
      | _ => false
    | 1 => polyN n a && polyN n b
    | 2 => polyN n a && polyN n b
    | 3 => polyN n a && polyN n b
    | 4 => polyN n a
    | _ => false

theorem polyN_poly {n : Nat} : ∀ {e : E}, polyN n e = true → isPoly e = true
  | .dt i, h => rfl
  | .op k a b, h => by
    unfold polyN at h
    split at h
    · split at h
      · rfl
      · cases h
    · simp only [Bool.and_eq_true] at h
      show (isPoly a && isPoly b) = true
      rw [polyN_poly h.1, polyN_poly h.2]; rfl
    · simp only [Bool.and_eq_true] at h
      show (isPoly a && isPoly b) = true
      rw [polyN_poly h.1, polyN_poly h.2]; rfl
    · simp only [Bool.and_eq_true] at h
      show (isPoly a && isPoly b) = true
      rw [polyN_poly h.1, polyN_poly h.2]; rfl
    · exact polyN_poly (e := a) h
    · cases h

theorem poly_cong {R R' : Ev} {n : Nat} (hr : ∀ i, i < n → R.num i % fpQ = R'.num i % fpQ) : ∀ {e : E}, polyN n e = true → fpEv R e % fpQ = fpEv R' e % fpQ
  | .dt i, h => hr i (Nat.le_of_ble_eq_true h)
  | .op k a b, h => by
    unfold polyN at h
    split at h
    · split at h
      · rw [fpEv_lit, fpEv_lit]
      · cases h
    · simp only [Bool.and_eq_true] at h
      rw [fpEv_add, fpEv_add, Nat.add_mod, poly_cong hr h.1, poly_cong hr h.2, ← Nat.add_mod]
    · simp only [Bool.and_eq_true] at h
      rw [fpEv_mul, fpEv_mul, Nat.mul_mod, poly_cong hr h.1, poly_cong hr h.2, ← Nat.mul_mod]
    · simp only [Bool.and_eq_true] at h
      rw [fpEv_sub, fpEv_sub, poly_cong hr h.2, Nat.add_mod, poly_cong hr h.1, ← Nat.add_mod]
    · rw [fpEv_neg, fpEv_neg, poly_cong hr h]
    · cases h

/-- numbers of the second degree, as codes -/
abbrev GE := E × E
def GE.mul (x y : GE) : GE := (.op 3 (.op 2 x.1 y.1) (.op 2 x.2 y.2), .op 1 (.op 2 x.1 y.2) (.op 2 x.2 y.1))
def GE.sub (x y : GE) : GE := (.op 3 x.1 y.1, .op 3 x.2 y.2)
def GE.add (x y : GE) : GE := (.op 1 x.1 y.1, .op 1 x.2 y.2)
def GE.up (x : GE) : GE := (.op 3 x.1 x.2, .op 1 x.1 x.2)
def gv (i : Nat) : GE := (.dt i, .dt (i + 1))
def eA : GE := ((gv 0).mul (gv 0)).sub ((gv 2).mul (gv 4)).up
def eB : GE := ((gv 4).mul (gv 4)).up.sub ((gv 0).mul (gv 2))
def eC : GE := ((gv 2).mul (gv 2)).sub ((gv 0).mul (gv 4))
def eN : GE := ((gv 0).mul eA).add (((gv 4).mul eB).add ((gv 2).mul eC)).up
/-- the norm -/
def nrmE : E := .op 1 (.op 2 eN.1 eN.1) (.op 2 eN.2 eN.2)
def eZ : GE := (.op 2 eN.1 (.dt 6), .op 4 (.op 2 eN.2 (.dt 6)) (.dt 0))
/-- the inverse of the third degree; 6: the norm's inverse -/
def invTgt : List E := [(eA.mul eZ).1, (eA.mul eZ).2, (eB.mul eZ).1, (eB.mul eZ).2, (eC.mul eZ).1, (eC.mul eZ).2]

def emb3 (A B C : G) : T := ⟨A.r, A.i, B.r, B.i, C.r, C.i, 0, 0, 0, 0, 0, 0⟩
def zI (n : G) (m : Int) : G := ⟨n.r * m, 0 - n.i * m⟩
def cubI (A B C : G) (m : Int) : T := emb3 ((nA A B C).mul (zI (nN A B C) m)) ((nB A B C).mul (zI (nN A B C) m)) ((nC A B C).mul (zI (nN A B C) m))

theorem nrmE_ok (ρ : Nat → Int) : evZ ρ nrmE = (nN ⟨ρ 0, ρ 1⟩ ⟨ρ 2, ρ 3⟩ ⟨ρ 4, ρ 5⟩).n := rfl
theorem invTgt_ok (ρ : Nat → Int) : invTgt.map (evZ ρ) = (List.range 6).map (cubI ⟨ρ 0, ρ 1⟩ ⟨ρ 2, ρ 3⟩ ⟨ρ 4, ρ 5⟩ (ρ 6)).get := rfl
theorem nrmE_poly : polyN 6 nrmE = true := by decide +kernel
theorem invTgt_poly : ∀ e ∈ invTgt, polyN 7 e = true := List.all_eq_true.1 (by decide +kernel : invTgt.all (polyN 7) = true)

/-- the inverse of a norm is a variable -/
noncomputable def invNE (nt : E) (mi : Nat) : Entry := fun cs => match fp1 cs with
  | some a => match fpSameE [] a nt with
    | some true => some (.one (.dt (.agg [.el (.dt mi)])))
    | _ => none
  | none => none

theorem invNE_ok {R : Ev} (hR : R.Ok) {nt : E} {mi : Nat} (hm : R.num mi % fpQ = R.inv (fpEv R nt) % fpQ) : EntryOk (fpDenS R) FpTab 62 (invNE nt mi) := by
  refine ⟨by kernel_rfl, fun cs r hr σ w vs hv hI => ?_⟩
  unfold invNE at hr
  split at hr
  · rename_i a hc
    split at hr
    · rename_i hs
      injection hr with hr; subst hr
      rw [fp1_ok hc hv]
      have h1 := of_decide_eq_true (fpSameE_ok (R := R) (F := []) (fun x hx => by cases hx) hs)
      refine calls_el (e := .dt mi) rfl ((fp_inv_calls (fpEv R a) w hI).mono fun x w' ⟨h2, h3⟩ => ⟨?_, h3⟩)
      rw [h2]
      refine congrArg _ ?_
      have h4 : fpEv R a ^ fpI % fpQ = R.num mi % fpQ := by rw [Nat.pow_mod, h1, ← Nat.pow_mod, ← hR.inv, ← hm]
      have h5 : fpE (fpEv R a ^ fpI) = fpE (R.num mi) := by rw [← fpE_mod (fpEv R a ^ fpI), h4, fpE_mod]
      exact h5
    · cases hr
  · cases hr

/-- a run over variables that reckons tgt, with a table -/
noncomputable def polyChkT (P : Program) (l : List (Nat × Entry)) (fn : Func) (shape : List Nat) (tgt : List E) : Bool := match runFn P (fpTable headTX l) 400 fn (shIns 0 shape) with
  | some (.one (.dt (.agg xs))) => match fpEls tgt.length xs with
    | some es => match fpSameL [] es tgt with
      | some true => true
      | _ => false
    | none => false
  | _ => false

theorem poly_callsT {l : List (Nat × Entry)} {f : FuncId} {fn : Func} (hf : Tryd.prog.funcs[f]? = some fn) {shape : List Nat} {tgt : List E} (h : polyChkT Tryd.prog l fn shape tgt = true) {R : Ev} (hl : ∀ x ∈ l, EntryOk (fpDenS R) FpTab x.1 x.2) {vs : List Value} {w : World} (hI : FpTab w)
    (hv : RVsIs (fpDenS R) 0 w (shIns 0 shape) vs) : Calls Tryd.prog f vs.toArray w fun e w' => e = .returned (.agg ((tgt.map (fpEv R)).flatMap fpCells).toArray) ∧ Below w.heap.size w w' := by
  unfold polyChkT at h
  split at h
  · rename_i xs hr
    split at h
    · rename_i es hes
      split at h
      · rename_i hs
        refine (calls_run (fpRight headT_told hl) mixed hf hr hv fun w' hb => hI.below hb).mono fun e w' ⟨v, h1, h2, h3⟩ => ?_
        obtain ⟨l, h4, rfl⟩ := h3
        obtain ⟨h5, _⟩ := fpEls_ok hes h4
        subst h5
        have h6 := of_decide_eq_true (fpSameL_ok (R := R) (F := []) (fun x hx => by cases hx) hs)
        rw [cells_same h6] at h1
        exact ⟨h1, h2⟩
      · cases h
    · cases h
  · cases h

noncomputable def cubL (P : Program) : List (Nat × Entry) := (44, inlE P headTX ((62, invNE nrmE 6) :: tw1 P headTX) Tryd.f44) :: tw2 P headTX

theorem cubL_ok {R : Ev} (hR : R.Ok) (hm : R.num 6 % fpQ = R.inv (fpEv R nrmE) % fpQ) : ∀ x ∈ cubL Tryd.prog, EntryOk (fpDenS R) FpTab x.1 x.2 := by
  unfold cubL
  rw [List.forall_mem_cons]
  refine ⟨inlE_ok headT_told ?_ (by kernel_rfl) Tryd.func44, tw2_ok hR headT_told⟩
  rw [List.forall_mem_cons]
  exact ⟨invNE_ok hR hm, tw1_ok hR headT_told⟩

section
set_option maxRecDepth 100000
theorem cubInv_chk : polyChkT Tryd.prog (cubL Tryd.prog) Tryd.f21 [6] invTgt = true := by kernel_rfl
end

/-- the number's x - v y y, x its beginning, y its end -/
def normTgt : List E := [.op 1 (.op 1 (.op 1 (.op 1 (.op 1 (.op 3 (.op 2 (.dt 0) (.dt 0)) (.op 2 (.dt 1) (.dt 1))) (.op 3 (.op 3 (.op 2 (.dt 6) (.op 3 (.op 0 (.dt 0) (.dt 0)) (.dt 10))) (.op 2 (.dt 7) (.op 3 (.op 0 (.dt 0) (.dt 0)) (.dt 11)))) (.op 1 (.op 2 (.dt 6) (.op 3 (.op 0 (.dt 0) (.dt 0)) (.dt 11))) (.op 2 (.dt 7) (.op 3 (.op 0 (.dt 0) (.dt 0)) (.dt 10)))))) (.op 3 (.op 3 (.op 2 (.dt 2) (.dt 4)) (.op 2 (.dt 3) (.dt 5))) (.op 1 (.op 2 (.dt 2) (.dt 5)) (.op 2 (.dt 3) (.dt 4))))) (.op 3 (.op 3 (.op 2 (.dt 8) (.op 3 (.op 0 (.dt 0) (.dt 0)) (.dt 8))) (.op 2 (.dt 9) (.op 3 (.op 0 (.dt 0) (.dt 0)) (.dt 9)))) (.op 1 (.op 2 (.dt 8) (.op 3 (.op 0 (.dt 0) (.dt 0)) (.dt 9))) (.op 2 (.dt 9) (.op 3 (.op 0 (.dt 0) (.dt 0)) (.dt 8)))))) (.op 3 (.op 3 (.op 2 (.dt 4) (.dt 2)) (.op 2 (.dt 5) (.dt 3))) (.op 1 (.op 2 (.dt 4) (.dt 3)) (.op 2 (.dt 5) (.dt 2))))) (.op 3 (.op 3 (.op 2 (.dt 10) (.op 3 (.op 0 (.dt 0) (.dt 0)) (.dt 6))) (.op 2 (.dt 11) (.op 3 (.op 0 (.dt 0) (.dt 0)) (.dt 7)))) (.op 1 (.op 2 (.dt 10) (.op 3 (.op 0 (.dt 0) (.dt 0)) (.dt 7))) (.op 2 (.dt 11) (.op 3 (.op 0 (.dt 0) (.dt 0)) (.dt 6))))),
  .op 1 (.op 1 (.op 1 (.op 1 (.op 1 (.op 1 (.op 2 (.dt 0) (.dt 1)) (.op 2 (.dt 1) (.dt 0))) (.op 1 (.op 3 (.op 2 (.dt 6) (.op 3 (.op 0 (.dt 0) (.dt 0)) (.dt 10))) (.op 2 (.dt 7) (.op 3 (.op 0 (.dt 0) (.dt 0)) (.dt 11)))) (.op 1 (.op 2 (.dt 6) (.op 3 (.op 0 (.dt 0) (.dt 0)) (.dt 11))) (.op 2 (.dt 7) (.op 3 (.op 0 (.dt 0) (.dt 0)) (.dt 10)))))) (.op 1 (.op 3 (.op 2 (.dt 2) (.dt 4)) (.op 2 (.dt 3) (.dt 5))) (.op 1 (.op 2 (.dt 2) (.dt 5)) (.op 2 (.dt 3) (.dt 4))))) (.op 1 (.op 3 (.op 2 (.dt 8) (.op 3 (.op 0 (.dt 0) (.dt 0)) (.dt 8))) (.op 2 (.dt 9) (.op 3 (.op 0 (.dt 0) (.dt 0)) (.dt 9)))) (.op 1 (.op 2 (.dt 8) (.op 3 (.op 0 (.dt 0) (.dt 0)) (.dt 9))) (.op 2 (.dt 9) (.op 3 (.op 0 (.dt 0) (.dt 0)) (.dt 8)))))) (.op 1 (.op 3 (.op 2 (.dt 4) (.dt 2)) (.op 2 (.dt 5) (.dt 3))) (.op 1 (.op 2 (.dt 4) (.dt 3)) (.op 2 (.dt 5) (.dt 2))))) (.op 1 (.op 3 (.op 2 (.dt 10) (.op 3 (.op 0 (.dt 0) (.dt 0)) (.dt 6))) (.op 2 (.dt 11) (.op 3 (.op 0 (.dt 0) (.dt 0)) (.dt 7)))) (.op 1 (.op 2 (.dt 10) (.op 3 (.op 0 (.dt 0) (.dt 0)) (.dt 7))) (.op 2 (.dt 11) (.op 3 (.op 0 (.dt 0) (.dt 0)) (.dt 6))))),
  .op 1 (.op 1 (.op 1 (.op 1 (.op 1 (.op 3 (.op 2 (.dt 0) (.dt 2)) (.op 2 (.dt 1) (.dt 3))) (.op 3 (.op 2 (.dt 6) (.op 3 (.op 0 (.dt 0) (.dt 0)) (.dt 6))) (.op 2 (.dt 7) (.op 3 (.op 0 (.dt 0) (.dt 0)) (.dt 7))))) (.op 3 (.op 2 (.dt 2) (.dt 0)) (.op 2 (.dt 3) (.dt 1)))) (.op 3 (.op 3 (.op 2 (.dt 8) (.op 3 (.op 0 (.dt 0) (.dt 0)) (.dt 10))) (.op 2 (.dt 9) (.op 3 (.op 0 (.dt 0) (.dt 0)) (.dt 11)))) (.op 1 (.op 2 (.dt 8) (.op 3 (.op 0 (.dt 0) (.dt 0)) (.dt 11))) (.op 2 (.dt 9) (.op 3 (.op 0 (.dt 0) (.dt 0)) (.dt 10)))))) (.op 3 (.op 3 (.op 2 (.dt 4) (.dt 4)) (.op 2 (.dt 5) (.dt 5))) (.op 1 (.op 2 (.dt 4) (.dt 5)) (.op 2 (.dt 5) (.dt 4))))) (.op 3 (.op 3 (.op 2 (.dt 10) (.op 3 (.op 0 (.dt 0) (.dt 0)) (.dt 8))) (.op 2 (.dt 11) (.op 3 (.op 0 (.dt 0) (.dt 0)) (.dt 9)))) (.op 1 (.op 2 (.dt 10) (.op 3 (.op 0 (.dt 0) (.dt 0)) (.dt 9))) (.op 2 (.dt 11) (.op 3 (.op 0 (.dt 0) (.dt 0)) (.dt 8))))),
  .op 1 (.op 1 (.op 1 (.op 1 (.op 1 (.op 1 (.op 2 (.dt 0) (.dt 3)) (.op 2 (.dt 1) (.dt 2))) (.op 1 (.op 2 (.dt 6) (.op 3 (.op 0 (.dt 0) (.dt 0)) (.dt 7))) (.op 2 (.dt 7) (.op 3 (.op 0 (.dt 0) (.dt 0)) (.dt 6))))) (.op 1 (.op 2 (.dt 2) (.dt 1)) (.op 2 (.dt 3) (.dt 0)))) (.op 1 (.op 3 (.op 2 (.dt 8) (.op 3 (.op 0 (.dt 0) (.dt 0)) (.dt 10))) (.op 2 (.dt 9) (.op 3 (.op 0 (.dt 0) (.dt 0)) (.dt 11)))) (.op 1 (.op 2 (.dt 8) (.op 3 (.op 0 (.dt 0) (.dt 0)) (.dt 11))) (.op 2 (.dt 9) (.op 3 (.op 0 (.dt 0) (.dt 0)) (.dt 10)))))) (.op 1 (.op 3 (.op 2 (.dt 4) (.dt 4)) (.op 2 (.dt 5) (.dt 5))) (.op 1 (.op 2 (.dt 4) (.dt 5)) (.op 2 (.dt 5) (.dt 4))))) (.op 1 (.op 3 (.op 2 (.dt 10) (.op 3 (.op 0 (.dt 0) (.dt 0)) (.dt 8))) (.op 2 (.dt 11) (.op 3 (.op 0 (.dt 0) (.dt 0)) (.dt 9)))) (.op 1 (.op 2 (.dt 10) (.op 3 (.op 0 (.dt 0) (.dt 0)) (.dt 9))) (.op 2 (.dt 11) (.op 3 (.op 0 (.dt 0) (.dt 0)) (.dt 8))))),
  .op 1 (.op 1 (.op 1 (.op 1 (.op 1 (.op 3 (.op 2 (.dt 0) (.dt 4)) (.op 2 (.dt 1) (.dt 5))) (.op 3 (.op 2 (.dt 6) (.op 3 (.op 0 (.dt 0) (.dt 0)) (.dt 8))) (.op 2 (.dt 7) (.op 3 (.op 0 (.dt 0) (.dt 0)) (.dt 9))))) (.op 3 (.op 2 (.dt 2) (.dt 2)) (.op 2 (.dt 3) (.dt 3)))) (.op 3 (.op 2 (.dt 8) (.op 3 (.op 0 (.dt 0) (.dt 0)) (.dt 6))) (.op 2 (.dt 9) (.op 3 (.op 0 (.dt 0) (.dt 0)) (.dt 7))))) (.op 3 (.op 2 (.dt 4) (.dt 0)) (.op 2 (.dt 5) (.dt 1)))) (.op 3 (.op 3 (.op 2 (.dt 10) (.op 3 (.op 0 (.dt 0) (.dt 0)) (.dt 10))) (.op 2 (.dt 11) (.op 3 (.op 0 (.dt 0) (.dt 0)) (.dt 11)))) (.op 1 (.op 2 (.dt 10) (.op 3 (.op 0 (.dt 0) (.dt 0)) (.dt 11))) (.op 2 (.dt 11) (.op 3 (.op 0 (.dt 0) (.dt 0)) (.dt 10))))),
  .op 1 (.op 1 (.op 1 (.op 1 (.op 1 (.op 1 (.op 2 (.dt 0) (.dt 5)) (.op 2 (.dt 1) (.dt 4))) (.op 1 (.op 2 (.dt 6) (.op 3 (.op 0 (.dt 0) (.dt 0)) (.dt 9))) (.op 2 (.dt 7) (.op 3 (.op 0 (.dt 0) (.dt 0)) (.dt 8))))) (.op 1 (.op 2 (.dt 2) (.dt 3)) (.op 2 (.dt 3) (.dt 2)))) (.op 1 (.op 2 (.dt 8) (.op 3 (.op 0 (.dt 0) (.dt 0)) (.dt 7))) (.op 2 (.dt 9) (.op 3 (.op 0 (.dt 0) (.dt 0)) (.dt 6))))) (.op 1 (.op 2 (.dt 4) (.dt 1)) (.op 2 (.dt 5) (.dt 0)))) (.op 1 (.op 3 (.op 2 (.dt 10) (.op 3 (.op 0 (.dt 0) (.dt 0)) (.dt 10))) (.op 2 (.dt 11) (.op 3 (.op 0 (.dt 0) (.dt 0)) (.dt 11)))) (.op 1 (.op 2 (.dt 10) (.op 3 (.op 0 (.dt 0) (.dt 0)) (.dt 11))) (.op 2 (.dt 11) (.op 3 (.op 0 (.dt 0) (.dt 0)) (.dt 10)))))]
/-- the inverse of the twelfth degree; 12 to 17: that of the third -/
def elInvTgt : List E := [.op 1 (.op 1 (.op 1 (.op 1 (.op 1 (.op 3 (.op 2 (.dt 0) (.dt 12)) (.op 2 (.dt 1) (.dt 13))) (.op 3 (.op 3 (.op 2 (.op 3 (.op 0 (.dt 0) (.dt 0)) (.dt 6)) (.op 0 (.dt 0) (.dt 0))) (.op 2 (.op 3 (.op 0 (.dt 0) (.dt 0)) (.dt 7)) (.op 0 (.dt 0) (.dt 0)))) (.op 1 (.op 2 (.op 3 (.op 0 (.dt 0) (.dt 0)) (.dt 6)) (.op 0 (.dt 0) (.dt 0))) (.op 2 (.op 3 (.op 0 (.dt 0) (.dt 0)) (.dt 7)) (.op 0 (.dt 0) (.dt 0)))))) (.op 3 (.op 3 (.op 2 (.dt 2) (.dt 16)) (.op 2 (.dt 3) (.dt 17))) (.op 1 (.op 2 (.dt 2) (.dt 17)) (.op 2 (.dt 3) (.dt 16))))) (.op 3 (.op 3 (.op 2 (.op 3 (.op 0 (.dt 0) (.dt 0)) (.dt 8)) (.op 0 (.dt 0) (.dt 0))) (.op 2 (.op 3 (.op 0 (.dt 0) (.dt 0)) (.dt 9)) (.op 0 (.dt 0) (.dt 0)))) (.op 1 (.op 2 (.op 3 (.op 0 (.dt 0) (.dt 0)) (.dt 8)) (.op 0 (.dt 0) (.dt 0))) (.op 2 (.op 3 (.op 0 (.dt 0) (.dt 0)) (.dt 9)) (.op 0 (.dt 0) (.dt 0)))))) (.op 3 (.op 3 (.op 2 (.dt 4) (.dt 14)) (.op 2 (.dt 5) (.dt 15))) (.op 1 (.op 2 (.dt 4) (.dt 15)) (.op 2 (.dt 5) (.dt 14))))) (.op 3 (.op 3 (.op 2 (.op 3 (.op 0 (.dt 0) (.dt 0)) (.dt 10)) (.op 0 (.dt 0) (.dt 0))) (.op 2 (.op 3 (.op 0 (.dt 0) (.dt 0)) (.dt 11)) (.op 0 (.dt 0) (.dt 0)))) (.op 1 (.op 2 (.op 3 (.op 0 (.dt 0) (.dt 0)) (.dt 10)) (.op 0 (.dt 0) (.dt 0))) (.op 2 (.op 3 (.op 0 (.dt 0) (.dt 0)) (.dt 11)) (.op 0 (.dt 0) (.dt 0))))),
  .op 1 (.op 1 (.op 1 (.op 1 (.op 1 (.op 1 (.op 2 (.dt 0) (.dt 13)) (.op 2 (.dt 1) (.dt 12))) (.op 1 (.op 3 (.op 2 (.op 3 (.op 0 (.dt 0) (.dt 0)) (.dt 6)) (.op 0 (.dt 0) (.dt 0))) (.op 2 (.op 3 (.op 0 (.dt 0) (.dt 0)) (.dt 7)) (.op 0 (.dt 0) (.dt 0)))) (.op 1 (.op 2 (.op 3 (.op 0 (.dt 0) (.dt 0)) (.dt 6)) (.op 0 (.dt 0) (.dt 0))) (.op 2 (.op 3 (.op 0 (.dt 0) (.dt 0)) (.dt 7)) (.op 0 (.dt 0) (.dt 0)))))) (.op 1 (.op 3 (.op 2 (.dt 2) (.dt 16)) (.op 2 (.dt 3) (.dt 17))) (.op 1 (.op 2 (.dt 2) (.dt 17)) (.op 2 (.dt 3) (.dt 16))))) (.op 1 (.op 3 (.op 2 (.op 3 (.op 0 (.dt 0) (.dt 0)) (.dt 8)) (.op 0 (.dt 0) (.dt 0))) (.op 2 (.op 3 (.op 0 (.dt 0) (.dt 0)) (.dt 9)) (.op 0 (.dt 0) (.dt 0)))) (.op 1 (.op 2 (.op 3 (.op 0 (.dt 0) (.dt 0)) (.dt 8)) (.op 0 (.dt 0) (.dt 0))) (.op 2 (.op 3 (.op 0 (.dt 0) (.dt 0)) (.dt 9)) (.op 0 (.dt 0) (.dt 0)))))) (.op 1 (.op 3 (.op 2 (.dt 4) (.dt 14)) (.op 2 (.dt 5) (.dt 15))) (.op 1 (.op 2 (.dt 4) (.dt 15)) (.op 2 (.dt 5) (.dt 14))))) (.op 1 (.op 3 (.op 2 (.op 3 (.op 0 (.dt 0) (.dt 0)) (.dt 10)) (.op 0 (.dt 0) (.dt 0))) (.op 2 (.op 3 (.op 0 (.dt 0) (.dt 0)) (.dt 11)) (.op 0 (.dt 0) (.dt 0)))) (.op 1 (.op 2 (.op 3 (.op 0 (.dt 0) (.dt 0)) (.dt 10)) (.op 0 (.dt 0) (.dt 0))) (.op 2 (.op 3 (.op 0 (.dt 0) (.dt 0)) (.dt 11)) (.op 0 (.dt 0) (.dt 0))))),
  .op 1 (.op 1 (.op 1 (.op 1 (.op 1 (.op 3 (.op 2 (.dt 0) (.dt 14)) (.op 2 (.dt 1) (.dt 15))) (.op 3 (.op 2 (.op 3 (.op 0 (.dt 0) (.dt 0)) (.dt 6)) (.op 0 (.dt 0) (.dt 0))) (.op 2 (.op 3 (.op 0 (.dt 0) (.dt 0)) (.dt 7)) (.op 0 (.dt 0) (.dt 0))))) (.op 3 (.op 2 (.dt 2) (.dt 12)) (.op 2 (.dt 3) (.dt 13)))) (.op 3 (.op 3 (.op 2 (.op 3 (.op 0 (.dt 0) (.dt 0)) (.dt 8)) (.op 0 (.dt 0) (.dt 0))) (.op 2 (.op 3 (.op 0 (.dt 0) (.dt 0)) (.dt 9)) (.op 0 (.dt 0) (.dt 0)))) (.op 1 (.op 2 (.op 3 (.op 0 (.dt 0) (.dt 0)) (.dt 8)) (.op 0 (.dt 0) (.dt 0))) (.op 2 (.op 3 (.op 0 (.dt 0) (.dt 0)) (.dt 9)) (.op 0 (.dt 0) (.dt 0)))))) (.op 3 (.op 3 (.op 2 (.dt 4) (.dt 16)) (.op 2 (.dt 5) (.dt 17))) (.op 1 (.op 2 (.dt 4) (.dt 17)) (.op 2 (.dt 5) (.dt 16))))) (.op 3 (.op 3 (.op 2 (.op 3 (.op 0 (.dt 0) (.dt 0)) (.dt 10)) (.op 0 (.dt 0) (.dt 0))) (.op 2 (.op 3 (.op 0 (.dt 0) (.dt 0)) (.dt 11)) (.op 0 (.dt 0) (.dt 0)))) (.op 1 (.op 2 (.op 3 (.op 0 (.dt 0) (.dt 0)) (.dt 10)) (.op 0 (.dt 0) (.dt 0))) (.op 2 (.op 3 (.op 0 (.dt 0) (.dt 0)) (.dt 11)) (.op 0 (.dt 0) (.dt 0))))),
  .op 1 (.op 1 (.op 1 (.op 1 (.op 1 (.op 1 (.op 2 (.dt 0) (.dt 15)) (.op 2 (.dt 1) (.dt 14))) (.op 1 (.op 2 (.op 3 (.op 0 (.dt 0) (.dt 0)) (.dt 6)) (.op 0 (.dt 0) (.dt 0))) (.op 2 (.op 3 (.op 0 (.dt 0) (.dt 0)) (.dt 7)) (.op 0 (.dt 0) (.dt 0))))) (.op 1 (.op 2 (.dt 2) (.dt 13)) (.op 2 (.dt 3) (.dt 12)))) (.op 1 (.op 3 (.op 2 (.op 3 (.op 0 (.dt 0) (.dt 0)) (.dt 8)) (.op 0 (.dt 0) (.dt 0))) (.op 2 (.op 3 (.op 0 (.dt 0) (.dt 0)) (.dt 9)) (.op 0 (.dt 0) (.dt 0)))) (.op 1 (.op 2 (.op 3 (.op 0 (.dt 0) (.dt 0)) (.dt 8)) (.op 0 (.dt 0) (.dt 0))) (.op 2 (.op 3 (.op 0 (.dt 0) (.dt 0)) (.dt 9)) (.op 0 (.dt 0) (.dt 0)))))) (.op 1 (.op 3 (.op 2 (.dt 4) (.dt 16)) (.op 2 (.dt 5) (.dt 17))) (.op 1 (.op 2 (.dt 4) (.dt 17)) (.op 2 (.dt 5) (.dt 16))))) (.op 1 (.op 3 (.op 2 (.op 3 (.op 0 (.dt 0) (.dt 0)) (.dt 10)) (.op 0 (.dt 0) (.dt 0))) (.op 2 (.op 3 (.op 0 (.dt 0) (.dt 0)) (.dt 11)) (.op 0 (.dt 0) (.dt 0)))) (.op 1 (.op 2 (.op 3 (.op 0 (.dt 0) (.dt 0)) (.dt 10)) (.op 0 (.dt 0) (.dt 0))) (.op 2 (.op 3 (.op 0 (.dt 0) (.dt 0)) (.dt 11)) (.op 0 (.dt 0) (.dt 0))))),
  .op 1 (.op 1 (.op 1 (.op 1 (.op 1 (.op 3 (.op 2 (.dt 0) (.dt 16)) (.op 2 (.dt 1) (.dt 17))) (.op 3 (.op 2 (.op 3 (.op 0 (.dt 0) (.dt 0)) (.dt 6)) (.op 0 (.dt 0) (.dt 0))) (.op 2 (.op 3 (.op 0 (.dt 0) (.dt 0)) (.dt 7)) (.op 0 (.dt 0) (.dt 0))))) (.op 3 (.op 2 (.dt 2) (.dt 14)) (.op 2 (.dt 3) (.dt 15)))) (.op 3 (.op 2 (.op 3 (.op 0 (.dt 0) (.dt 0)) (.dt 8)) (.op 0 (.dt 0) (.dt 0))) (.op 2 (.op 3 (.op 0 (.dt 0) (.dt 0)) (.dt 9)) (.op 0 (.dt 0) (.dt 0))))) (.op 3 (.op 2 (.dt 4) (.dt 12)) (.op 2 (.dt 5) (.dt 13)))) (.op 3 (.op 3 (.op 2 (.op 3 (.op 0 (.dt 0) (.dt 0)) (.dt 10)) (.op 0 (.dt 0) (.dt 0))) (.op 2 (.op 3 (.op 0 (.dt 0) (.dt 0)) (.dt 11)) (.op 0 (.dt 0) (.dt 0)))) (.op 1 (.op 2 (.op 3 (.op 0 (.dt 0) (.dt 0)) (.dt 10)) (.op 0 (.dt 0) (.dt 0))) (.op 2 (.op 3 (.op 0 (.dt 0) (.dt 0)) (.dt 11)) (.op 0 (.dt 0) (.dt 0))))),
  .op 1 (.op 1 (.op 1 (.op 1 (.op 1 (.op 1 (.op 2 (.dt 0) (.dt 17)) (.op 2 (.dt 1) (.dt 16))) (.op 1 (.op 2 (.op 3 (.op 0 (.dt 0) (.dt 0)) (.dt 6)) (.op 0 (.dt 0) (.dt 0))) (.op 2 (.op 3 (.op 0 (.dt 0) (.dt 0)) (.dt 7)) (.op 0 (.dt 0) (.dt 0))))) (.op 1 (.op 2 (.dt 2) (.dt 15)) (.op 2 (.dt 3) (.dt 14)))) (.op 1 (.op 2 (.op 3 (.op 0 (.dt 0) (.dt 0)) (.dt 8)) (.op 0 (.dt 0) (.dt 0))) (.op 2 (.op 3 (.op 0 (.dt 0) (.dt 0)) (.dt 9)) (.op 0 (.dt 0) (.dt 0))))) (.op 1 (.op 2 (.dt 4) (.dt 13)) (.op 2 (.dt 5) (.dt 12)))) (.op 1 (.op 3 (.op 2 (.op 3 (.op 0 (.dt 0) (.dt 0)) (.dt 10)) (.op 0 (.dt 0) (.dt 0))) (.op 2 (.op 3 (.op 0 (.dt 0) (.dt 0)) (.dt 11)) (.op 0 (.dt 0) (.dt 0)))) (.op 1 (.op 2 (.op 3 (.op 0 (.dt 0) (.dt 0)) (.dt 10)) (.op 0 (.dt 0) (.dt 0))) (.op 2 (.op 3 (.op 0 (.dt 0) (.dt 0)) (.dt 11)) (.op 0 (.dt 0) (.dt 0))))),
  .op 1 (.op 1 (.op 1 (.op 1 (.op 1 (.op 3 (.op 2 (.dt 0) (.op 0 (.dt 0) (.dt 0))) (.op 2 (.dt 1) (.op 0 (.dt 0) (.dt 0)))) (.op 3 (.op 2 (.op 3 (.op 0 (.dt 0) (.dt 0)) (.dt 6)) (.dt 12)) (.op 2 (.op 3 (.op 0 (.dt 0) (.dt 0)) (.dt 7)) (.dt 13)))) (.op 3 (.op 3 (.op 2 (.dt 2) (.op 0 (.dt 0) (.dt 0))) (.op 2 (.dt 3) (.op 0 (.dt 0) (.dt 0)))) (.op 1 (.op 2 (.dt 2) (.op 0 (.dt 0) (.dt 0))) (.op 2 (.dt 3) (.op 0 (.dt 0) (.dt 0)))))) (.op 3 (.op 3 (.op 2 (.op 3 (.op 0 (.dt 0) (.dt 0)) (.dt 8)) (.dt 16)) (.op 2 (.op 3 (.op 0 (.dt 0) (.dt 0)) (.dt 9)) (.dt 17))) (.op 1 (.op 2 (.op 3 (.op 0 (.dt 0) (.dt 0)) (.dt 8)) (.dt 17)) (.op 2 (.op 3 (.op 0 (.dt 0) (.dt 0)) (.dt 9)) (.dt 16))))) (.op 3 (.op 3 (.op 2 (.dt 4) (.op 0 (.dt 0) (.dt 0))) (.op 2 (.dt 5) (.op 0 (.dt 0) (.dt 0)))) (.op 1 (.op 2 (.dt 4) (.op 0 (.dt 0) (.dt 0))) (.op 2 (.dt 5) (.op 0 (.dt 0) (.dt 0)))))) (.op 3 (.op 3 (.op 2 (.op 3 (.op 0 (.dt 0) (.dt 0)) (.dt 10)) (.dt 14)) (.op 2 (.op 3 (.op 0 (.dt 0) (.dt 0)) (.dt 11)) (.dt 15))) (.op 1 (.op 2 (.op 3 (.op 0 (.dt 0) (.dt 0)) (.dt 10)) (.dt 15)) (.op 2 (.op 3 (.op 0 (.dt 0) (.dt 0)) (.dt 11)) (.dt 14)))),
  .op 1 (.op 1 (.op 1 (.op 1 (.op 1 (.op 1 (.op 2 (.dt 0) (.op 0 (.dt 0) (.dt 0))) (.op 2 (.dt 1) (.op 0 (.dt 0) (.dt 0)))) (.op 1 (.op 2 (.op 3 (.op 0 (.dt 0) (.dt 0)) (.dt 6)) (.dt 13)) (.op 2 (.op 3 (.op 0 (.dt 0) (.dt 0)) (.dt 7)) (.dt 12)))) (.op 1 (.op 3 (.op 2 (.dt 2) (.op 0 (.dt 0) (.dt 0))) (.op 2 (.dt 3) (.op 0 (.dt 0) (.dt 0)))) (.op 1 (.op 2 (.dt 2) (.op 0 (.dt 0) (.dt 0))) (.op 2 (.dt 3) (.op 0 (.dt 0) (.dt 0)))))) (.op 1 (.op 3 (.op 2 (.op 3 (.op 0 (.dt 0) (.dt 0)) (.dt 8)) (.dt 16)) (.op 2 (.op 3 (.op 0 (.dt 0) (.dt 0)) (.dt 9)) (.dt 17))) (.op 1 (.op 2 (.op 3 (.op 0 (.dt 0) (.dt 0)) (.dt 8)) (.dt 17)) (.op 2 (.op 3 (.op 0 (.dt 0) (.dt 0)) (.dt 9)) (.dt 16))))) (.op 1 (.op 3 (.op 2 (.dt 4) (.op 0 (.dt 0) (.dt 0))) (.op 2 (.dt 5) (.op 0 (.dt 0) (.dt 0)))) (.op 1 (.op 2 (.dt 4) (.op 0 (.dt 0) (.dt 0))) (.op 2 (.dt 5) (.op 0 (.dt 0) (.dt 0)))))) (.op 1 (.op 3 (.op 2 (.op 3 (.op 0 (.dt 0) (.dt 0)) (.dt 10)) (.dt 14)) (.op 2 (.op 3 (.op 0 (.dt 0) (.dt 0)) (.dt 11)) (.dt 15))) (.op 1 (.op 2 (.op 3 (.op 0 (.dt 0) (.dt 0)) (.dt 10)) (.dt 15)) (.op 2 (.op 3 (.op 0 (.dt 0) (.dt 0)) (.dt 11)) (.dt 14)))),
  .op 1 (.op 1 (.op 1 (.op 1 (.op 1 (.op 3 (.op 2 (.dt 0) (.op 0 (.dt 0) (.dt 0))) (.op 2 (.dt 1) (.op 0 (.dt 0) (.dt 0)))) (.op 3 (.op 2 (.op 3 (.op 0 (.dt 0) (.dt 0)) (.dt 6)) (.dt 14)) (.op 2 (.op 3 (.op 0 (.dt 0) (.dt 0)) (.dt 7)) (.dt 15)))) (.op 3 (.op 2 (.dt 2) (.op 0 (.dt 0) (.dt 0))) (.op 2 (.dt 3) (.op 0 (.dt 0) (.dt 0))))) (.op 3 (.op 2 (.op 3 (.op 0 (.dt 0) (.dt 0)) (.dt 8)) (.dt 12)) (.op 2 (.op 3 (.op 0 (.dt 0) (.dt 0)) (.dt 9)) (.dt 13)))) (.op 3 (.op 3 (.op 2 (.dt 4) (.op 0 (.dt 0) (.dt 0))) (.op 2 (.dt 5) (.op 0 (.dt 0) (.dt 0)))) (.op 1 (.op 2 (.dt 4) (.op 0 (.dt 0) (.dt 0))) (.op 2 (.dt 5) (.op 0 (.dt 0) (.dt 0)))))) (.op 3 (.op 3 (.op 2 (.op 3 (.op 0 (.dt 0) (.dt 0)) (.dt 10)) (.dt 16)) (.op 2 (.op 3 (.op 0 (.dt 0) (.dt 0)) (.dt 11)) (.dt 17))) (.op 1 (.op 2 (.op 3 (.op 0 (.dt 0) (.dt 0)) (.dt 10)) (.dt 17)) (.op 2 (.op 3 (.op 0 (.dt 0) (.dt 0)) (.dt 11)) (.dt 16)))),
  .op 1 (.op 1 (.op 1 (.op 1 (.op 1 (.op 1 (.op 2 (.dt 0) (.op 0 (.dt 0) (.dt 0))) (.op 2 (.dt 1) (.op 0 (.dt 0) (.dt 0)))) (.op 1 (.op 2 (.op 3 (.op 0 (.dt 0) (.dt 0)) (.dt 6)) (.dt 15)) (.op 2 (.op 3 (.op 0 (.dt 0) (.dt 0)) (.dt 7)) (.dt 14)))) (.op 1 (.op 2 (.dt 2) (.op 0 (.dt 0) (.dt 0))) (.op 2 (.dt 3) (.op 0 (.dt 0) (.dt 0))))) (.op 1 (.op 2 (.op 3 (.op 0 (.dt 0) (.dt 0)) (.dt 8)) (.dt 13)) (.op 2 (.op 3 (.op 0 (.dt 0) (.dt 0)) (.dt 9)) (.dt 12)))) (.op 1 (.op 3 (.op 2 (.dt 4) (.op 0 (.dt 0) (.dt 0))) (.op 2 (.dt 5) (.op 0 (.dt 0) (.dt 0)))) (.op 1 (.op 2 (.dt 4) (.op 0 (.dt 0) (.dt 0))) (.op 2 (.dt 5) (.op 0 (.dt 0) (.dt 0)))))) (.op 1 (.op 3 (.op 2 (.op 3 (.op 0 (.dt 0) (.dt 0)) (.dt 10)) (.dt 16)) (.op 2 (.op 3 (.op 0 (.dt 0) (.dt 0)) (.dt 11)) (.dt 17))) (.op 1 (.op 2 (.op 3 (.op 0 (.dt 0) (.dt 0)) (.dt 10)) (.dt 17)) (.op 2 (.op 3 (.op 0 (.dt 0) (.dt 0)) (.dt 11)) (.dt 16)))),
  .op 1 (.op 1 (.op 1 (.op 1 (.op 1 (.op 3 (.op 2 (.dt 0) (.op 0 (.dt 0) (.dt 0))) (.op 2 (.dt 1) (.op 0 (.dt 0) (.dt 0)))) (.op 3 (.op 2 (.op 3 (.op 0 (.dt 0) (.dt 0)) (.dt 6)) (.dt 16)) (.op 2 (.op 3 (.op 0 (.dt 0) (.dt 0)) (.dt 7)) (.dt 17)))) (.op 3 (.op 2 (.dt 2) (.op 0 (.dt 0) (.dt 0))) (.op 2 (.dt 3) (.op 0 (.dt 0) (.dt 0))))) (.op 3 (.op 2 (.op 3 (.op 0 (.dt 0) (.dt 0)) (.dt 8)) (.dt 14)) (.op 2 (.op 3 (.op 0 (.dt 0) (.dt 0)) (.dt 9)) (.dt 15)))) (.op 3 (.op 2 (.dt 4) (.op 0 (.dt 0) (.dt 0))) (.op 2 (.dt 5) (.op 0 (.dt 0) (.dt 0))))) (.op 3 (.op 2 (.op 3 (.op 0 (.dt 0) (.dt 0)) (.dt 10)) (.dt 12)) (.op 2 (.op 3 (.op 0 (.dt 0) (.dt 0)) (.dt 11)) (.dt 13))),
  .op 1 (.op 1 (.op 1 (.op 1 (.op 1 (.op 1 (.op 2 (.dt 0) (.op 0 (.dt 0) (.dt 0))) (.op 2 (.dt 1) (.op 0 (.dt 0) (.dt 0)))) (.op 1 (.op 2 (.op 3 (.op 0 (.dt 0) (.dt 0)) (.dt 6)) (.dt 17)) (.op 2 (.op 3 (.op 0 (.dt 0) (.dt 0)) (.dt 7)) (.dt 16)))) (.op 1 (.op 2 (.dt 2) (.op 0 (.dt 0) (.dt 0))) (.op 2 (.dt 3) (.op 0 (.dt 0) (.dt 0))))) (.op 1 (.op 2 (.op 3 (.op 0 (.dt 0) (.dt 0)) (.dt 8)) (.dt 15)) (.op 2 (.op 3 (.op 0 (.dt 0) (.dt 0)) (.dt 9)) (.dt 14)))) (.op 1 (.op 2 (.dt 4) (.op 0 (.dt 0) (.dt 0))) (.op 2 (.dt 5) (.op 0 (.dt 0) (.dt 0))))) (.op 1 (.op 2 (.op 3 (.op 0 (.dt 0) (.dt 0)) (.dt 10)) (.dt 13)) (.op 2 (.op 3 (.op 0 (.dt 0) (.dt 0)) (.dt 11)) (.dt 12)))]
/-- products of the third degree -/
def cubTgt : List E := [.op 1 (.op 1 (.op 1 (.op 1 (.op 1 (.op 3 (.op 2 (.dt 0) (.dt 6)) (.op 2 (.dt 1) (.dt 7))) (.op 3 (.op 3 (.op 2 (.op 0 (.dt 0) (.dt 0)) (.op 0 (.dt 0) (.dt 0))) (.op 2 (.op 0 (.dt 0) (.dt 0)) (.op 0 (.dt 0) (.dt 0)))) (.op 1 (.op 2 (.op 0 (.dt 0) (.dt 0)) (.op 0 (.dt 0) (.dt 0))) (.op 2 (.op 0 (.dt 0) (.dt 0)) (.op 0 (.dt 0) (.dt 0)))))) (.op 3 (.op 3 (.op 2 (.dt 2) (.dt 10)) (.op 2 (.dt 3) (.dt 11))) (.op 1 (.op 2 (.dt 2) (.dt 11)) (.op 2 (.dt 3) (.dt 10))))) (.op 3 (.op 3 (.op 2 (.op 0 (.dt 0) (.dt 0)) (.op 0 (.dt 0) (.dt 0))) (.op 2 (.op 0 (.dt 0) (.dt 0)) (.op 0 (.dt 0) (.dt 0)))) (.op 1 (.op 2 (.op 0 (.dt 0) (.dt 0)) (.op 0 (.dt 0) (.dt 0))) (.op 2 (.op 0 (.dt 0) (.dt 0)) (.op 0 (.dt 0) (.dt 0)))))) (.op 3 (.op 3 (.op 2 (.dt 4) (.dt 8)) (.op 2 (.dt 5) (.dt 9))) (.op 1 (.op 2 (.dt 4) (.dt 9)) (.op 2 (.dt 5) (.dt 8))))) (.op 3 (.op 3 (.op 2 (.op 0 (.dt 0) (.dt 0)) (.op 0 (.dt 0) (.dt 0))) (.op 2 (.op 0 (.dt 0) (.dt 0)) (.op 0 (.dt 0) (.dt 0)))) (.op 1 (.op 2 (.op 0 (.dt 0) (.dt 0)) (.op 0 (.dt 0) (.dt 0))) (.op 2 (.op 0 (.dt 0) (.dt 0)) (.op 0 (.dt 0) (.dt 0))))),
  .op 1 (.op 1 (.op 1 (.op 1 (.op 1 (.op 1 (.op 2 (.dt 0) (.dt 7)) (.op 2 (.dt 1) (.dt 6))) (.op 1 (.op 3 (.op 2 (.op 0 (.dt 0) (.dt 0)) (.op 0 (.dt 0) (.dt 0))) (.op 2 (.op 0 (.dt 0) (.dt 0)) (.op 0 (.dt 0) (.dt 0)))) (.op 1 (.op 2 (.op 0 (.dt 0) (.dt 0)) (.op 0 (.dt 0) (.dt 0))) (.op 2 (.op 0 (.dt 0) (.dt 0)) (.op 0 (.dt 0) (.dt 0)))))) (.op 1 (.op 3 (.op 2 (.dt 2) (.dt 10)) (.op 2 (.dt 3) (.dt 11))) (.op 1 (.op 2 (.dt 2) (.dt 11)) (.op 2 (.dt 3) (.dt 10))))) (.op 1 (.op 3 (.op 2 (.op 0 (.dt 0) (.dt 0)) (.op 0 (.dt 0) (.dt 0))) (.op 2 (.op 0 (.dt 0) (.dt 0)) (.op 0 (.dt 0) (.dt 0)))) (.op 1 (.op 2 (.op 0 (.dt 0) (.dt 0)) (.op 0 (.dt 0) (.dt 0))) (.op 2 (.op 0 (.dt 0) (.dt 0)) (.op 0 (.dt 0) (.dt 0)))))) (.op 1 (.op 3 (.op 2 (.dt 4) (.dt 8)) (.op 2 (.dt 5) (.dt 9))) (.op 1 (.op 2 (.dt 4) (.dt 9)) (.op 2 (.dt 5) (.dt 8))))) (.op 1 (.op 3 (.op 2 (.op 0 (.dt 0) (.dt 0)) (.op 0 (.dt 0) (.dt 0))) (.op 2 (.op 0 (.dt 0) (.dt 0)) (.op 0 (.dt 0) (.dt 0)))) (.op 1 (.op 2 (.op 0 (.dt 0) (.dt 0)) (.op 0 (.dt 0) (.dt 0))) (.op 2 (.op 0 (.dt 0) (.dt 0)) (.op 0 (.dt 0) (.dt 0))))),
  .op 1 (.op 1 (.op 1 (.op 1 (.op 1 (.op 3 (.op 2 (.dt 0) (.dt 8)) (.op 2 (.dt 1) (.dt 9))) (.op 3 (.op 2 (.op 0 (.dt 0) (.dt 0)) (.op 0 (.dt 0) (.dt 0))) (.op 2 (.op 0 (.dt 0) (.dt 0)) (.op 0 (.dt 0) (.dt 0))))) (.op 3 (.op 2 (.dt 2) (.dt 6)) (.op 2 (.dt 3) (.dt 7)))) (.op 3 (.op 3 (.op 2 (.op 0 (.dt 0) (.dt 0)) (.op 0 (.dt 0) (.dt 0))) (.op 2 (.op 0 (.dt 0) (.dt 0)) (.op 0 (.dt 0) (.dt 0)))) (.op 1 (.op 2 (.op 0 (.dt 0) (.dt 0)) (.op 0 (.dt 0) (.dt 0))) (.op 2 (.op 0 (.dt 0) (.dt 0)) (.op 0 (.dt 0) (.dt 0)))))) (.op 3 (.op 3 (.op 2 (.dt 4) (.dt 10)) (.op 2 (.dt 5) (.dt 11))) (.op 1 (.op 2 (.dt 4) (.dt 11)) (.op 2 (.dt 5) (.dt 10))))) (.op 3 (.op 3 (.op 2 (.op 0 (.dt 0) (.dt 0)) (.op 0 (.dt 0) (.dt 0))) (.op 2 (.op 0 (.dt 0) (.dt 0)) (.op 0 (.dt 0) (.dt 0)))) (.op 1 (.op 2 (.op 0 (.dt 0) (.dt 0)) (.op 0 (.dt 0) (.dt 0))) (.op 2 (.op 0 (.dt 0) (.dt 0)) (.op 0 (.dt 0) (.dt 0))))),
  .op 1 (.op 1 (.op 1 (.op 1 (.op 1 (.op 1 (.op 2 (.dt 0) (.dt 9)) (.op 2 (.dt 1) (.dt 8))) (.op 1 (.op 2 (.op 0 (.dt 0) (.dt 0)) (.op 0 (.dt 0) (.dt 0))) (.op 2 (.op 0 (.dt 0) (.dt 0)) (.op 0 (.dt 0) (.dt 0))))) (.op 1 (.op 2 (.dt 2) (.dt 7)) (.op 2 (.dt 3) (.dt 6)))) (.op 1 (.op 3 (.op 2 (.op 0 (.dt 0) (.dt 0)) (.op 0 (.dt 0) (.dt 0))) (.op 2 (.op 0 (.dt 0) (.dt 0)) (.op 0 (.dt 0) (.dt 0)))) (.op 1 (.op 2 (.op 0 (.dt 0) (.dt 0)) (.op 0 (.dt 0) (.dt 0))) (.op 2 (.op 0 (.dt 0) (.dt 0)) (.op 0 (.dt 0) (.dt 0)))))) (.op 1 (.op 3 (.op 2 (.dt 4) (.dt 10)) (.op 2 (.dt 5) (.dt 11))) (.op 1 (.op 2 (.dt 4) (.dt 11)) (.op 2 (.dt 5) (.dt 10))))) (.op 1 (.op 3 (.op 2 (.op 0 (.dt 0) (.dt 0)) (.op 0 (.dt 0) (.dt 0))) (.op 2 (.op 0 (.dt 0) (.dt 0)) (.op 0 (.dt 0) (.dt 0)))) (.op 1 (.op 2 (.op 0 (.dt 0) (.dt 0)) (.op 0 (.dt 0) (.dt 0))) (.op 2 (.op 0 (.dt 0) (.dt 0)) (.op 0 (.dt 0) (.dt 0))))),
  .op 1 (.op 1 (.op 1 (.op 1 (.op 1 (.op 3 (.op 2 (.dt 0) (.dt 10)) (.op 2 (.dt 1) (.dt 11))) (.op 3 (.op 2 (.op 0 (.dt 0) (.dt 0)) (.op 0 (.dt 0) (.dt 0))) (.op 2 (.op 0 (.dt 0) (.dt 0)) (.op 0 (.dt 0) (.dt 0))))) (.op 3 (.op 2 (.dt 2) (.dt 8)) (.op 2 (.dt 3) (.dt 9)))) (.op 3 (.op 2 (.op 0 (.dt 0) (.dt 0)) (.op 0 (.dt 0) (.dt 0))) (.op 2 (.op 0 (.dt 0) (.dt 0)) (.op 0 (.dt 0) (.dt 0))))) (.op 3 (.op 2 (.dt 4) (.dt 6)) (.op 2 (.dt 5) (.dt 7)))) (.op 3 (.op 3 (.op 2 (.op 0 (.dt 0) (.dt 0)) (.op 0 (.dt 0) (.dt 0))) (.op 2 (.op 0 (.dt 0) (.dt 0)) (.op 0 (.dt 0) (.dt 0)))) (.op 1 (.op 2 (.op 0 (.dt 0) (.dt 0)) (.op 0 (.dt 0) (.dt 0))) (.op 2 (.op 0 (.dt 0) (.dt 0)) (.op 0 (.dt 0) (.dt 0))))),
  .op 1 (.op 1 (.op 1 (.op 1 (.op 1 (.op 1 (.op 2 (.dt 0) (.dt 11)) (.op 2 (.dt 1) (.dt 10))) (.op 1 (.op 2 (.op 0 (.dt 0) (.dt 0)) (.op 0 (.dt 0) (.dt 0))) (.op 2 (.op 0 (.dt 0) (.dt 0)) (.op 0 (.dt 0) (.dt 0))))) (.op 1 (.op 2 (.dt 2) (.dt 9)) (.op 2 (.dt 3) (.dt 8)))) (.op 1 (.op 2 (.op 0 (.dt 0) (.dt 0)) (.op 0 (.dt 0) (.dt 0))) (.op 2 (.op 0 (.dt 0) (.dt 0)) (.op 0 (.dt 0) (.dt 0))))) (.op 1 (.op 2 (.dt 4) (.dt 7)) (.op 2 (.dt 5) (.dt 6)))) (.op 1 (.op 3 (.op 2 (.op 0 (.dt 0) (.dt 0)) (.op 0 (.dt 0) (.dt 0))) (.op 2 (.op 0 (.dt 0) (.dt 0)) (.op 0 (.dt 0) (.dt 0)))) (.op 1 (.op 2 (.op 0 (.dt 0) (.dt 0)) (.op 0 (.dt 0) (.dt 0))) (.op 2 (.op 0 (.dt 0) (.dt 0)) (.op 0 (.dt 0) (.dt 0)))))]
def T.even (x : T) : T := ⟨x.x0, x.x1, x.x2, x.x3, x.x4, x.x5, 0, 0, 0, 0, 0, 0⟩
theorem normTgt_ok (ρ : Nat → Int) : normTgt.map (evZ ρ) = (List.range 6).map ((T.of ρ).mul (T.of ρ).conj).get := rfl
theorem elInvTgt_ok (ρ : Nat → Int) : elInvTgt.map (evZ ρ) = (List.range 12).map ((T.of ρ).conj.mul (T.of fun k => ρ (12 + k)).even).get := rfl
theorem cubTgt_ok (ρ : Nat → Int) : cubTgt.map (evZ ρ) = (List.range 6).map ((T.of ρ).even.mul (T.of fun k => ρ (6 + k)).even).get := rfl
theorem normTgt_poly : ∀ e ∈ normTgt, polyN 12 e = true := List.all_eq_true.1 (by decide +kernel : normTgt.all (polyN 12) = true)
theorem elInvTgt_poly : ∀ e ∈ elInvTgt, polyN 18 e = true := List.all_eq_true.1 (by decide +kernel : elInvTgt.all (polyN 18) = true)
theorem cubTgt_poly : ∀ e ∈ cubTgt, polyN 12 e = true := List.all_eq_true.1 (by decide +kernel : cubTgt.all (polyN 12) = true)

def mOf (R : Ev) (es : List E) : E := .op 5 (.op 0 (.dt (fpEv (subR R es) nrmE)) (.dt 0)) (.dt 0)
/-- the inverse of six numbers -/
def cubV (R : Ev) (es : List E) : List Nat := invTgt.map (fpEv (subR R (es ++ [mOf R es])))

theorem getD_app {es es' : List E} {i : Nat} (h : i < es.length) : (es ++ es').getD i zE = es.getD i zE := by rw [List.getD, List.getD, List.getElem?_append_left h]

theorem cubInv_args {R : Ev} (hR : R.Ok) {es : List E} (h6 : es.length = 6) : (subR R (es ++ [mOf R es])).num 6 % fpQ = (subR R (es ++ [mOf R es])).inv (fpEv (subR R (es ++ [mOf R es])) nrmE) % fpQ := by
  show fpEv R ((es ++ [mOf R es]).getD 6 zE) % fpQ = R.inv _ % fpQ
  rw [show (es ++ [mOf R es]).getD 6 zE = mOf R es by simp [List.getD, h6]]
  unfold mOf
  rw [fpEv_inv, fpEv_lit, hR.inv, hR.inv, Nat.pow_mod]
  conv => rhs; rw [Nat.pow_mod]
  rw [poly_cong (R := subR R es) (R' := subR R (es ++ [mOf R es])) (n := 6) (fun i hi => by
    show fpEv R _ % fpQ = fpEv R _ % fpQ
    rw [getD_app (by omega)]) nrmE_poly]
  rfl

def cubInvE (Y : Tx) (t : Nat) : Entry := fun cs => match argsEls [6] cs with
  | some es => match findC Y t es with
    | some rs => match allFp rs, Nat.beq es.length 6 with
      | true, true => some (.one (.dt (.agg (els rs))))
      | _, _ => none
    | none => none
  | none => none

theorem cubInvE_ok {R : Ev} (hR : R.Ok) {Y : Tx} {t : Nat} (hY : ∀ c ∈ Y, c.1 = t → (c.2.2.map (fpEv R)).map (· % fpQ) = (cubV R c.2.1).map (· % fpQ)) : EntryOk (fpDenS R) FpTab 21 (cubInvE Y t) := by
  refine ⟨by kernel_rfl, fun cs r hr σ w vs hv hI => ?_⟩
  unfold cubInvE at hr
  split at hr
  · rename_i es hes
    split at hr
    · rename_i rs hrs
      split at hr
      · rename_i ha h6
        have h6 := Nat.eq_of_beq_eq_true h6
        injection hr with hr; subst hr
        have h1 := argsEls_ok [] [mOf R es] hes hv
        rw [List.nil_append] at h1
        refine (poly_callsT Tryd.func21 cubInv_chk (cubL_ok (subR_ok hR _) (cubInv_args hR h6)) hI h1).mono fun e w' ⟨h2, h3⟩ => ⟨_, h2, h3, ?_⟩
        have h4 := hY _ (findC_mem hrs) rfl
        exact ⟨_, els_cells ha, by rw [cells_same h4]; rfl⟩
      · cases hr
    · cases hr
  · cases hr

/-- the inverse of the norm to the third degree is six variables -/
noncomputable def cubME : Entry := fun cs => match argsEls [6] cs with
  | some es => match fpSameL [] es normTgt, Nat.beq es.length 6 with
    | some true, true => some (.one (.dt (.agg (vEl 12 6))))
    | _, _ => none
  | none => none

theorem same_getD {R : Ev} {es ms : List E} (h : (es.map (fpEv R)).map (· % fpQ) = (ms.map (fpEv R)).map (· % fpQ)) (i : Nat) : fpEv R (es.getD i zE) % fpQ = fpEv R (ms.getD i zE) % fpQ := by
  have e : ∀ l : List E, fpEv R (l.getD i zE) % fpQ = ((l.map (fpEv R)).map (· % fpQ)).getD i 0 := fun l => by
    simp only [List.getD, List.getElem?_map]
    cases l[i]? with
    | none => rfl
    | some x => rfl
  rw [e, e, h]

theorem cubV_cong {R R' : Ev} (hR : R.Ok) (hR' : R'.Ok) {es ms : List E} (h6 : es.length = 6) (h6' : ms.length = 6) (h : ∀ i, i < 6 → fpEv R (es.getD i zE) % fpQ = fpEv R' (ms.getD i zE) % fpQ) : (cubV R es).map (· % fpQ) = (cubV R' ms).map (· % fpQ) := by
  unfold cubV
  rw [List.map_map, List.map_map]
  refine List.map_congr_left fun e he => ?_
  refine poly_cong (n := 7) (fun i hi => ?_) (invTgt_poly e he)
  by_cases hi6 : i < 6
  · show fpEv R _ % fpQ = fpEv R' _ % fpQ
    rw [getD_app (by omega), getD_app (by omega)]
    exact h i hi6
  · have : i = 6 := by omega
    subst this
    rw [cubInv_args hR h6, cubInv_args hR' h6']
    show R.inv _ % fpQ = R'.inv _ % fpQ
    rw [hR.inv, hR'.inv, Nat.pow_mod]
    conv => rhs; rw [Nat.pow_mod]
    rw [poly_cong (R := subR R (es ++ [mOf R es])) (R' := subR R' (ms ++ [mOf R' ms])) (n := 6) (fun i hi => by
      show fpEv R _ % fpQ = fpEv R' _ % fpQ
      rw [getD_app (by omega), getD_app (by omega)]
      exact h i hi) nrmE_poly]

theorem cubME_ok {R : Ev} (hR : R.Ok) (hM : ([12, 13, 14, 15, 16, 17].map R.num).map (· % fpQ) = (cubV R normTgt).map (· % fpQ)) : EntryOk (fpDenS R) FpTab 21 cubME := by
  refine ⟨by kernel_rfl, fun cs r hr σ w vs hv hI => ?_⟩
  unfold cubME at hr
  split at hr
  · rename_i es hes
    split at hr
    · rename_i hs h6
      have h6 := Nat.eq_of_beq_eq_true h6
      injection hr with hr; subst hr
      have h1 := argsEls_ok [] [mOf R es] hes hv
      rw [List.nil_append] at h1
      refine (poly_callsT Tryd.func21 cubInv_chk (cubL_ok (subR_ok hR _) (cubInv_args hR h6)) hI h1).mono fun e w' ⟨h2, h3⟩ => ⟨_, h2, h3, ?_⟩
      have h5 := of_decide_eq_true (fpSameL_ok (R := R) (F := []) (fun x hx => by cases hx) hs)
      have h4 := hM.trans (cubV_cong hR hR (es := normTgt) (ms := es) rfl h6 fun i hi => (same_getD h5 i).symm)
      refine ⟨([12, 13, 14, 15, 16, 17].map R.num).flatMap fpCells, rfl, ?_⟩
      rw [cells_same h4]
      rfl
    · cases hr
  · cases hr

section
set_option maxRecDepth 100000
theorem elInv_chk : polyChkT Tryd.prog ((21, cubME) :: tw3 Tryd.prog headTX) Tryd.f34 [12] elInvTgt = true := by kernel_rfl
theorem cubMul_chk : polyChk Tryd.prog Tryd.f17 [6, 6] cubTgt = true := by kernel_rfl
end

def litE (n : Nat) : E := .op 0 (.dt n) (.dt 0)
def nOf (R : Ev) (es : List E) : List E := (cubV (subR R es) normTgt).map litE
/-- the inverse of twelve numbers -/
def elInvV (R : Ev) (es : List E) : List Nat := elInvTgt.map (fpEv (subR R (es ++ nOf R es)))

def elInvE (Y : Tx) (t : Nat) : Entry := fun cs => match argsEls [12] cs with
  | some es => match findC Y t es with
    | some rs => match allFp rs, Nat.beq es.length 12 with
      | true, true => some (.one (.dt (.agg (els rs))))
      | _, _ => none
    | none => none
  | none => none

theorem elInv_args {R : Ev} (hR : R.Ok) {es : List E} (h12 : es.length = 12) : ([12, 13, 14, 15, 16, 17].map (subR R (es ++ nOf R es)).num).map (· % fpQ) = (cubV (subR R (es ++ nOf R es)) normTgt).map (· % fpQ) := by
  have hc : (cubV (subR R es) normTgt).map (· % fpQ) = (cubV (subR R (es ++ nOf R es)) normTgt).map (· % fpQ) := by
    refine cubV_cong (subR_ok hR _) (subR_ok hR _) rfl rfl fun i hi => ?_
    refine poly_cong (n := 12) (fun j hj => ?_) (normTgt_poly _ ?_)
    · show fpEv R _ % fpQ = fpEv R _ % fpQ
      rw [getD_app (by omega)]
    · have : i < normTgt.length := hi
      rw [List.getD, List.getElem?_eq_getElem this]
      exact List.getElem_mem _
  rw [← hc]
  have hv : ∀ l : List Nat, l.length = 6 → ([12, 13, 14, 15, 16, 17].map (subR R (es ++ l.map litE)).num) = l := by
    intro l hl
    match l, hl with
    | [a, b, c, d, e, f], _ =>
      have g : ∀ k, k < 6 → (subR R (es ++ [a, b, c, d, e, f].map litE)).num (12 + k) = [a, b, c, d, e, f].getD k 0 := fun k hk => by
        show fpEv R ((es ++ [a, b, c, d, e, f].map litE).getD (12 + k) zE) = _
        rw [List.getD, List.getElem?_append_right (by omega), show 12 + k - es.length = k by omega]
        match k, hk with
        | 0, _ => exact fpEv_lit _ _ _
        | 1, _ => exact fpEv_lit _ _ _
        | 2, _ => exact fpEv_lit _ _ _
        | 3, _ => exact fpEv_lit _ _ _
        | 4, _ => exact fpEv_lit _ _ _
        | 5, _ => exact fpEv_lit _ _ _
      simp only [List.map_cons, List.map_nil] at g ⊢
      rw [g 0 (by omega), g 1 (by omega), g 2 (by omega), g 3 (by omega), g 4 (by omega), g 5 (by omega)]
      rfl
  unfold nOf
  rw [hv _ (by simp [cubV, invTgt])]

theorem elInvE_ok {R : Ev} (hR : R.Ok) {Y : Tx} {t : Nat} (hY : ∀ c ∈ Y, c.1 = t → (c.2.2.map (fpEv R)).map (· % fpQ) = (elInvV R c.2.1).map (· % fpQ)) : EntryOk (fpDenS R) FpTab 34 (elInvE Y t) := by
  refine ⟨by kernel_rfl, fun cs r hr σ w vs hv hI => ?_⟩
  unfold elInvE at hr
  split at hr
  · rename_i es hes
    split at hr
    · rename_i rs hrs
      split at hr
      · rename_i ha h12
        have h12 := Nat.eq_of_beq_eq_true h12
        injection hr with hr; subst hr
        have h1 := argsEls_ok [] (nOf R es) hes hv
        rw [List.nil_append] at h1
        refine (poly_callsT (l := (21, cubME) :: tw3 Tryd.prog headTX) Tryd.func34 elInv_chk (by
          rw [List.forall_mem_cons]
          exact ⟨cubME_ok (subR_ok hR _) (elInv_args hR h12), tw3_ok (subR_ok hR _) headT_told⟩) hI h1).mono fun e w' ⟨h2, h3⟩ => ⟨_, h2, h3, ?_⟩
        have h4 := hY _ (findC_mem hrs) rfl
        exact ⟨_, els_cells ha, by rw [cells_same h4]; rfl⟩
      · cases hr
    · cases hr
  · cases hr

/-- an entry, and another where it is silent -/
def orE (e1 e2 : Entry) : Entry := fun cs => match e1 cs with
  | some r => some r
  | none => e2 cs

theorem orE_ok {D : Den} {I : World → Prop} {f : FuncId} {e1 e2 : Entry} (h1 : EntryOk D I f e1) (h2 : EntryOk D I f e2) : EntryOk D I f (orE e1 e2) := by
  refine ⟨h1.1, fun cs r hr => ?_⟩
  unfold orE at hr
  split at hr
  · rename_i r' h
    injection hr with hr; subst hr
    exact h1.2 cs _ h
  · exact h2.2 cs _ hr

end Go.Proofs.YtdconlmpjehohaaDoor
