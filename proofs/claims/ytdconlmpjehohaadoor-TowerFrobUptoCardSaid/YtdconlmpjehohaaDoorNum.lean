/- Plain numbers and bytes: a number's digits to the base 256, the highest first. Conditions: none; plain lemmas. -/
namespace Go.Proofs.YtdconlmpjehohaaDoor

/-- the number of bytes, the highest first -/
def be (l : List Nat) : Nat := l.foldl (fun x c => x * 256 + c) 0

theorem be_snoc (l : List Nat) (c : Nat) : be (l ++ [c]) = be l * 256 + c := by simp [be]

theorem be_fold (l : List Nat) (a : Nat) : l.foldl (fun x c => x * 256 + c) a = a * 256 ^ l.length + be l := by
  induction l generalizing a with
  | nil => simp [be]
  | cons x l ih =>
    simp only [List.foldl_cons, List.length_cons, be]
    rw [ih, ih (0 * 256 + x), Nat.pow_succ, Nat.add_mul, Nat.zero_mul, Nat.zero_add, Nat.mul_assoc, Nat.mul_comm 256 (256 ^ l.length)]
    omega
theorem be_cons (x : Nat) (l : List Nat) : be (x :: l) = x * 256 ^ l.length + be l := by
  have := be_fold l x
  simpa [be] using this
theorem be_append (l m : List Nat) : be (l ++ m) = be l * 256 ^ m.length + be m := by
  unfold be
  rw [List.foldl_append, be_fold]
  rfl
theorem be_lt (l : List Nat) (h : ∀ x ∈ l, x < 256) : be l < 256 ^ l.length := by
  induction l with
  | nil => simp [be]
  | cons x l ih =>
    have h1 := ih fun y hy => h y (List.mem_cons_of_mem _ hy)
    have h2 := h x List.mem_cons_self
    rw [be_cons, List.length_cons, Nat.pow_succ]
    calc x * 256 ^ l.length + be l < x * 256 ^ l.length + 256 ^ l.length := by omega
      _ = (x + 1) * 256 ^ l.length := by rw [Nat.add_mul, Nat.one_mul]
      _ ≤ 256 * 256 ^ l.length := Nat.mul_le_mul_right _ (by omega)
      _ = 256 ^ l.length * 256 := Nat.mul_comm _ _

/-- n bytes of a number, the highest first -/
def digs : Nat → Nat → List Nat
  | 0, _ => []
  | n + 1, x => (x / 256 ^ n % 256) :: digs n x

theorem digs_length (n x : Nat) : (digs n x).length = n := by induction n <;> simp [digs, *]
theorem digs_lt (n x : Nat) : ∀ d ∈ digs n x, d < 256 := by
  induction n with
  | zero => simp [digs]
  | succ n ih =>
    intro d hd
    simp only [digs, List.mem_cons] at hd
    rcases hd with rfl | hd
    · exact Nat.mod_lt _ (by omega)
    · exact ih d hd
theorem digs_get (n x k : Nat) (h : k < (digs n x).length) : (digs n x)[k] = x / 256 ^ (n - 1 - k) % 256 := by
  induction n generalizing k with
  | zero => simp [digs] at h
  | succ n ih =>
    match k with
    | 0 => simp [digs]
    | k + 1 =>
      simp only [digs, List.getElem_cons_succ]
      rw [ih]
      congr 3
      omega
theorem be_digs (n x : Nat) : be (digs n x) = x % 256 ^ n := by
  induction n with
  | zero => simp [be, digs, Nat.mod_one]
  | succ n ih =>
    rw [digs, be_cons, ih, digs_length, Nat.pow_succ, Nat.mod_mul]
    rw [Nat.mul_comm]; omega
theorem digs_mod (n x k : Nat) : digs n (x % 256 ^ (n + k)) = digs n x := by
  apply List.ext_getElem
  · simp [digs_length]
  · intro i h1 h2
    rw [digs_get, digs_get]
    rw [digs_length] at h1
    have e : 256 ^ (n + k) = 256 ^ (n - 1 - i) * (256 ^ (i + k) * 256) := by
      rw [← Nat.pow_succ, ← Nat.pow_add]; congr 1; omega
    rw [e, Nat.mod_mul_right_div_self, Nat.mod_mul_left_mod]
theorem digs_be (l : List Nat) (h : ∀ x ∈ l, x < 256) : digs l.length (be l) = l := by
  induction l with
  | nil => rfl
  | cons x l ih =>
    have h1 : be l < 256 ^ l.length := be_lt l fun y hy => h y (List.mem_cons_of_mem _ hy)
    have h2 := h x List.mem_cons_self
    have hp : 0 < 256 ^ l.length := Nat.pow_pos (by omega)
    rw [be_cons, List.length_cons, digs]
    congr 1
    · rw [Nat.mul_comm, Nat.mul_add_div hp, Nat.div_eq_of_lt h1]; omega
    · have := digs_mod l.length (x * 256 ^ l.length + be l) 0
      rw [← this, Nat.add_zero, Nat.mul_comm, Nat.mul_add_mod, Nat.mod_eq_of_lt h1]
      exact ih fun y hy => h y (List.mem_cons_of_mem _ hy)
theorem digs_inj {n x y : Nat} (hx : x < 256 ^ n) (hy : y < 256 ^ n) (h : digs n x = digs n y) : x = y := by
  have h1 := be_digs n x
  have h2 := be_digs n y
  rw [Nat.mod_eq_of_lt hx] at h1
  rw [Nat.mod_eq_of_lt hy] at h2
  rw [← h1, ← h2, h]

theorem two_pow_8 (j : Nat) : 2 ^ (8 * j) = 256 ^ j := by rw [Nat.pow_mul]
theorem digs_cell {n x k : Nat} (hk : k < n) : ((digs n x)[k]'(by rw [digs_length]; exact hk) : Nat) = x / 2 ^ (8 * (n - 1 - k)) % 256 := by rw [digs_get, two_pow_8]
theorem digs_int {n x k : Nat} (hk : k < n) : (((digs n x)[k]'(by rw [digs_length]; exact hk) : Nat) : Int) = (x : Int) / 2 ^ (8 * (n - 1 - k)) % 256 := by
  rw [digs_cell hk]; simp
theorem digs_take {n x k : Nat} (hk : k < n) : (digs n x).take (k + 1) = (digs n x).take k ++ [(digs n x)[k]'(by rw [digs_length]; exact hk)] := by
  rw [List.take_succ_eq_append_getElem]

theorem nat_or_low (x y i : Nat) (hy : y < 2 ^ i) : x * 2 ^ i ||| y = x * 2 ^ i + y := by
  rw [Nat.mul_comm, ← Nat.two_pow_add_eq_or_of_lt hy]
theorem mul256_or (x y : Nat) (hy : y < 256) : x * 256 ||| y = x * 256 + y := nat_or_low x y 8 (by omega)

theorem take_snoc {α : Type} (l : List α) (k : Nat) (h : k < l.length) : l.take (k + 1) = l.take k ++ [l[k]] := by
  rw [List.take_succ_eq_append_getElem h]

end Go.Proofs.YtdconlmpjehohaaDoor
