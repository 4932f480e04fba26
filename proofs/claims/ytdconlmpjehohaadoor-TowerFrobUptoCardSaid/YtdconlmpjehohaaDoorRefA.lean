/- The reference's numbers: lists of words of 16 bits; word, Less, Same. Conditions: those of each theorem. -/
import Derived.Test.YtdconlmpjehohaaDoorBy
import Derived.Test.YtdconlmpjehohaaDoorBasf
import Derived.Outline
import Derived.StillTailTactics
import Derived.Deep.QuietTactic
import Derived.BigQuiet
import Derived.Lib.Hide
namespace Go.Proofs.YtdconlmpjehohaaDoor
open Go.RowKit
set_option linter.unusedVariables false

/-- the number that words are, the lowest first -/
def le : List Nat → Nat
  | [] => 0
  | x :: l => x + 65536 * le l

def W16 (l : List Nat) : Prop := ∀ x ∈ l, x < 65536

theorem word_calls (A : Option Addr) (l : List Nat) (n c i : Nat) (w : World) (hr : Rd w A (nums .u32 l)) (hl : l.length = n) :
    Calls Tryd.prog 78 #[.slice A n c, .int .i64 i] w fun e w' => e = .returned (.int .u32 ((l.getD i 0 : Nat) : Int)) ∧ w = w' := by
  by_cases hlt : i < n
  · subst hl
    obtain ⟨b, o, rfl, hbl, hc⟩ := hr.num hlt
    have e : l.getD i 0 = l[i] := by simp [List.getD, hlt]
    rw [e]
    clear e
    go_enter Tryd.func78, Tryd.ntmps78
    go_wp2
    go_ret
    exact ⟨rfl, rfl⟩
  · have e : l.getD i 0 = 0 := by simp [List.getD, List.getElem?_eq_none (by omega : l.length ≤ i)]
    rw [e]
    clear e hr
    go_enter Tryd.func78, Tryd.ntmps78
    go_wp2
    go_ret
    exact ⟨rfl, rfl⟩

theorem le_drop (l : List Nat) (k : Nat) : le (l.drop k) = l.getD k 0 + 65536 * le (l.drop (k + 1)) := by
  by_cases h : k < l.length
  · rw [List.drop_eq_getElem_cons h]
    simp [le, List.getD, h]
  · rw [List.drop_eq_nil_of_le (by omega), List.drop_eq_nil_of_le (by omega)]
    simp [le, List.getD, List.getElem?_eq_none (by omega : l.length ≤ k)]

theorem le_end {l : List Nat} {n : Nat} (h : l.length ≤ n) : le (l.drop n) = 0 := by rw [List.drop_eq_nil_of_le h]; rfl

theorem getD_lt {l : List Nat} (h : W16 l) (k : Nat) : l.getD k 0 < 65536 := by
  by_cases hk : k < l.length
  · have : l.getD k 0 = l[k] := by simp [List.getD, hk]
    rw [this]; exact h _ (List.getElem_mem _)
  · simp [List.getD, List.getElem?_eq_none (by omega : l.length ≤ k)]

/-- the lower words -/
def lo (l : List Nat) : Nat → Nat
  | 0 => 0
  | k + 1 => lo l k + l.getD k 0 * 65536 ^ k

theorem lo_lt {l : List Nat} (h : W16 l) : ∀ k, lo l k < 65536 ^ k
  | 0 => by simp [lo]
  | k + 1 => by
    have h1 := lo_lt h k
    have h2 := getD_lt h k
    simp only [lo, Nat.pow_succ]
    have h3 : l.getD k 0 * 65536 ^ k ≤ 65535 * 65536 ^ k := Nat.mul_le_mul_right _ (by omega)
    omega

theorem le_lo (l : List Nat) : ∀ k, le l = lo l k + 65536 ^ k * le (l.drop k)
  | 0 => by simp [lo]
  | k + 1 => by
    rw [le_lo l k, le_drop l k]
    simp only [lo, Nat.pow_succ, Nat.mul_add]
    have e1 : 65536 ^ k * l.getD k 0 = l.getD k 0 * 65536 ^ k := Nat.mul_comm _ _
    have e2 : 65536 ^ k * (65536 * le (l.drop (k + 1))) = 65536 ^ k * 65536 * le (l.drop (k + 1)) := by rw [Nat.mul_assoc]
    omega

def LessB (a b : List Nat) : Bool := decide (le a < le b)

/-- words from k on are alike, at k they differ -/
theorem less_at {a b : List Nat} (ha : W16 a) (hb : W16 b) {k : Nat} (he : le (a.drop (k + 1)) = le (b.drop (k + 1))) (hne : a.getD k 0 ≠ b.getD k 0) : (le a < le b) ↔ a.getD k 0 < b.getD k 0 := by
  have h1 := le_lo a (k + 1)
  have h2 := le_lo b (k + 1)
  rw [he] at h1
  have l1 := lo_lt ha k
  have l2 := lo_lt hb k
  simp only [lo] at h1 h2
  generalize 65536 ^ (k + 1) * le (b.drop (k + 1)) = T at *
  generalize 65536 ^ k = p at *
  rw [h1, h2]
  constructor
  · intro h
    refine Nat.lt_of_le_of_ne (Nat.not_lt.1 fun hgt => ?_) hne
    have : (b.getD k 0 + 1) * p ≤ a.getD k 0 * p := Nat.mul_le_mul_right _ hgt
    rw [Nat.add_mul, Nat.one_mul] at this
    omega
  · intro h
    have : (a.getD k 0 + 1) * p ≤ b.getD k 0 * p := Nat.mul_le_mul_right _ h
    rw [Nat.add_mul, Nat.one_mul] at this
    omega

theorem drop_same {a b : List Nat} {k : Nat} (he : le (a.drop (k + 1)) = le (b.drop (k + 1))) (hw : a.getD k 0 = b.getD k 0) : le (a.drop k) = le (b.drop k) := by
  rw [le_drop a k, le_drop b k, he, hw]

set_option maxHeartbeats 400000 in
theorem less_calls (A B : Option Addr) (a b : List Nat) (n m c d : Nat) (w : World) (hra : Rd w A (nums .u32 a)) (hrb : Rd w B (nums .u32 b)) (hna : a.length = n) (hnb : b.length = m) (ha : W16 a) (hb : W16 b) (h1 : n ≤ 70368744177664) (h2 : m ≤ 70368744177664) :
    Calls Tryd.prog 74 #[.slice A n c, .slice B m d] w fun e w' => e = .returned (.bool (LessB a b)) ∧ w = w' := by
  have HA := Lib.hid hna
  have HB := Lib.hid hnb
  clear hna hnb
  have HWA := Lib.hid ha
  have HWB := Lib.hid hb
  clear ha hb
  have w1 := fun i : Nat => word_calls A a n c i w hra HA.out
  have w2 := fun i : Nat => word_calls B b m d i w hrb HB.out
  have W1 := Lib.hid w1
  have W2 := Lib.hid w2
  clear w1 w2 hra hrb
  have go : ∀ N : Nat, n ≤ N → m ≤ N → Hid (le (a.drop N) = le (b.drop N)) := fun N h3 h4 => by
    have := HA.out; have := HB.out
    show _ = _
    rw [le_end (by omega), le_end (by omega)]
  go_enter Tryd.func74, Tryd.ntmps74
  by_cases hnm : n < m
  all_goals
    go_wp2
    go_loop [6] (fun i => ∃ k : Nat, k ≤ 70368744177664 ∧ i = .int .i64 ((k : Int) - 1) ∧ Hid (le (a.drop k) = le (b.drop k))) (fun i => (intOf i + 1).toNat)
    case atStart => first | exact ⟨m, by omega, rfl, go m (by omega) (by omega)⟩ | exact ⟨n, by omega, rfl, go n (by omega) (by omega)⟩
    case round =>
      obtain ⟨k, hk, rfl, HD⟩ := hrel
      rcases k with _ | j
      · go_wp2
        go_ret
        refine ⟨ret_bool ?_, rfl⟩
        have := HD.out
        unfold LessB
        rw [show le a = le (a.drop 0) from rfl, this, show le b = le (b.drop 0) from rfl]
        simp
      · rw [show (((j + 1 : Nat) : Int) - 1) = (j : Int) by omega]
        have c1 := W1.out j
        have c2 := W2.out j
        obtain ⟨x, hx⟩ : ∃ x, a.getD j 0 = x := ⟨_, rfl⟩
        obtain ⟨y, hy⟩ : ∃ y, b.getD j 0 = y := ⟨_, rfl⟩
        rw [hx] at c1
        rw [hy] at c2
        have HX := Lib.hid hx
        have HY := Lib.hid hy
        clear hx hy
        by_cases he : x = y
        · subst he
          have HS : Hid (le (a.drop j) = le (b.drop j)) := drop_same HD.out (HX.out.trans HY.out.symm)
          clear HD
          go_wp2_with (first | ((with_reducible refine c1.mono ?_); rintro e w' ⟨rfl, rfl⟩) | ((with_reducible refine c2.mono ?_); rintro e w' ⟨rfl, rfl⟩))
          go_round
          case rel => exact ⟨j, by omega, rfl, HS⟩
          case measure => simp [intOf]
        · have hq : (((x : Nat) : Int) != ((y : Nat) : Int)) = true := by simp; omega
          have HL : Hid (LessB a b = decide (x < y)) := by
            show _ = _
            have := less_at HWA.out HWB.out HD.out (by rw [HX.out, HY.out]; exact he)
            rw [HX.out, HY.out] at this
            unfold LessB
            rw [decide_eq_decide, this]
          have hne : (((x : Nat) : Int) == ((y : Nat) : Int)) = false := by simp; omega
          clear HD
          go_wp2_with (first | ((with_reducible refine c1.mono ?_); rintro e w' ⟨rfl, rfl⟩) | ((with_reducible refine c2.mono ?_); rintro e w' ⟨rfl, rfl⟩))
          go_ret
          exact ⟨ret_bool HL.out.symm, rfl⟩

end Go.Proofs.YtdconlmpjehohaaDoor
