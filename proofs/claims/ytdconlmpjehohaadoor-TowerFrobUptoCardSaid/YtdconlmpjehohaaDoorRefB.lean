/- The reference's numbers: Plus, Minus. Conditions: those of each theorem. -/
import Derived.Test.YtdconlmpjehohaaDoorRefA
namespace Go.Proofs.YtdconlmpjehohaaDoor
open Go.RowKit
set_option linter.unusedVariables false

theorem u32_info : (Tryd.prog.info? 43).map (fun i => (i.zero, i.size, i.bytes)) = some (some (.int .u32 0), 1, 4) := by kernel_rfl

theorem le_append (l m : List Nat) : le (l ++ m) = le l + 65536 ^ l.length * le m := by
  induction l with
  | nil => simp [le]
  | cons x l ih =>
    simp only [List.cons_append, le, ih, List.length_cons, Nat.pow_succ, Nat.mul_add]
    have : 65536 * (65536 ^ l.length * le m) = 65536 ^ l.length * 65536 * le m := by rw [← Nat.mul_assoc, Nat.mul_comm 65536]
    omega

theorem le_snoc (l : List Nat) (x : Nat) : le (l ++ [x]) = le l + x * 65536 ^ l.length := by
  rw [le_append, Nat.mul_comm]
  rfl

theorem lo_all {l : List Nat} {k : Nat} (h : l.length ≤ k) : lo l k = le l := by
  have := le_lo l k
  rw [le_end h] at this
  omega

theorem W16.snoc {l : List Nat} {x : Nat} (h : W16 l) (hx : x < 65536) : W16 (l ++ [x]) := fun y hy => by
  rcases List.mem_append.1 hy with hy | hy
  · exact h y hy
  · simp at hy; subst hy; exact hx

/-- a sum's words so far -/
def PlusInv (a b : List Nat) (k : Nat) (out : List Nat) (c : Nat) : Prop := out.length = k ∧ W16 out ∧ c ≤ 1 ∧ le out + c * 65536 ^ k = lo a k + lo b k

theorem PlusInv.step {a b out : List Nat} {k c : Nat} (h : PlusInv a b k out c) (ha : W16 a) (hb : W16 b) : PlusInv a b (k + 1) (out ++ [(a.getD k 0 + b.getD k 0 + c) % 65536]) ((a.getD k 0 + b.getD k 0 + c) / 65536) := by
  obtain ⟨h1, h2, h3, h4⟩ := h
  have l1 := getD_lt ha k
  have l2 := getD_lt hb k
  refine ⟨by simp [h1], h2.snoc (by omega), by omega, ?_⟩
  rw [le_snoc, h1]
  simp only [lo, Nat.pow_succ]
  have e := Nat.div_add_mod (a.getD k 0 + b.getD k 0 + c) 65536
  generalize (a.getD k 0 + b.getD k 0 + c) / 65536 = q at *
  generalize (a.getD k 0 + b.getD k 0 + c) % 65536 = r at *
  have e2 : (65536 * q + r) * 65536 ^ k = (a.getD k 0 + b.getD k 0 + c) * 65536 ^ k := by rw [e]
  simp only [Nat.add_mul] at e2
  have e3 : q * (65536 ^ k * 65536) = 65536 * q * 65536 ^ k := by rw [Nat.mul_comm (65536 ^ k), ← Nat.mul_assoc, Nat.mul_comm q]
  rw [e3]
  omega

theorem u32_and (x : Nat) (hx : x < 4294967296) : bits BinOp.and IntKind.u32 (x : Int) 65535 = ((x % 65536 : Nat) : Int) := by
  have h := u32_and_nat x 65535 hx (by omega)
  rw [show (65535 : Nat) = 2 ^ 16 - 1 from rfl, Nat.and_two_pow_sub_one_eq_mod] at h
  exact h

theorem plus_out {a b out : List Nat} {N cr : Nat} (h : PlusInv a b (N + 1) out cr) (ha : W16 a) (hb : W16 b) (hna : a.length ≤ N) (hnb : b.length ≤ N) : W16 out ∧ out.length = N + 1 ∧ le out = le a + le b := by
  obtain ⟨h1, h2, h3, h4⟩ := h
  refine ⟨h2, h1, ?_⟩
  have e1 : lo a (N + 1) = le a := lo_all (by omega)
  have e2 : lo b (N + 1) = le b := lo_all (by omega)
  have l1 := lo_lt ha N
  have l2 := lo_lt hb N
  rw [lo_all hna] at l1
  rw [lo_all hnb] at l2
  rw [e1, e2] at h4
  have : cr = 0 := by
    rcases Nat.eq_zero_or_pos cr with h | h
    · exact h
    · have hc : 1 * 65536 ^ (N + 1) ≤ cr * 65536 ^ (N + 1) := Nat.mul_le_mul_right _ h
      rw [Nat.pow_succ] at *
      omega
  subst this
  omega

set_option maxHeartbeats 1000000 in
theorem plus_calls (A B : Option Addr) (a b : List Nat) (n m c d : Nat) (w : World) (hra : Rd w A (nums .u32 a)) (hrb : Rd w B (nums .u32 b)) (hna : a.length = n) (hnb : b.length = m) (ha : W16 a) (hb : W16 b) (h1 : n ≤ 1073741824) (h2 : m ≤ 1073741824) :
    Calls Tryd.prog 73 #[.slice A n c, .slice B m d] w fun e w' => ∃ A' c' out, e = .returned (.slice A' (max n m + 1) c') ∧ Own w' w.heap.size 43 A' (max n m + 1) c' (nums .u32 out) ∧ Below w.heap.size w w' ∧ W16 out ∧ out.length = max n m + 1 ∧ le out = le a + le b := by
  obtain ⟨i0, hi0, hz0, hz1, hz2⟩ := info_parts u32_info
  have HA := Lib.hid hna
  have HB := Lib.hid hnb
  clear hna hnb
  have HWA := Lib.hid ha
  have HWB := Lib.hid hb
  clear ha hb
  have w1 := fun (i : Nat) (W : World) (hw : Below w.heap.size w W) => word_calls A a n c i W (hra.below hw) HA.out
  have w2 := fun (i : Nat) (W : World) (hw : Below w.heap.size w W) => word_calls B b m d i W (hrb.below hw) HB.out
  have W1 := Lib.hid w1
  have W2 := Lib.hid w2
  clear w1 w2 hra hrb
  have main : ∀ N : Nat, N = max n m → True := fun _ _ => trivial
  go_enter Tryd.func73, Tryd.ntmps73
  have P0 : Hid (PlusInv a b 0 [] 0) := ⟨rfl, fun x hx => (by cases hx), by omega, by simp [le, lo]⟩
  have key : ∀ N : Nat, n ≤ N → m ≤ N → (∀ (out : List Nat) (cr : Nat), PlusInv a b (N + 1) out cr → W16 out ∧ out.length = N + 1 ∧ le out = le a + le b) := fun N h3 h4 out cr h => plus_out h HWA.out HWB.out (by have := HA.out; omega) (by have := HB.out; omega)
  have KEY := Lib.hid key
  clear key main
  by_cases hnm : n < m
  · have hmax : max n m = m := by omega
    rw [hmax]
    clear hmax
    go_wp2
    go_loopw [6, 7, 8] (fun v cc i wr => ∃ (k : Nat) (A' : Option Addr) (c' cr : Nat) (out : List Nat), k ≤ m + 1 ∧ i = .int .i64 k ∧ cc = .int .u32 cr ∧ cr ≤ 1 ∧ v = .slice A' k c' ∧ Own wr w.heap.size 43 A' k c' (nums .u32 out) ∧ Below w.heap.size w wr ∧ Hid (PlusInv a b k out cr)) (fun _ _ i _ => m + 1 - (intOf i).toNat)
    case atStart => exact ⟨0, _, 0, 0, [], by omega, rfl, rfl, by omega, rfl, Own.litAt w [] 43 rfl (Nat.le_refl _) rfl (by simp [maxLen]), below_alloc _ _, P0⟩
    case round =>
      clear P0
      obtain ⟨k, A', c', cr, out, hk, rfl, rfl, hcr, rfl, hown, hb, HP⟩ := hrel
      by_cases hlt : k ≤ m
      · have c1 := W1.out k wr hb
        have c2 := W2.out k wr hb
        have HP2 : Hid (PlusInv a b (k + 1) (out ++ [(a.getD k 0 + b.getD k 0 + cr) % 65536]) ((a.getD k 0 + b.getD k 0 + cr) / 65536)) := HP.out.step HWA.out HWB.out
        have lx := getD_lt HWA.out k
        have ly := getD_lt HWB.out k
        obtain ⟨x, hx⟩ : ∃ x, a.getD k 0 = x := ⟨_, rfl⟩
        obtain ⟨y, hy⟩ : ∃ y, b.getD k 0 = y := ⟨_, rfl⟩
        rw [hx] at c1 lx HP2
        rw [hy] at c2 ly HP2
        clear hx hy HP
        have hand : bits BinOp.and IntKind.u32 ((x : Int) + y + cr) 65535 = (((x + y + cr) % 65536 : Nat) : Int) := by
          have := u32_and (x + y + cr) (by omega)
          rw [← this]; simp
        have hcr2 : (x + y + cr) / 65536 ≤ 1 := by omega
        obtain ⟨r, hr⟩ : ∃ r, (x + y + cr) % 65536 = r := ⟨_, rfl⟩
        obtain ⟨q, hq⟩ : ∃ q, (x + y + cr) / 65536 = q := ⟨_, rfl⟩
        have hdiv : ((x : Int) + y + cr) / 65536 = (q : Int) := by omega
        have hq2 : q ≤ 1 := by omega
        rw [hr] at hand HP2
        rw [hq] at HP2 hcr2
        clear hr hq
        have hbw : w.heap.size ≤ (wr.alloc (.cells #[.int .u32 r] 43)).heap.size := by have := hb.size; simp; omega
        go_wp2_with (first | ((with_reducible refine c1.mono ?_); rintro e w' ⟨rfl, rfl⟩) | ((with_reducible refine c2.mono ?_); rintro e w' ⟨rfl, rfl⟩) | (at_builtin; refine wpList_app _ rfl _ _ _ rfl w.heap.size 43 i0 _ 4 Tryd.underlying26 hi0 hz0 hz1 hz2 rfl (by decide) A' k c' _ rfl (hown.alloc _) _ 1 1 _ rfl (Src.lit1 _ _ _ _) (by omega) hbw ?_; intro A2 c2' w2 hown2 hgr2 hat2))
        have hown3 : Own w2 w.heap.size 43 A2 (k + 1) c2' (nums .u32 (out ++ [r])) := by rw [nums_append]; exact hown2
        have hb3 : Below w.heap.size w w2 := (hb.alloc hb.size _).grown hgr2 hbw (fun g hg => (hown.lt g hg).1)
        go_roundw
        case rel => exact ⟨k + 1, A2, c2', q, out ++ [r], by omega, by go_num, rfl, hq2, rfl, hown3, hb3, HP2⟩
        case measure => simp [intOf]; omega
      · have hkn : k = m + 1 := by omega
        subst hkn
        have HK := KEY.out m (by omega) (by omega) out cr HP.out
        have HK := Lib.hid HK
        clear HP
        go_wp2
        go_ret
        exact ⟨_, _, out, rfl, hown, hb, HK.out⟩
  · have hmax : max n m = n := by omega
    rw [hmax]
    clear hmax
    go_wp2
    go_loopw [6, 7, 8] (fun v cc i wr => ∃ (k : Nat) (A' : Option Addr) (c' cr : Nat) (out : List Nat), k ≤ n + 1 ∧ i = .int .i64 k ∧ cc = .int .u32 cr ∧ cr ≤ 1 ∧ v = .slice A' k c' ∧ Own wr w.heap.size 43 A' k c' (nums .u32 out) ∧ Below w.heap.size w wr ∧ Hid (PlusInv a b k out cr)) (fun _ _ i _ => n + 1 - (intOf i).toNat)
    case atStart => exact ⟨0, _, 0, 0, [], by omega, rfl, rfl, by omega, rfl, Own.litAt w [] 43 rfl (Nat.le_refl _) rfl (by simp [maxLen]), below_alloc _ _, P0⟩
    case round =>
      clear P0
      obtain ⟨k, A', c', cr, out, hk, rfl, rfl, hcr, rfl, hown, hb, HP⟩ := hrel
      by_cases hlt : k ≤ n
      · have c1 := W1.out k wr hb
        have c2 := W2.out k wr hb
        have HP2 : Hid (PlusInv a b (k + 1) (out ++ [(a.getD k 0 + b.getD k 0 + cr) % 65536]) ((a.getD k 0 + b.getD k 0 + cr) / 65536)) := HP.out.step HWA.out HWB.out
        have lx := getD_lt HWA.out k
        have ly := getD_lt HWB.out k
        obtain ⟨x, hx⟩ : ∃ x, a.getD k 0 = x := ⟨_, rfl⟩
        obtain ⟨y, hy⟩ : ∃ y, b.getD k 0 = y := ⟨_, rfl⟩
        rw [hx] at c1 lx HP2
        rw [hy] at c2 ly HP2
        clear hx hy HP
        have hand : bits BinOp.and IntKind.u32 ((x : Int) + y + cr) 65535 = (((x + y + cr) % 65536 : Nat) : Int) := by
          have := u32_and (x + y + cr) (by omega)
          rw [← this]; simp
        have hcr2 : (x + y + cr) / 65536 ≤ 1 := by omega
        obtain ⟨r, hr⟩ : ∃ r, (x + y + cr) % 65536 = r := ⟨_, rfl⟩
        obtain ⟨q, hq⟩ : ∃ q, (x + y + cr) / 65536 = q := ⟨_, rfl⟩
        have hdiv : ((x : Int) + y + cr) / 65536 = (q : Int) := by omega
        have hq2 : q ≤ 1 := by omega
        rw [hr] at hand HP2
        rw [hq] at HP2 hcr2
        clear hr hq
        have hbw : w.heap.size ≤ (wr.alloc (.cells #[.int .u32 r] 43)).heap.size := by have := hb.size; simp; omega
        go_wp2_with (first | ((with_reducible refine c1.mono ?_); rintro e w' ⟨rfl, rfl⟩) | ((with_reducible refine c2.mono ?_); rintro e w' ⟨rfl, rfl⟩) | (at_builtin; refine wpList_app _ rfl _ _ _ rfl w.heap.size 43 i0 _ 4 Tryd.underlying26 hi0 hz0 hz1 hz2 rfl (by decide) A' k c' _ rfl (hown.alloc _) _ 1 1 _ rfl (Src.lit1 _ _ _ _) (by omega) hbw ?_; intro A2 c2' w2 hown2 hgr2 hat2))
        have hown3 : Own w2 w.heap.size 43 A2 (k + 1) c2' (nums .u32 (out ++ [r])) := by rw [nums_append]; exact hown2
        have hb3 : Below w.heap.size w w2 := (hb.alloc hb.size _).grown hgr2 hbw (fun g hg => (hown.lt g hg).1)
        go_roundw
        case rel => exact ⟨k + 1, A2, c2', q, out ++ [r], by omega, by go_num, rfl, hq2, rfl, hown3, hb3, HP2⟩
        case measure => simp [intOf]; omega
      · have hkn : k = n + 1 := by omega
        subst hkn
        have HK := KEY.out n (by omega) (by omega) out cr HP.out
        have HK := Lib.hid HK
        clear HP
        go_wp2
        go_ret
        exact ⟨_, _, out, rfl, hown, hb, HK.out⟩

end Go.Proofs.YtdconlmpjehohaaDoor
