/- The reference's modulus: Hex of its digits. Conditions: those of each theorem. -/
import Derived.Test.YtdconlmpjehohaaDoorRefH
import Derived.Test.YtdconlmpjehohaaDoorFpN
namespace Go.Proofs.YtdconlmpjehohaaDoor
open Go.RowKit
set_option linter.unusedVariables false

/-- the digits, as bytes -/
def hexS : List UInt8 := [49, 97, 48, 49, 49, 49, 101, 97, 51, 57, 55, 102, 101, 54, 57, 97, 52, 98, 49, 98, 97, 55, 98, 54, 52, 51, 52, 98, 97, 99, 100, 55, 54, 52, 55, 55, 52, 98, 56, 52, 102, 51, 56, 53, 49, 50, 98, 102, 54, 55, 51, 48, 100, 50, 97, 48, 102, 54, 98, 48, 102, 54, 50, 52, 49, 101, 97, 98, 102, 102, 102, 101, 98, 49, 53, 51, 102, 102, 102, 102, 98, 57, 102, 101, 102, 102, 102, 102, 102, 102, 102, 102, 97, 97, 97, 98]

/-- the value of a digit -/
def hexD (c : Nat) : Nat := if 97 ≤ c then c - 87 else c - 48

/-- the words of the last n digits -/
def hexW : Nat → List Nat
  | 0 => []
  | n + 1 =>
    let l := if n % 4 = 0 then hexW n ++ [0] else hexW n
    l.set (n / 4) (l.getD (n / 4) 0 + hexD (hexS.getD (95 - n) 0).toNat * 16 ^ (n % 4))

theorem hexS_ok : ∀ n, n < 96 → (48 ≤ (hexS.getD n 0).toNat ∧ (hexS.getD n 0).toNat ≤ 57) ∨ (97 ≤ (hexS.getD n 0).toNat ∧ (hexS.getD n 0).toNat ≤ 102) := by decide +kernel

theorem hexW_ok : ∀ n, n ≤ 96 → (hexW n).length = (n + 3) / 4 ∧ ∀ x ∈ hexW n, x < 65536 := by decide +kernel

theorem hexW_low : ∀ n, n < 96 → (if n % 4 = 0 then hexW n ++ [0] else hexW n).getD (n / 4) 0 < 16 ^ (n % 4) := by decide +kernel

theorem hexW_le : le (hexW 96) = fpQ := by decide +kernel

theorem hexW_step {k j r cb : Nat} (hk : k < 96) (hj : k / 4 = j) (hr : k % 4 = r) (hc : (hexS.getD (95 - k) 0).toNat = cb) :
    ∃ l x, l = (if r = 0 then hexW k ++ [0] else hexW k) ∧ l.length = j + 1 ∧ l.getD j 0 = x ∧ x < 16 ^ r ∧ hexW (k + 1) = l.set j (x + hexD cb * 16 ^ r) := by
  subst hj hr hc
  refine ⟨_, _, rfl, ?_, rfl, hexW_low k hk, rfl⟩
  have := (hexW_ok k (by omega)).1
  split
  · rw [List.length_append, this, List.length_singleton]; omega
  · rw [this]; omega

theorem hexS_get (S : ByteArray) (hS : S = ⟨hexS.toArray⟩) (p : Nat) (h : p < S.size) : (S[p]'h).toNat = (hexS.getD p 0).toNat := by
  subst hS
  have h' : p < hexS.length := h
  show ((hexS.toArray)[p]'h).toNat = _
  simp [List.getD, h']

set_option maxRecDepth 10000 in
set_option maxHeartbeats 1000000 in
theorem hex_calls (S : ByteArray) (hS : S = ⟨hexS.toArray⟩) (w : World) :
    Calls Tryd.prog 71 #[.string S] w fun e w' => ∃ A' c' out, e = .returned (.slice A' 24 c') ∧ Own w' w.heap.size 43 A' 24 c' (nums .u32 out) ∧ Below w.heap.size w w' ∧ W16 out ∧ out.length = 24 ∧ le out = fpQ := by
  obtain ⟨i0, hi0, hz0, hz1, hz2⟩ := info_parts u32_info
  have hsz : S.size = 96 := by rw [hS]; rfl
  have HS := Lib.hid hS
  clear hS
  go_enter Tryd.func71, Tryd.ntmps71
  go_wp2
  go_loopw [3, 4, 5] (fun v nv iv wr => ∃ (k : Nat) (A' : Option Addr) (c' : Nat) (out : List Nat) (m : Nat), k ≤ 96 ∧ nv = .int .i64 k ∧ iv = .int .i64 (95 - (k : Int)) ∧ v = .slice A' m c' ∧ Own wr w.heap.size 43 A' m c' (nums .u32 out) ∧ Below w.heap.size w wr ∧ Hid (out = hexW k ∧ m = (k + 3) / 4)) (fun _ _ iv _ => (intOf iv + 1).toNat)
  case atStart => exact ⟨0, _, 0, [], 0, by omega, rfl, by go_num, rfl, Own.litAt w [] 43 rfl (Nat.le_refl _) rfl (by simp [maxLen]), below_alloc _ _, rfl, rfl⟩
  case round =>
    obtain ⟨k, A', c', out, m, hk, rfl, rfl, rfl, hown, hb, HP⟩ := hrel
    by_cases hlt : k < 96
    · obtain ⟨p, hp⟩ : ∃ p : Nat, (95 : Int) - k = p := ⟨95 - k, by omega⟩
      have hp' : p < 96 := by omega
      have hp2 : 95 - k = p := by omega
      rw [hp]
      have hget := hexS_get S HS.out p (by omega)
      obtain ⟨cb, hcb⟩ : ∃ cb, (hexS.getD p 0).toNat = cb := ⟨_, rfl⟩
      have hdig := hexS_ok p hp'
      rw [hcb] at hget hdig
      obtain ⟨j, hj⟩ : ∃ j, k / 4 = j := ⟨_, rfl⟩
      obtain ⟨r, hr⟩ : ∃ r, k % 4 = r := ⟨_, rfl⟩
      obtain ⟨l, x, hl, hll, hx, hx16, hnext⟩ := hexW_step (cb := cb) hlt hj hr (by rw [hp2]; exact hcb)
      have hjI : (k : Int) / 4 = (j : Int) := by omega
      have hd : ∃ d, d < 16 ∧ hexD cb = d ∧ ((97 ≤ cb ∧ d = cb - 87) ∨ (cb ≤ 57 ∧ 48 ≤ cb ∧ d = cb - 48)) := by
        unfold hexD
        rcases hdig with h | h
        · refine ⟨cb - 48, by omega, by rw [if_neg (by omega)], .inr (by omega)⟩
        · refine ⟨cb - 87, by omega, by rw [if_pos (by omega)], .inl (by omega)⟩
      obtain ⟨d, hd16, hde, hdd⟩ := hd
      rw [hde] at hnext
      obtain ⟨ho, hm⟩ := HP.out
      have HN := Lib.hid hnext
      have HL := Lib.hid hl
      have HLL := Lib.hid hll
      have HX := Lib.hid hx
      have HJ := Lib.hid hj
      have HM := Lib.hid hm
      have HO := Lib.hid ho
      have hmj : if r = 0 then m = j else m = j + 1 := by split <;> omega
      have hm24 : m ≤ 24 := by omega
      clear hl hll hx hj hnext hde hdig hcb HP hm ho
      have hr4 : r = 0 ∨ r = 1 ∨ r = 2 ∨ r = 3 := by omega
      rcases hr4 with rfl | rfl | rfl | rfl
      · have hrI : (k : Int) % 4 = 0 := by omega
        rw [if_pos rfl] at hmj
        subst hmj
        have hx0 : x = 0 := by simpa using hx16
        subst hx0
        clear hr
        rcases hdd with ⟨h1, h2⟩ | ⟨h1, h3, h2⟩
        · have hdI : (cb : Int) - 97 + 10 = (d : Int) := by omega
          clear h2
          have hbw : w.heap.size ≤ (wr.alloc (.cells #[.int .u32 0] 43)).heap.size := by have := hb.size; simp; omega
          have HL0 : Hid (l = hexW k ++ [0]) := by show _ = _; rw [HL.out, if_pos rfl]
          have hlen : m < l.length := by have := HLL.out; omega
          have HP2 : Hid (l.set m (0 + d * 16 ^ 0) = hexW (k + 1) ∧ m + 1 = (k + 1 + 3) / 4) := ⟨HN.out.symm, by omega⟩
          obtain ⟨y, hy⟩ : ∃ y, 0 + d * 16 ^ 0 = y := ⟨_, rfl⟩
          have hor : bits BinOp.or IntKind.u32 0 (d : Int) = (y : Int) := by
            rw [← hy]; have h := u32_or 0 d 0 (by simp) (by omega) (by omega); simp only [Nat.pow_zero, Nat.mul_one, Nat.zero_add] at h ⊢; exact h
          rw [hy] at HP2
          clear hy
          go_wp2_with (first | (at_builtin; refine wpList_app _ rfl _ _ _ rfl w.heap.size 43 i0 _ 4 Tryd.underlying26 hi0 hz0 hz1 hz2 rfl (by decide) A' m c' _ rfl (hown.alloc _) _ 1 1 _ rfl (Src.lit1 _ _ _ _) (by omega) hbw ?_; intro A2 c2' w2 hown2 hgr2 hat2; go_loud (have hown3 : Own w2 w.heap.size 43 A2 (m + 1) c2' (nums .u32 l) := (by rw [HL0.out, ← HO.out, nums_append]; exact hown2); have hb3 : Below w.heap.size w w2 := (hb.alloc hb.size _).grown hgr2 hbw (fun g hg => (hown.lt g hg).1); have hAe : ∃ g0 o0, A2 = some ⟨g0, o0, none⟩ := (by obtain ⟨g0, o0, h, _⟩ := hown3.rd.num hlen; exact ⟨g0, o0, h⟩); obtain ⟨g0, o0, rfl⟩ := hAe; obtain rfl := hown3.zero; have hgl := hown3.lt g0 rfl; have hce := hown3.cellNum m hlen; rw [← getD_get hlen, HX.out] at hce; have hfr := hown3.free m; have hst := hown3.storeNum m y; have hb' := hb3.setCell (p := ⟨g0, m, none⟩) hgl.1 (.int .u32 (y : Int)); clear hown2 hown hb hgr2 hat2)))
          go_roundw
          case rel => exact ⟨k + 1, _, c2', _, m + 1, by omega, by go_num, by go_num, rfl, hst, hb', HP2⟩
          case measure => simp [intOf] <;> omega
        · have hdI : (cb : Int) - 48 = (d : Int) := by omega
          clear h2
          have hbw : w.heap.size ≤ (wr.alloc (.cells #[.int .u32 0] 43)).heap.size := by have := hb.size; simp; omega
          have HL0 : Hid (l = hexW k ++ [0]) := by show _ = _; rw [HL.out, if_pos rfl]
          have hlen : m < l.length := by have := HLL.out; omega
          have HP2 : Hid (l.set m (0 + d * 16 ^ 0) = hexW (k + 1) ∧ m + 1 = (k + 1 + 3) / 4) := ⟨HN.out.symm, by omega⟩
          obtain ⟨y, hy⟩ : ∃ y, 0 + d * 16 ^ 0 = y := ⟨_, rfl⟩
          have hor : bits BinOp.or IntKind.u32 0 (d : Int) = (y : Int) := by
            rw [← hy]; have h := u32_or 0 d 0 (by simp) (by omega) (by omega); simp only [Nat.pow_zero, Nat.mul_one, Nat.zero_add] at h ⊢; exact h
          rw [hy] at HP2
          clear hy
          go_wp2_with (first | (at_builtin; refine wpList_app _ rfl _ _ _ rfl w.heap.size 43 i0 _ 4 Tryd.underlying26 hi0 hz0 hz1 hz2 rfl (by decide) A' m c' _ rfl (hown.alloc _) _ 1 1 _ rfl (Src.lit1 _ _ _ _) (by omega) hbw ?_; intro A2 c2' w2 hown2 hgr2 hat2; go_loud (have hown3 : Own w2 w.heap.size 43 A2 (m + 1) c2' (nums .u32 l) := (by rw [HL0.out, ← HO.out, nums_append]; exact hown2); have hb3 : Below w.heap.size w w2 := (hb.alloc hb.size _).grown hgr2 hbw (fun g hg => (hown.lt g hg).1); have hAe : ∃ g0 o0, A2 = some ⟨g0, o0, none⟩ := (by obtain ⟨g0, o0, h, _⟩ := hown3.rd.num hlen; exact ⟨g0, o0, h⟩); obtain ⟨g0, o0, rfl⟩ := hAe; obtain rfl := hown3.zero; have hgl := hown3.lt g0 rfl; have hce := hown3.cellNum m hlen; rw [← getD_get hlen, HX.out] at hce; have hfr := hown3.free m; have hst := hown3.storeNum m y; have hb' := hb3.setCell (p := ⟨g0, m, none⟩) hgl.1 (.int .u32 (y : Int)); clear hown2 hown hb hgr2 hat2)))
          go_roundw
          case rel => exact ⟨k + 1, _, c2', _, m + 1, by omega, by go_num, by go_num, rfl, hst, hb', HP2⟩
          case measure => simp [intOf] <;> omega
      · have hrI : (k : Int) % 4 = 1 := by omega
        rw [if_neg (by omega)] at hmj
        subst hmj
        clear hr
        rcases hdd with ⟨h1, h2⟩ | ⟨h1, h3, h2⟩
        · have hdI : (cb : Int) - 97 + 10 = (d : Int) := by omega
          clear h2
          have hown3 : Own wr w.heap.size 43 A' (j + 1) c' (nums .u32 l) := by rw [HL.out, if_neg (by omega), ← HO.out]; exact hown
          have hb3 := hb
          have hlen : j < l.length := by have := HLL.out; omega
          have HP2 : Hid (l.set j (x + d * 16 ^ 1) = hexW (k + 1) ∧ j + 1 = (k + 1 + 3) / 4) := ⟨HN.out.symm, by omega⟩
          obtain ⟨y, hy⟩ : ∃ y, x + d * 16 ^ 1 = y := ⟨_, rfl⟩
          have hor : bits BinOp.or IntKind.u32 (x : Int) ((d : Int) * 16) = (y : Int) := by
            have h := u32_or x d 4 (by simpa using hx16) (by omega) (by simp at hx16; omega)
            rw [← hy]; simpa using h
          rw [hy] at HP2
          clear hy
          have hAe : ∃ g0 o0, A' = some ⟨g0, o0, none⟩ := (by obtain ⟨g0, o0, h, _⟩ := hown3.rd.num hlen; exact ⟨g0, o0, h⟩)
          obtain ⟨g0, o0, rfl⟩ := hAe
          obtain rfl := hown3.zero
          have hgl := hown3.lt g0 rfl
          have hce := hown3.cellNum j hlen
          rw [← getD_get hlen, HX.out] at hce
          have hfr := hown3.free j
          have hst := hown3.storeNum j y
          have hb' := hb3.setCell (p := ⟨g0, j, none⟩) hgl.1 (.int .u32 (y : Int))
          go_wp2_with fail
          go_roundw
          case rel => exact ⟨k + 1, _, c', _, j + 1, by omega, by go_num, by go_num, rfl, hst, hb', HP2⟩
          case measure => simp [intOf] <;> omega
        · have hdI : (cb : Int) - 48 = (d : Int) := by omega
          clear h2
          have hown3 : Own wr w.heap.size 43 A' (j + 1) c' (nums .u32 l) := by rw [HL.out, if_neg (by omega), ← HO.out]; exact hown
          have hb3 := hb
          have hlen : j < l.length := by have := HLL.out; omega
          have HP2 : Hid (l.set j (x + d * 16 ^ 1) = hexW (k + 1) ∧ j + 1 = (k + 1 + 3) / 4) := ⟨HN.out.symm, by omega⟩
          obtain ⟨y, hy⟩ : ∃ y, x + d * 16 ^ 1 = y := ⟨_, rfl⟩
          have hor : bits BinOp.or IntKind.u32 (x : Int) ((d : Int) * 16) = (y : Int) := by
            have h := u32_or x d 4 (by simpa using hx16) (by omega) (by simp at hx16; omega)
            rw [← hy]; simpa using h
          rw [hy] at HP2
          clear hy
          have hAe : ∃ g0 o0, A' = some ⟨g0, o0, none⟩ := (by obtain ⟨g0, o0, h, _⟩ := hown3.rd.num hlen; exact ⟨g0, o0, h⟩)
          obtain ⟨g0, o0, rfl⟩ := hAe
          obtain rfl := hown3.zero
          have hgl := hown3.lt g0 rfl
          have hce := hown3.cellNum j hlen
          rw [← getD_get hlen, HX.out] at hce
          have hfr := hown3.free j
          have hst := hown3.storeNum j y
          have hb' := hb3.setCell (p := ⟨g0, j, none⟩) hgl.1 (.int .u32 (y : Int))
          go_wp2_with fail
          go_roundw
          case rel => exact ⟨k + 1, _, c', _, j + 1, by omega, by go_num, by go_num, rfl, hst, hb', HP2⟩
          case measure => simp [intOf] <;> omega
      · have hrI : (k : Int) % 4 = 2 := by omega
        rw [if_neg (by omega)] at hmj
        subst hmj
        clear hr
        rcases hdd with ⟨h1, h2⟩ | ⟨h1, h3, h2⟩
        · have hdI : (cb : Int) - 97 + 10 = (d : Int) := by omega
          clear h2
          have hown3 : Own wr w.heap.size 43 A' (j + 1) c' (nums .u32 l) := by rw [HL.out, if_neg (by omega), ← HO.out]; exact hown
          have hb3 := hb
          have hlen : j < l.length := by have := HLL.out; omega
          have HP2 : Hid (l.set j (x + d * 16 ^ 2) = hexW (k + 1) ∧ j + 1 = (k + 1 + 3) / 4) := ⟨HN.out.symm, by omega⟩
          obtain ⟨y, hy⟩ : ∃ y, x + d * 16 ^ 2 = y := ⟨_, rfl⟩
          have hor : bits BinOp.or IntKind.u32 (x : Int) ((d : Int) * 256) = (y : Int) := by
            have h := u32_or x d 8 (by simpa using hx16) (by omega) (by simp at hx16; omega)
            rw [← hy]; simpa using h
          rw [hy] at HP2
          clear hy
          have hAe : ∃ g0 o0, A' = some ⟨g0, o0, none⟩ := (by obtain ⟨g0, o0, h, _⟩ := hown3.rd.num hlen; exact ⟨g0, o0, h⟩)
          obtain ⟨g0, o0, rfl⟩ := hAe
          obtain rfl := hown3.zero
          have hgl := hown3.lt g0 rfl
          have hce := hown3.cellNum j hlen
          rw [← getD_get hlen, HX.out] at hce
          have hfr := hown3.free j
          have hst := hown3.storeNum j y
          have hb' := hb3.setCell (p := ⟨g0, j, none⟩) hgl.1 (.int .u32 (y : Int))
          go_wp2_with fail
          go_roundw
          case rel => exact ⟨k + 1, _, c', _, j + 1, by omega, by go_num, by go_num, rfl, hst, hb', HP2⟩
          case measure => simp [intOf] <;> omega
        · have hdI : (cb : Int) - 48 = (d : Int) := by omega
          clear h2
          have hown3 : Own wr w.heap.size 43 A' (j + 1) c' (nums .u32 l) := by rw [HL.out, if_neg (by omega), ← HO.out]; exact hown
          have hb3 := hb
          have hlen : j < l.length := by have := HLL.out; omega
          have HP2 : Hid (l.set j (x + d * 16 ^ 2) = hexW (k + 1) ∧ j + 1 = (k + 1 + 3) / 4) := ⟨HN.out.symm, by omega⟩
          obtain ⟨y, hy⟩ : ∃ y, x + d * 16 ^ 2 = y := ⟨_, rfl⟩
          have hor : bits BinOp.or IntKind.u32 (x : Int) ((d : Int) * 256) = (y : Int) := by
            have h := u32_or x d 8 (by simpa using hx16) (by omega) (by simp at hx16; omega)
            rw [← hy]; simpa using h
          rw [hy] at HP2
          clear hy
          have hAe : ∃ g0 o0, A' = some ⟨g0, o0, none⟩ := (by obtain ⟨g0, o0, h, _⟩ := hown3.rd.num hlen; exact ⟨g0, o0, h⟩)
          obtain ⟨g0, o0, rfl⟩ := hAe
          obtain rfl := hown3.zero
          have hgl := hown3.lt g0 rfl
          have hce := hown3.cellNum j hlen
          rw [← getD_get hlen, HX.out] at hce
          have hfr := hown3.free j
          have hst := hown3.storeNum j y
          have hb' := hb3.setCell (p := ⟨g0, j, none⟩) hgl.1 (.int .u32 (y : Int))
          go_wp2_with fail
          go_roundw
          case rel => exact ⟨k + 1, _, c', _, j + 1, by omega, by go_num, by go_num, rfl, hst, hb', HP2⟩
          case measure => simp [intOf] <;> omega
      · have hrI : (k : Int) % 4 = 3 := by omega
        rw [if_neg (by omega)] at hmj
        subst hmj
        clear hr
        rcases hdd with ⟨h1, h2⟩ | ⟨h1, h3, h2⟩
        · have hdI : (cb : Int) - 97 + 10 = (d : Int) := by omega
          clear h2
          have hown3 : Own wr w.heap.size 43 A' (j + 1) c' (nums .u32 l) := by rw [HL.out, if_neg (by omega), ← HO.out]; exact hown
          have hb3 := hb
          have hlen : j < l.length := by have := HLL.out; omega
          have HP2 : Hid (l.set j (x + d * 16 ^ 3) = hexW (k + 1) ∧ j + 1 = (k + 1 + 3) / 4) := ⟨HN.out.symm, by omega⟩
          obtain ⟨y, hy⟩ : ∃ y, x + d * 16 ^ 3 = y := ⟨_, rfl⟩
          have hor : bits BinOp.or IntKind.u32 (x : Int) ((d : Int) * 4096) = (y : Int) := by
            have h := u32_or x d 12 (by simpa using hx16) (by omega) (by simp at hx16; omega)
            rw [← hy]; simpa using h
          rw [hy] at HP2
          clear hy
          have hAe : ∃ g0 o0, A' = some ⟨g0, o0, none⟩ := (by obtain ⟨g0, o0, h, _⟩ := hown3.rd.num hlen; exact ⟨g0, o0, h⟩)
          obtain ⟨g0, o0, rfl⟩ := hAe
          obtain rfl := hown3.zero
          have hgl := hown3.lt g0 rfl
          have hce := hown3.cellNum j hlen
          rw [← getD_get hlen, HX.out] at hce
          have hfr := hown3.free j
          have hst := hown3.storeNum j y
          have hb' := hb3.setCell (p := ⟨g0, j, none⟩) hgl.1 (.int .u32 (y : Int))
          go_wp2_with fail
          go_roundw
          case rel => exact ⟨k + 1, _, c', _, j + 1, by omega, by go_num, by go_num, rfl, hst, hb', HP2⟩
          case measure => simp [intOf] <;> omega
        · have hdI : (cb : Int) - 48 = (d : Int) := by omega
          clear h2
          have hown3 : Own wr w.heap.size 43 A' (j + 1) c' (nums .u32 l) := by rw [HL.out, if_neg (by omega), ← HO.out]; exact hown
          have hb3 := hb
          have hlen : j < l.length := by have := HLL.out; omega
          have HP2 : Hid (l.set j (x + d * 16 ^ 3) = hexW (k + 1) ∧ j + 1 = (k + 1 + 3) / 4) := ⟨HN.out.symm, by omega⟩
          obtain ⟨y, hy⟩ : ∃ y, x + d * 16 ^ 3 = y := ⟨_, rfl⟩
          have hor : bits BinOp.or IntKind.u32 (x : Int) ((d : Int) * 4096) = (y : Int) := by
            have h := u32_or x d 12 (by simpa using hx16) (by omega) (by simp at hx16; omega)
            rw [← hy]; simpa using h
          rw [hy] at HP2
          clear hy
          have hAe : ∃ g0 o0, A' = some ⟨g0, o0, none⟩ := (by obtain ⟨g0, o0, h, _⟩ := hown3.rd.num hlen; exact ⟨g0, o0, h⟩)
          obtain ⟨g0, o0, rfl⟩ := hAe
          obtain rfl := hown3.zero
          have hgl := hown3.lt g0 rfl
          have hce := hown3.cellNum j hlen
          rw [← getD_get hlen, HX.out] at hce
          have hfr := hown3.free j
          have hst := hown3.storeNum j y
          have hb' := hb3.setCell (p := ⟨g0, j, none⟩) hgl.1 (.int .u32 (y : Int))
          go_wp2_with fail
          go_roundw
          case rel => exact ⟨k + 1, _, c', _, j + 1, by omega, by go_num, by go_num, rfl, hst, hb', HP2⟩
          case measure => simp [intOf] <;> omega
    · have hkn : k = 96 := by omega
      subst hkn
      obtain ⟨ho, hm⟩ := HP.out
      have hm : m = 24 := by omega
      subst hm
      have HO := Lib.hid ho
      clear ho HP
      go_wp2
      go_ret
      refine ⟨_, _, rfl, out, hown, hb, ?_, ?_, ?_⟩
      · rw [HO.out]; exact (hexW_ok 96 (by omega)).2
      · rw [HO.out]; exact (hexW_ok 96 (by omega)).1
      · rw [HO.out]; exact hexW_le

set_option maxRecDepth 10000 in
theorem modulus_calls (w : World) :
    Calls Tryd.prog 55 #[] w fun e w' => ∃ A' c' out, e = .returned (.slice A' 24 c') ∧ Own w' w.heap.size 43 A' 24 c' (nums .u32 out) ∧ Below w.heap.size w w' ∧ W16 out ∧ out.length = 24 ∧ le out = fpQ := by
  have h := hex_calls _ rfl w
  go_enter Tryd.func55, Tryd.ntmps55
  go_wp2_with fail
  refine h.mono ?_
  rintro e w' ⟨A', c', out, rfl, h1, h2, h3⟩
  clear h
  go_wp2
  go_ret
  exact ⟨A', c', out, rfl, h1, h2, h3⟩

end Go.Proofs.YtdconlmpjehohaaDoor
