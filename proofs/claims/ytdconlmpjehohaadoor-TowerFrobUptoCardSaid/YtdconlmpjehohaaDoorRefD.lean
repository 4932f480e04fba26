/- The reference's numbers: Number, Bytes. Conditions: those of each theorem. -/
import Derived.Test.YtdconlmpjehohaaDoorRefC
import Derived.StillTailTactics
namespace Go.Proofs.YtdconlmpjehohaaDoor
open Go.RowKit
set_option linter.unusedVariables false

def wd (V j : Nat) : Nat := V / 65536 ^ j % 65536
def words (K V : Nat) : List Nat := (List.range K).map (wd V)

theorem words_length (K V : Nat) : (words K V).length = K := by simp [words]
theorem words_get (K V j : Nat) (h : j < (words K V).length) : (words K V)[j] = wd V j := by simp [words]
theorem words_W16 (K V : Nat) : W16 (words K V) := fun x hx => by
  simp only [words, List.mem_map] at hx
  obtain ⟨j, _, rfl⟩ := hx
  exact Nat.mod_lt _ (by omega)
theorem le_words : ∀ K V, le (words K V) = V % 65536 ^ K
  | 0, V => by simp [words, le, Nat.mod_one]
  | K + 1, V => by
    have e : words (K + 1) V = words K V ++ [wd V K] := by simp [words, List.range_succ]
    rw [e, le_snoc, le_words K V, words_length, wd, Nat.mod_pow_succ, Nat.mul_comm]

/-- the words of a number that gets a byte at place i -/
theorem words_byte {K V i b : Nat} (hV : V < 256 ^ i) (hb : b < 256) (hi : i / 2 < K) :
    words K (V + b * 256 ^ i) = (words K V).set (i / 2) (wd V (i / 2) + b * 256 ^ (i % 2)) ∧ wd V (i / 2) < 256 ^ (i % 2) := by
  have hp : (256 : Nat) ^ i = 65536 ^ (i / 2) * 256 ^ (i % 2) := by
    conv => lhs; rw [← Nat.div_add_mod i 2]
    rw [Nat.pow_add, Nat.pow_mul]
  have hr : i % 2 = 0 ∨ i % 2 = 1 := by omega
  have hlow : V / 65536 ^ (i / 2) < 256 ^ (i % 2) := by
    rw [Nat.div_lt_iff_lt_mul (Nat.pow_pos (by omega)), Nat.mul_comm, ← hp]; exact hV
  have h256 : (256 : Nat) ^ (i % 2) ≤ 256 := by rcases hr with h | h <;> rw [h] <;> decide
  have hwd : wd V (i / 2) = V / 65536 ^ (i / 2) := Nat.mod_eq_of_lt (by omega)
  refine ⟨?_, by rw [hwd]; exact hlow⟩
  apply List.ext_getElem
  · simp [words]
  · intro j h1 h2
    rw [words_get, List.getElem_set]
    have key : (V + b * 256 ^ i) / 65536 ^ (i / 2) = V / 65536 ^ (i / 2) + b * 256 ^ (i % 2) := by
      rw [hp, show b * (65536 ^ (i / 2) * 256 ^ (i % 2)) = b * 256 ^ (i % 2) * 65536 ^ (i / 2) by ac_rfl, Nat.add_mul_div_right _ _ (Nat.pow_pos (by omega))]
    have hsum : V / 65536 ^ (i / 2) + b * 256 ^ (i % 2) < 65536 := by
      clear key hwd hp
      generalize V / 65536 ^ (i / 2) = t at *
      rcases hr with h | h
      · rw [h] at hlow ⊢; simp at hlow ⊢; omega
      · rw [h] at hlow ⊢; simp at hlow ⊢; omega
    split
    · rename_i he
      subst he
      rw [wd, key, hwd, Nat.mod_eq_of_lt hsum]
    · rename_i hne
      rw [words_get]
      unfold wd
      rcases Nat.lt_or_ge j (i / 2) with hlt | hge
      · obtain ⟨d, hd⟩ : ∃ d, i / 2 = j + 1 + d := ⟨i / 2 - j - 1, by omega⟩
        have e : b * 256 ^ i = b * 256 ^ (i % 2) * 65536 ^ d * 65536 * 65536 ^ j := by
          rw [hp, hd, Nat.pow_add, Nat.pow_succ]
          ac_rfl
        rw [e, Nat.add_mul_div_right _ _ (Nat.pow_pos (by omega)), Nat.add_mul_mod_self_right]
      · obtain ⟨d, hd⟩ : ∃ d, j = i / 2 + (d + 1) := ⟨j - i / 2 - 1, by omega⟩
        rw [hd, Nat.pow_add, ← Nat.div_div_eq_div_mul, ← Nat.div_div_eq_div_mul, key]
        have z : ∀ x : Nat, x < 65536 → x / 65536 ^ (d + 1) = 0 := fun x hx => Nat.div_eq_of_lt (by
          have : 65536 ^ 1 ≤ 65536 ^ (d + 1) := Nat.pow_le_pow_right (by omega) (by omega)
          omega)
        rw [z _ hsum, z _ (by omega)]

theorem be_drop (l : List Nat) {k : Nat} (h : k < l.length) : be (l.drop k) = l[k] * 256 ^ (l.length - 1 - k) + be (l.drop (k + 1)) := by
  rw [List.drop_eq_getElem_cons h, be_cons, List.length_drop]
  congr 3
  omega

theorem u32_or (x y s : Nat) (hx : x < 2 ^ s) (hy : y * 2 ^ s < 4294967296) (hx2 : x < 4294967296) : bits BinOp.or IntKind.u32 (x : Int) ((y * 2 ^ s : Nat) : Int) = ((x + y * 2 ^ s : Nat) : Int) := by
  have h := u32_or_nat x (y * 2 ^ s) hx2 hy
  rw [h]
  congr 1
  rw [Nat.or_comm, nat_or_low y x s hx, Nat.add_comm]

set_option maxHeartbeats 1000000 in
theorem number_calls (A : Option Addr) (l : List Nat) (n c : Nat) (w : World) (hr : Rd w A (nums .u8 l)) (hl : l.length = n) (hb : ∀ x ∈ l, x < 256) (h1 : n ≤ 140737488355328) :
    Calls Tryd.prog 58 #[.slice A n c] w fun e w' => ∃ A', e = .returned (.slice A' ((n + 1) / 2) ((n + 1) / 2)) ∧ Own w' w.heap.size 43 A' ((n + 1) / 2) ((n + 1) / 2) (nums .u32 (words ((n + 1) / 2) (be l))) ∧ Below w.heap.size w w' := by
  obtain ⟨i0, hi0, hz0, hz1, hz2⟩ := info_parts u32_info
  have HL := Lib.hid hl
  have HB := Lib.hid hb
  clear hl hb
  obtain ⟨K, hK⟩ : ∃ K : Nat, (n + 1) / 2 = K := ⟨_, rfl⟩
  have hKI : ((n : Int) + 1) / 2 = (K : Int) := by omega
  rw [hK]
  have q1 : i0.bytes * K ≤ 281474976710656 := by rw [hz2]; omega
  have q2 : K ≤ maxLen := by simp only [maxLen]; omega
  have HK := Lib.hid hK
  clear hK
  go_enter Tryd.func58, Tryd.ntmps58
  have W0 : words K (be (l.drop (n - 0))) = List.replicate K 0 := by
    have hz : be (l.drop (n - 0)) = 0 := by rw [List.drop_eq_nil_of_le (by have := HL.out; omega)]; rfl
    rw [hz]
    apply List.ext_getElem
    · simp [words]
    · intro j h1 h2
      rw [words_get]
      simp [wd]
  have HW0 := Lib.hid W0
  clear W0
  go_wp2_with (at_make; refine wpList_make_full _ rfl _ _ 26 rfl w.heap.size 43 i0 _ 1 Tryd.underlying26 hi0 hz0 hz1 .i64 .i64 _ _ K rfl rfl hKI hKI q1 q2 (Nat.le_refl _) ?_; intro w1 hown hgr)
  rw [made_nums, ← HW0.out] at hown
  clear hi0 hz0 hz1 hz2 q1 q2 hKI HW0
  go_loopw [4] (fun i wr => ∃ k : Nat, k ≤ n ∧ i = .int .i64 k ∧ Own wr w.heap.size 43 (some ⟨w.heap.size, 0, none⟩) K K (nums .u32 (words K (be (l.drop (n - k))))) ∧ Below w.heap.size w wr) (fun i _ => n - (intOf i).toNat)
  case atStart => exact ⟨0, Nat.zero_le _, rfl, hown, (Below.refl _ _).grown hgr (Nat.le_refl _) (by simp)⟩
  case round =>
    clear hown hgr
    obtain ⟨k, hk, rfl, hown, hb⟩ := hrel
    by_cases hlt : k < n
    · have hkl : n - 1 - k < l.length := by have := HL.out; omega
      obtain ⟨bb, oo, rfl, hbl, hcell⟩ := (hr.below hb).num hkl
      have hbyte := HB.out _ (List.getElem_mem hkl)
      have hdr := be_drop l hkl
      rw [HL.out, show n - 1 - (n - 1 - k) = k by omega, show n - 1 - k + 1 = n - k by omega] at hdr
      obtain ⟨V, hV⟩ : ∃ V, be (l.drop (n - k)) = V := ⟨_, rfl⟩
      have hVlt : V < 256 ^ k := by
        have := be_lt (l.drop (n - k)) fun x hx => HB.out x (List.mem_of_mem_drop hx)
        rwa [hV, List.length_drop, HL.out, show n - (n - k) = k by omega] at this
      obtain ⟨b, hbv⟩ : ∃ b, l[n - 1 - k] = b := ⟨_, rfl⟩
      rw [hbv] at hcell hbyte hdr
      rw [hV] at hdr hown
      have hK2 : k / 2 < K := by have := HK.out; omega
      obtain ⟨hset, hlow⟩ := words_byte (K := K) hVlt hbyte hK2
      have hnext : be (l.drop (n - (k + 1))) = V + b * 256 ^ k := by rw [show n - (k + 1) = n - 1 - k by omega, hdr, Nat.add_comm]
      have hce := hown.cellNum (k / 2) (by rw [words_length]; exact hK2)
      rw [words_get] at hce
      have hfr := hown.free (k / 2)
      have hst := hown.storeNum (k / 2) (wd V (k / 2) + b * 256 ^ (k % 2))
      rw [← hset, ← hnext] at hst
      obtain ⟨x, hx⟩ : ∃ x, wd V (k / 2) = x := ⟨_, rfl⟩
      rw [hx] at hce hst hlow
      clear hx hset hnext hV hVlt hbv hdr hown
      have hsub : (n : Int) - 1 - k = ((n - 1 - k : Nat) : Int) := by omega
      obtain ⟨p, hp⟩ : ∃ p : Nat, n - 1 - k = p := ⟨_, rfl⟩
      rw [hp] at hsub hcell
      have hpn : p < n := by omega
      obtain ⟨j, hj⟩ : ∃ j : Nat, k / 2 = j := ⟨_, rfl⟩
      rw [hj] at hce hst hfr hK2
      have hjI : (k : Int) / 2 = (j : Int) := by omega
      have hjK : (j : Int) < K := by omega
      have hpar : k % 2 = 0 ∨ k % 2 = 1 := by omega
      rcases hpar with h2 | h2
      · have h2I : (k : Int) % 2 = 0 := by omega
        rw [h2] at hst hlow
        have hor : bits BinOp.or IntKind.u32 (x : Int) (b : Int) = ((x + b * 256 ^ 0 : Nat) : Int) := by
          have := u32_or x b 0 (by simpa using hlow) (by omega) (by simp at hlow; omega)
          simpa using this
        have hb' := hb.setCell (p := ⟨w.heap.size, j, none⟩) (Nat.le_refl _) (.int .u32 ((x + b * 256 ^ 0 : Nat) : Int))
        obtain ⟨y, hy⟩ : ∃ y, x + b * 256 ^ 0 = y := ⟨_, rfl⟩
        rw [hy] at hor hst hb'
        clear hy hlow h2 hp hj
        go_wp2_with fail
        go_region
        go_wp2
        go_roundw
        case rel => exact ⟨k + 1, by omega, by go_num, hst.keep (fun _ _ => rfl), hb'.drew⟩
        case measure => simp [intOf]; omega
      · have h2I : (k : Int) % 2 = 1 := by omega
        rw [h2] at hst hlow
        have hor : bits BinOp.or IntKind.u32 (x : Int) ((b : Int) * 256) = ((x + b * 256 ^ 1 : Nat) : Int) := by
          have := u32_or x b 8 (by simpa using hlow) (by omega) (by simp at hlow; omega)
          simpa using this
        have hb' := hb.setCell (p := ⟨w.heap.size, j, none⟩) (Nat.le_refl _) (.int .u32 ((x + b * 256 ^ 1 : Nat) : Int))
        obtain ⟨y, hy⟩ : ∃ y, x + b * 256 ^ 1 = y := ⟨_, rfl⟩
        rw [hy] at hor hst hb'
        clear hy hlow h2 hp hj
        go_wp2_with fail
        go_region
        go_wp2
        go_roundw
        case rel => exact ⟨k + 1, by omega, by go_num, hst.keep (fun _ _ => rfl), hb'.drew⟩
        case measure => simp [intOf]; omega
    · have hkn : k = n := by omega
      subst hkn
      rw [Nat.sub_self, List.drop_zero] at hown
      go_wp2
      go_ret
      exact ⟨_, rfl, hown, hb⟩

end Go.Proofs.YtdconlmpjehohaaDoor
