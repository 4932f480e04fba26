/- The walks of cressetref16.Same, Copy, word and Bytes. Conditions: those of each theorem. -/
import Derived.Test.YtkdimoijfkikoaaWireck
import Derived.Test.YtkdimoijfkikoaaBasf
import Derived.Deep.RegionLaw
import Derived.Deep.RegionWith
namespace Go.Proofs.Ytkdimoijfkikoaa
open Go.RowKit
set_option linter.unusedVariables false

/-- the same message -/
def SameMsg (k ep fr wh tp rd k' ep' fr' wh' tp' rd' : Int) (l l' : List Nat) : Bool :=
  decide (k = k' ∧ ep = ep' ∧ fr = fr' ∧ wh = wh' ∧ tp = tp' ∧ rd = rd' ∧ l = l')

set_option maxHeartbeats 4000000 in
theorem same16_calls (k ep fr wh tp rd k' ep' fr' wh' tp' rd' : Int) (A A' : Option Addr) (n n' c c' : Nat) (l l' : List Nat) (w : World)
    (hl : l.length = n) (hl' : l'.length = n') (hn : n ≤ 140737488355328) (hn' : n' ≤ 140737488355328) (h1 : Rd w A (nums .u8 l)) (h2 : Rd w A' (nums .u8 l')) :
    Calls Try.prog 11 #[.agg #[.int .i64 k, .int .i64 ep, .int .i64 fr, .int .i64 wh, .int .i64 tp, .int .i64 rd, .slice A n c],
      .agg #[.int .i64 k', .int .i64 ep', .int .i64 fr', .int .i64 wh', .int .i64 tp', .int .i64 rd', .slice A' n' c']] w fun e w' =>
      e = .returned (.bool (SameMsg k ep fr wh tp rd k' ep' fr' wh' tp' rd' l l')) ∧ Below w.heap.size w w' := by
  subst hl hl'
  go_enter Try.func11, Try.ntmps11
  go_wp2_with (go_at_call 13; refine (same_calls A A' l l' c c' _ ((h1.alloc _).alloc _) ((h2.alloc _).alloc _) hn hn').mono ?_; rintro e w1 ⟨rfl, nd, rfl⟩)
  all_goals (go_ret; refine ⟨ret_bool ?_, ?_⟩)
  all_goals first
    | exact ((Below.refl _ _).alloc (Nat.le_refl _) _).alloc (by simp) _
    | exact below_drewN (((Below.refl _ _).alloc (Nat.le_refl _) _).alloc (by simp) _) _
    | (simp [SameMsg, SameB, *])

theorem msg_size : (Try.prog.info? 24).map (·.size) = some 7 := by kernel_rfl

set_option maxHeartbeats 4000000 in
theorem copy16_calls (k ep fr wh tp rd : Int) (A : Option Addr) (n c : Nat) (l : List Nat) (w : World)
    (hl : l.length = n) (hn : n ≤ 140737488355328) (h1 : Rd w A (nums .u8 l)) :
    Calls Try.prog 8 #[.agg #[.int .i64 k, .int .i64 ep, .int .i64 fr, .int .i64 wh, .int .i64 tp, .int .i64 rd, .slice A n c]] w fun e w' =>
      ∃ A' c', e = .returned (.agg #[.int .i64 k, .int .i64 ep, .int .i64 fr, .int .i64 wh, .int .i64 tp, .int .i64 rd, .slice A' n c']) ∧ Own w' w.heap.size 5 A' n c' (nums .u8 l) ∧ Below w.heap.size w w' := by
  subst hl
  go_enter Try.func8, Try.ntmps8
  go_wp2_with fail
  refine (copy_calls A l c _ ((h1.alloc _).alloc _) hn).mono ?_
  rintro e w1 ⟨A1, c1, rfl, hown, hb⟩
  have hz := hb.size
  simp only [World.size_alloc] at hz
  have b1 := ((Bk.new w 24 _).alloc _).under hb
  have b2 := (Bk.new1 _ _ _ (World.size_alloc _ _).symm).under hb
  have c1f := b1.cell 6
  have f1f := b1.free 6
  have b3 := b1.set_ 6 (.slice A1 l.length c1)
  have b4 := b2.far (p := ⟨w.heap.size, 6, none⟩) (by simp) (.slice A1 l.length c1)
  have hown' : Own w1 w.heap.size 5 A1 l.length c1 (nums .u8 l) := hown.from_ (by simp; omega)
  have hb' : Below w.heap.size w w1 := (((Below.refl _ _).alloc (Nat.le_refl _) _).alloc (by simp) _).trans (hb.mono (by simp; omega))
  clear hb
  simp at c1f b3
  have m7 := msg_size
  go_wp2_with (first | (refine wpList_load_row rfl _ _ rfl _ rfl _ _ _ _ b3 Try.underlying24 rfl m7 ?_) | (refine wpList_store_row rfl _ _ _ rfl _ _ rfl rfl _ _ b4 m7 rfl (by simp [Value.oneCell']) ?_))
  have b5 := b4.row #[Value.int .i64 k, .int .i64 ep, .int .i64 fr, .int .i64 wh, .int .i64 tp, .int .i64 rd, .slice A1 l.length c1]
  refine bodyPost_ret (results_cell_row rfl _ _ (w.heap.size + 1) _ _ _ _ rfl b5 Try.underlying24 rfl m7) rfl ⟨A1, c1, rfl, ?_, ?_⟩
  · exact ((hown.cellUnder (p := ⟨w.heap.size, 6, none⟩) (by simp; omega) _).rowUnder (by simp) _).from_ (by simp; omega)
  · exact below_setRow (hb'.setCell (p := ⟨w.heap.size, 6, none⟩) (by simp) _) (by omega) _

set_option maxHeartbeats 400000 in
theorem word_calls (x n : Nat) (w : World) (hn : n ≤ 8) (hx : x < 9223372036854775808) :
    Calls Try.prog 18 #[.int .i64 x, .int .i64 n] w fun e w' => ∃ A' c', e = .returned (.slice A' n c') ∧ Own w' w.heap.size 5 A' n c' (nums .u8 (digs n x)) ∧ Below w.heap.size w w' := by
  obtain ⟨i0, hi0, hz0, hz1, hz2⟩ := info_parts u8_info
  go_enter Try.func18, Try.ntmps18
  go_wp2
  have h0 : Own (w.alloc (.cells #[] 5)) w.heap.size 5 (some ⟨w.heap.size, 0, none⟩) 0 0 [] := Own.lit w [] 5 (Nat.le_refl _) rfl (by simp [maxLen])
  go_loopw [5, 6] (fun v i wr => ∃ (k : Nat) (A' : Option Addr) (c' : Nat), k ≤ n ∧ i = .int .i64 ((n : Int) - 1 - k) ∧ v = .slice A' k c' ∧ Own wr w.heap.size 5 A' k c' (nums .u8 ((digs n x).take k)) ∧ Below w.heap.size w wr) (fun _ i _ => (intOf i + 1).toNat)
  case atStart => exact ⟨0, _, _, Nat.zero_le _, by simp, rfl, by simpa [nums] using h0, below_alloc _ _⟩
  case round =>
    clear h0
    obtain ⟨k, A', c', hk, rfl, rfl, hown, hb⟩ := hrel
    by_cases hlt : k < n
    · have hpos : 0 ≤ (n : Int) - 1 - k := by omega
      have hbw : w.heap.size ≤ (wr.alloc (.cells #[.int .u8 ((x : Int) / 2 ^ (8 * (n - 1 - k)) % 256)] 5)).heap.size := by have := hb.size; simp; omega
      go_wp2_with (at_builtin; refine wpList_app _ rfl _ _ _ rfl w.heap.size 5 i0 _ 1 Try.underlying22 hi0 hz0 hz1 hz2 rfl (by decide) A' k c' _ rfl (hown.alloc _) _ 1 1 _ rfl (Src.lit1 _ _ _ _) (by omega) hbw ?_; intro A2 c2 w2 hown2 hgr2 hat2)
      have hd : Value.int .u8 ((x : Int) / 2 ^ (8 * (n - 1 - k)) % 256) = .int .u8 (((digs n x)[k]'(by rw [digs_length]; exact hlt) : Nat) : Int) := by rw [digs_int hlt]
      rw [hd, show [Value.int .u8 (((digs n x)[k]'(by rw [digs_length]; exact hlt) : Nat) : Int)] = nums .u8 [(digs n x)[k]'(by rw [digs_length]; exact hlt)] from rfl, ← nums_append, ← digs_take hlt] at hown2
      have hb2 : Below w.heap.size w w2 := (hb.alloc hb.size _).grown hgr2 hbw (fun g hg => (hown.lt g hg).1)
      clear hd hown hb hat2 hgr2
      go_wp2
      go_roundw
      case rel => exact ⟨k + 1, A2, c2, by omega, by go_num, rfl, hown2, hb2⟩
      case measure => simp [intOf]; omega
    · have hneg : (n : Int) - 1 - k < 0 := by omega
      obtain rfl : k = n := by omega
      rw [List.take_of_length_le (by rw [digs_length]; exact Nat.le_refl _)] at hown
      go_wp2
      go_ret
      exact ⟨_, _, rfl, hown, hb⟩

/-- the bytes of a message -/
def msgBytes (k ep fr wh tp rd : Nat) (l : List Nat) : List Nat :=
  [k % 256] ++ digs 4 ep ++ [fr % 256, wh % 256, tp % 256] ++ digs 8 rd ++ digs 2 l.length ++ l

end Go.Proofs.Ytkdimoijfkikoaa
