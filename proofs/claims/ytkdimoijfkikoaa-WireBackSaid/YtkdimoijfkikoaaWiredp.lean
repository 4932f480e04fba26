/- What Decode answers, as a plain function of the bytes, and that it undoes the writing of a message. Conditions: those of each theorem. -/
import Derived.Test.YtkdimoijfkikoaaWirede
namespace Go.Proofs.Ytkdimoijfkikoaa
open Go.RowKit
set_option linter.unusedVariables false

/-- the error that Decode answers -/
def decE (l : List Nat) : Nat :=
  if l.length < 18 then 16
  else if l.length < 18 + be ((l.drop 16).take 2) then 16
  else if 18 + be ((l.drop 16).take 2) < l.length then 17
  else if 1099511627776 < be ((l.drop 8).take 8) then 60
  else if MsgOk (l.getD 0 0) (be ((l.drop 1).take 4)) (l.getD 5 0) (l.getD 6 0) (l.getD 7 0) (be ((l.drop 8).take 8)) (l.length - 18) then 0 else 60

theorem decE_zero {l : List Nat} (h : decE l = 0) : 18 ≤ l.length ∧ l.length = 18 + be ((l.drop 16).take 2) ∧ be ((l.drop 8).take 8) ≤ 1099511627776 ∧ MsgOk (l.getD 0 0) (be ((l.drop 1).take 4)) (l.getD 5 0) (l.getD 6 0) (l.getD 7 0) (be ((l.drop 8).take 8)) (l.length - 18) := by
  unfold decE at h
  by_cases h1 : l.length < 18
  · rw [if_pos h1] at h; omega
  rw [if_neg h1] at h
  by_cases h2 : l.length < 18 + be ((l.drop 16).take 2)
  · rw [if_pos h2] at h; omega
  rw [if_neg h2] at h
  by_cases h3 : 18 + be ((l.drop 16).take 2) < l.length
  · rw [if_pos h3] at h; omega
  rw [if_neg h3] at h
  by_cases h4 : 1099511627776 < be ((l.drop 8).take 8)
  · rw [if_pos h4] at h; omega
  rw [if_neg h4] at h
  by_cases h5 : MsgOk (l.getD 0 0) (be ((l.drop 1).take 4)) (l.getD 5 0) (l.getD 6 0) (l.getD 7 0) (be ((l.drop 8).take 8)) (l.length - 18)
  · exact ⟨by omega, by omega, by omega, h5⟩
  · rw [if_neg h5] at h; omega

theorem cons1 {l : List Nat} {n : Nat} (h : n + 1 ≤ l.length) : ∃ a t, l = a :: t ∧ n ≤ t.length := by
  cases l with
  | nil => simp at h
  | cons a t => exact ⟨a, t, rfl, by simpa using h⟩
theorem list18 {l : List Nat} (h : 18 ≤ l.length) : ∃ a0 a1 a2 a3 a4 a5 a6 a7 a8 a9 b0 b1 b2 b3 b4 b5 b6 b7 t, l = a0 :: a1 :: a2 :: a3 :: a4 :: a5 :: a6 :: a7 :: a8 :: a9 :: b0 :: b1 :: b2 :: b3 :: b4 :: b5 :: b6 :: b7 :: t := by
  obtain ⟨a0, l0, e0, h0⟩ := cons1 (n := 17) h
  obtain ⟨a1, l1, e1, h1⟩ := cons1 (n := 16) h0
  obtain ⟨a2, l2, e2, h2⟩ := cons1 (n := 15) h1
  obtain ⟨a3, l3, e3, h3⟩ := cons1 (n := 14) h2
  obtain ⟨a4, l4, e4, h4⟩ := cons1 (n := 13) h3
  obtain ⟨a5, l5, e5, h5⟩ := cons1 (n := 12) h4
  obtain ⟨a6, l6, e6, h6⟩ := cons1 (n := 11) h5
  obtain ⟨a7, l7, e7, h7⟩ := cons1 (n := 10) h6
  obtain ⟨a8, l8, e8, h8⟩ := cons1 (n := 9) h7
  obtain ⟨a9, l9, e9, h9⟩ := cons1 (n := 8) h8
  obtain ⟨b0, l10, e10, h10⟩ := cons1 (n := 7) h9
  obtain ⟨b1, l11, e11, h11⟩ := cons1 (n := 6) h10
  obtain ⟨b2, l12, e12, h12⟩ := cons1 (n := 5) h11
  obtain ⟨b3, l13, e13, h13⟩ := cons1 (n := 4) h12
  obtain ⟨b4, l14, e14, h14⟩ := cons1 (n := 3) h13
  obtain ⟨b5, l15, e15, h15⟩ := cons1 (n := 2) h14
  obtain ⟨b6, l16, e16, h16⟩ := cons1 (n := 1) h15
  obtain ⟨b7, l17, e17, h17⟩ := cons1 (n := 0) h16
  exact ⟨a0, a1, a2, a3, a4, a5, a6, a7, a8, a9, b0, b1, b2, b3, b4, b5, b6, b7, l17, by rw [e0, e1, e2, e3, e4, e5, e6, e7, e8, e9, e10, e11, e12, e13, e14, e15, e16, e17]⟩

/-- what was read is what would be written -/
theorem dec_enc {l : List Nat} (hs : 18 ≤ l.length) (hl : l.length = 18 + be ((l.drop 16).take 2)) (hb : ∀ x ∈ l, x < 256) :
    msgBytes (l.getD 0 0) (be ((l.drop 1).take 4)) (l.getD 5 0) (l.getD 6 0) (l.getD 7 0) (be ((l.drop 8).take 8)) (l.drop 18) = l := by
  have e1 : digs 4 (be ((l.drop 1).take 4)) = (l.drop 1).take 4 := by
    have := digs_be ((l.drop 1).take 4) (fun x hx => hb x (List.mem_of_mem_drop (List.mem_of_mem_take hx)))
    rwa [show ((l.drop 1).take 4).length = 4 by simp; omega] at this
  have e8 : digs 8 (be ((l.drop 8).take 8)) = (l.drop 8).take 8 := by
    have := digs_be ((l.drop 8).take 8) (fun x hx => hb x (List.mem_of_mem_drop (List.mem_of_mem_take hx)))
    rwa [show ((l.drop 8).take 8).length = 8 by simp; omega] at this
  have e2 : digs 2 (l.drop 18).length = (l.drop 16).take 2 := by
    have := digs_be ((l.drop 16).take 2) (fun x hx => hb x (List.mem_of_mem_drop (List.mem_of_mem_take hx)))
    rw [show ((l.drop 16).take 2).length = 2 by simp; omega] at this
    rw [← this]
    congr 1
    simp only [List.length_drop]
    omega
  obtain ⟨a0, a1, a2, a3, a4, a5, a6, a7, a8, a9, b0, b1, b2, b3, b4, b5, b6, b7, t, rfl⟩ := list18 hs
  have m0 := hb a0 (by simp)
  have m5 := hb a5 (by simp)
  have m6 := hb a6 (by simp)
  have m7 := hb a7 (by simp)
  unfold msgBytes
  rw [e1, e8, e2]
  simp [Nat.mod_eq_of_lt m0, Nat.mod_eq_of_lt m5, Nat.mod_eq_of_lt m6, Nat.mod_eq_of_lt m7]

theorem msgBytes_length (k ep fr wh tp rd : Nat) (l : List Nat) : (msgBytes k ep fr wh tp rd l).length = 18 + l.length := by
  simp [msgBytes, digs_length]; omega
theorem msgBytes_lt {k ep fr wh tp rd : Nat} {l : List Nat} (hb : ∀ x ∈ l, x < 256) : ∀ x ∈ msgBytes k ep fr wh tp rd l, x < 256 := by
  intro x hx
  simp only [msgBytes, List.mem_append, List.mem_cons, List.not_mem_nil, or_false] at hx
  rcases hx with ((((hx | hx) | hx) | hx) | hx) | hx
  · omega
  · exact digs_lt _ _ _ hx
  · omega
  · exact digs_lt _ _ _ hx
  · exact digs_lt _ _ _ hx
  · exact hb x hx

/-- the parts of a message's bytes -/
theorem msg_parts (k ep fr wh tp rd : Nat) (l t : List Nat) (hk : k < 256) (hep : ep < 4294967296) (hfr : fr < 256) (hwh : wh < 256) (htp : tp < 256) (hrd : rd < 18446744073709551616) (hl : l.length < 65536) :
    let b := msgBytes k ep fr wh tp rd l ++ t
    b.getD 0 0 = k ∧ be ((b.drop 1).take 4) = ep ∧ b.getD 5 0 = fr ∧ b.getD 6 0 = wh ∧ b.getD 7 0 = tp ∧ be ((b.drop 8).take 8) = rd ∧ be ((b.drop 16).take 2) = l.length ∧ b.drop 18 = l ++ t := by
  have e1 : be (digs 4 ep) = ep := by rw [be_digs]; exact Nat.mod_eq_of_lt (by omega)
  have e8 : be (digs 8 rd) = rd := by rw [be_digs]; exact Nat.mod_eq_of_lt (by omega)
  have e2 : be (digs 2 l.length) = l.length := by rw [be_digs]; exact Nat.mod_eq_of_lt (by omega)
  simp only [digs] at e1 e8 e2
  refine ⟨?_, ?_, ?_, ?_, ?_, ?_, ?_, ?_⟩
  · simp [msgBytes, Nat.mod_eq_of_lt hk]
  · simpa [msgBytes, digs] using e1
  · simp [msgBytes, digs, Nat.mod_eq_of_lt hfr]
  · simp [msgBytes, digs, Nat.mod_eq_of_lt hwh]
  · simp [msgBytes, digs, Nat.mod_eq_of_lt htp]
  · simpa [msgBytes, digs] using e8
  · simpa [msgBytes, digs] using e2
  · simp [msgBytes, digs]

/-- Decode, whatever slice comes -/
theorem decode_calls (A : Option Addr) (l : List Nat) (len c : Nat) (w : World) (hl : l.length = len) (hc : len ≤ c) (hc2 : c ≤ 9223372036854775807) (hr : Rd w A (nums .u8 l)) (hb : ∀ x ∈ l, x < 256) :
    Calls Try.prog 16 #[.slice A len c] w fun e w' =>
      (decE l ≠ 0 → e = .returned (.tuple #[zeroMsg, .int .i64 (decE l)])) ∧
      (decE l = 0 → ∃ A' c', e = .returned (.tuple #[msgV (l.getD 0 0) (be ((l.drop 1).take 4)) (l.getD 5 0) (l.getD 6 0) (l.getD 7 0) (be ((l.drop 8).take 8)) A' (len - 18) c', .int .i64 0]) ∧ Own w' w.heap.size 5 A' (len - 18) c' (nums .u8 (l.drop 18))) ∧ Below w.heap.size w w' := by
  by_cases h1 : len < 18
  · have hd : decE l = 16 := by unfold decE; rw [if_pos (by omega)]
    exact (dec_short A len c w h1).mono fun e w' ⟨he, hbw⟩ => ⟨fun _ => by rw [hd]; exact he, fun h => by omega, hbw⟩
  · obtain ⟨b, o, rfl, _, _⟩ := hr.at_ (k := 0) (by simp [nums]; omega)
    by_cases h2 : len = 18 + be ((l.drop 16).take 2)
    · by_cases h3 : 1099511627776 < be ((l.drop 8).take 8)
      · have hd : decE l = 60 := by unfold decE; rw [if_neg (by omega), if_neg (by omega), if_neg (by omega), if_pos h3]
        exact (dec_round b o l len c w hl (by omega) hc hc2 hr hb h2 h3).mono fun e w' ⟨he, hbw⟩ => ⟨fun _ => by rw [hd]; exact he, fun h => by omega, hbw⟩
      · refine (dec_last b o l len c w hl (by omega) hc hc2 hr hb h2 (by omega)).mono fun e w' ⟨hno, hyes, hbw⟩ => ⟨fun hd => ?_, fun hd => ?_, hbw⟩
        · have hnk : ¬ MsgOk (l.getD 0 0) (be ((l.drop 1).take 4)) (l.getD 5 0) (l.getD 6 0) (l.getD 7 0) (be ((l.drop 8).take 8)) (len - 18) := fun hk => hd (by
            unfold decE; rw [if_neg (by omega), if_neg (by omega), if_neg (by omega), if_neg h3, if_pos (by rw [hl]; exact hk)])
          have hd' : decE l = 60 := by
            unfold decE; rw [if_neg (by omega), if_neg (by omega), if_neg (by omega), if_neg h3, if_neg (by rw [hl]; exact hnk)]
          rw [hd']
          exact hno hnk
        · have := (decE_zero hd).2.2.2
          rw [hl] at this
          exact hyes this
    · have hd : decE l = if len < 18 + be ((l.drop 16).take 2) then 16 else 17 := by
        unfold decE
        rw [if_neg (by omega), hl]
        by_cases h : len < 18 + be ((l.drop 16).take 2)
        · rw [if_pos h, if_pos h]
        · rw [if_neg h, if_neg h, if_pos (by omega)]
      refine (dec_len b o l len c w hl (by omega) hc hc2 hr hb h2).mono fun e w' ⟨he, hbw⟩ => ⟨fun _ => by rw [hd]; exact he, fun h => ?_, hbw⟩
      rw [hd] at h
      split at h <;> omega
end Go.Proofs.Ytkdimoijfkikoaa
