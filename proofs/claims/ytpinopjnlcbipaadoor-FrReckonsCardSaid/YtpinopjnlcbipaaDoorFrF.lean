/- Package fr: the head of the statements. Conditions: those of each theorem. -/
import Derived.Test.YtpinopjnlcbipaaDoorFrE
namespace Go.Proofs.YtpinopjnlcbipaaDoor
open Go.RowKit
set_option linter.unusedVariables false

/-- powers by squaring -/
def powM (b m : Nat) : Nat → Nat → Nat
  | 0, _ => 1 % m
  | f + 1, e => if e % 2 = 1 then powM b m f (e / 2) * powM b m f (e / 2) % m * b % m else powM b m f (e / 2) * powM b m f (e / 2) % m

theorem powM_eq (b m : Nat) : ∀ (f e : Nat), e < 2 ^ f → powM b m f e = b ^ e % m
  | 0, e, h => by
    have : e = 0 := by simpa using h
    subst this
    rfl
  | f + 1, e, h => by
    have h2 : e / 2 < 2 ^ f := by rw [Nat.pow_succ] at h; omega
    have ih := powM_eq b m f (e / 2) h2
    unfold powM
    rw [ih]
    have hs : b ^ (e / 2) % m * (b ^ (e / 2) % m) % m = b ^ (e / 2 + e / 2) % m := by rw [← Nat.mul_mod, ← Nat.pow_add]
    by_cases ho : e % 2 = 1
    · rw [if_pos ho, hs, Nat.mod_mul_mod, ← Nat.pow_succ, show (e / 2 + e / 2).succ = e by omega]
    · rw [if_neg ho, hs, show e / 2 + e / 2 = e by omega]

theorem fr_half_one : 2 * 2 ^ frI % frQ = 1 % frQ := by
  have h := powM_eq 2 frQ 256 frI (by decide)
  rw [← Nat.mul_mod_mod, ← h]
  decide +kernel

/-- what follows a call that leaves the world below as it was -/
theorem frTab_of {w W : World} (ht : Hid (FrTab w)) (hb : Below w.heap.size w W) : FrTab W := ht.out.below hb

/-- a call that leaves the world below as it was -/
theorem calls_on {f : FuncId} {args : Array Value} {v : Value} {w W : World} {post : Ending → World → Prop}
    (H : Hid (∀ W, FrTab W → Calls Tryd.prog f args W fun e w' => e = .returned v ∧ Below W.heap.size W w')) (HT : Hid (FrTab w)) (hb : Below w.heap.size w W)
    (hK : ∀ w', Below W.heap.size W w' → Below w.heap.size w w' → post (.returned v) w') : Calls Tryd.prog f args W post := by
  refine (H.out W (frTab_of HT hb)).mono ?_
  rintro e w' ⟨rfl, h⟩
  exact hK w' h (hb.trans (h.mono hb.size))

/-- the inverse of 2: its number stays a letter (2 to so high a power is never to be reckoned out) -/
theorem fr_inv2 : ∃ t : Nat, 2 * t % frQ = 1 % frQ ∧ ∀ W, FrTab W → Calls Tryd.prog 24 #[frE 2] W fun e w' => e = .returned (frE t) ∧ Below W.heap.size W w' :=
  ⟨2 ^ frI, fr_half_one, fun W hW => fr_inv_calls 2 W hW⟩

set_option maxHeartbeats 1000000 in
set_option maxRecDepth 100000 in
theorem fr_head_calls (w : World) (ht : FrTab w) :
    Calls Tryd.prog 10 #[] w fun e w' => e = .returned (.bool true) ∧ Below w.heap.size w w' := by
  have HT := Lib.hid ht
  clear ht
  have H1 := fun W hW => fr_of_calls 1 W hW (by omega)
  have H2 := fun W hW => fr_of_calls 2 W hW (by omega)
  have HN := fun W hW => fr_neg_calls 1 W hW
  have HB := fun W hW => fr_bytes_calls (frQ - 1 % frQ) W hW
  obtain ⟨t, htt, HI⟩ := fr_inv2
  have HM := fun W hW => fr_mulE 2 t W hW
  obtain ⟨R, hR⟩ : ∃ R : Array Value, (nums .u8 (digs 32 ((frQ - 1 % frQ) % frQ))).toArray = R := ⟨_, rfl⟩
  have m32 : (Tryd.prog.info? 52).map (·.size) = some R.size := by rw [← hR]; kernel_rfl
  have c0 : R[0]? = some (.int .u8 115) := by rw [← hR]; kernel_rfl
  have c27 : R[27]? = some (.int .u8 255) := by rw [← hR]; kernel_rfl
  have c28 : R[28]? = some (.int .u8 0) := by rw [← hR]; kernel_rfl
  have hone : R.all (·.oneCell') = true := by rw [← hR]; kernel_rfl
  have hsz : (nums .u8 (List.replicate 32 0)).toArray.size = R.size := by rw [← hR]; kernel_rfl
  rw [hR] at HB
  clear hR
  obtain ⟨a0, a1, a2, a3, ha⟩ := frV_agg (1 * frR % frQ) (frE_lt _)
  obtain ⟨b0, b1, b2, b3, hb⟩ := frV_agg (2 * frR % frQ) (frE_lt _)
  obtain ⟨n0, n1, n2, n3, hn⟩ := frV_agg ((frQ - 1 % frQ) * frR % frQ) (frE_lt _)
  obtain ⟨i0, i1, i2, i3, hi⟩ := frV_agg (t * frR % frQ) (frE_lt _)
  obtain ⟨m0, m1, m2, m3, hm⟩ := frV_agg (2 * t * frR % frQ) (frE_lt _)
  have q1 := fr_eqE (2 * t) 1 hm ha
  rw [decide_eq_true htt] at q1
  have q2 : ∀ W, (Op.equalIn 9999 25 (.agg #[.int .u64 a0, .int .u64 a1, .int .u64 a2, .int .u64 a3]) (.agg #[.int .u64 0, .int .u64 0, .int .u64 0, .int .u64 0])).run Tryd.prog W = .ok false W := fun W => (fr_eqE 1 0 ha frE_zero W).trans (by rw [decide_eq_false (by decide)])
  rw [show frE 1 = _ from ha] at H1 HN
  rw [show frE 2 = _ from hb] at H2 HI HM
  rw [show frE (frQ - 1 % frQ) = _ from hn] at HN HB
  rw [show frE t = _ from hi] at HI HM
  rw [show frE (2 * t) = _ from hm] at HM
  have H1 := Lib.hid H1
  have H2 := Lib.hid H2
  have HN := Lib.hid HN
  have HB := Lib.hid HB
  have HI := Lib.hid HI
  have HM := Lib.hid HM
  clear ha hb hn hi hm
  have hb := Below.refl w.heap.size w
  go_enter Tryd.func10, Tryd.ntmps10
  go_wp2_with fail
  refine calls_on H1 HT (by repeat (first | exact hb | exact Below.refl _ _ | refine Below.drew ?_ | refine below_drewN ?_ _ | refine Below.alloc ?_ (by have := hb.size; simp <;> omega) _)) ?_; intro w1 hb1 hb
  go_wp2_with fail
  refine calls_on HN HT (by repeat (first | exact hb | exact Below.refl _ _ | refine Below.drew ?_ | refine below_drewN ?_ _ | refine Below.alloc ?_ (by have := hb.size; simp <;> omega) _)) ?_; intro w2 hb2 hb
  go_wp2_with fail
  refine calls_on HB HT (by repeat (first | exact hb | exact Below.refl _ _ | refine Below.drew ?_ | refine below_drewN ?_ _ | refine Below.alloc ?_ (by have := hb.size; simp <;> omega) _)) ?_; intro w3 hb3 hb
  go_wp2_with (refine wpList_store_row rfl _ _ _ rfl _ _ rfl rfl _ _ (Bk.new w3 52 (nums .u8 (List.replicate 32 0)).toArray) m32 hsz hone ?_; have pb := (Bk.new w3 52 (nums .u8 (List.replicate 32 0)).toArray).row R; have hb := below_setRow (hb.alloc hb.size (.cells (nums .u8 (List.replicate 32 0)).toArray 52)) (g := w3.heap.size) hb.size R)
  refine calls_on H2 HT hb ?_; intro w4 hb4 hb
  have pb := pb.under hb4
  go_wp2_with fail
  refine calls_on H2 HT (by repeat (first | exact hb | exact Below.refl _ _ | refine Below.drew ?_ | refine below_drewN ?_ _ | refine Below.alloc ?_ (by have := hb.size; simp <;> omega) _)) ?_; intro w5 hb5 hb
  have pb := pb.under hb5
  go_wp2_with fail
  refine calls_on HI HT (by repeat (first | exact hb | exact Below.refl _ _ | refine Below.drew ?_ | refine below_drewN ?_ _ | refine Below.alloc ?_ (by have := hb.size; simp <;> omega) _)) ?_; intro w6 hb6 hb
  have pb := pb.under hb6
  go_wp2_with fail
  refine calls_on HM HT (by repeat (first | exact hb | exact Below.refl _ _ | refine Below.drew ?_ | refine below_drewN ?_ _ | refine Below.alloc ?_ (by have := hb.size; simp <;> omega) _)) ?_; intro w7 hb7 hb
  have pb := pb.under hb7
  go_wp2_with fail
  refine calls_on H1 HT (by repeat (first | exact hb | exact Below.refl _ _ | refine Below.drew ?_ | refine below_drewN ?_ _ | refine Below.alloc ?_ (by have := hb.size; simp <;> omega) _)) ?_; intro w8 hb8 hb
  have pb := pb.under hb8
  have k0 := (pb.cell 0).trans c0
  have k27 := (pb.cell 27).trans c27
  have k28 := (pb.cell 28).trans c28
  go_wp2_with fail
  refine calls_on H1 HT (by repeat (first | exact hb | exact Below.refl _ _ | refine Below.drew ?_ | refine below_drewN ?_ _ | refine Below.alloc ?_ (by have := hb.size; simp <;> omega) _)) ?_; intro w9 hb9 hb
  go_wp2_with fail
  go_ret
  exact ⟨rfl, hb⟩
end Go.Proofs.YtpinopjnlcbipaaDoor
