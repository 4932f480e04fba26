/- Package fr: the walk of FrCounts. Conditions: those of each theorem. -/
import Derived.Test.YtpinopjnlcbipaaDoorFrF
import Derived.Test.YtpinopjnlcbipaaDoorBasg
namespace Go.Proofs.YtpinopjnlcbipaaDoor
open Go.RowKit
set_option linter.unusedVariables false

theorem fr_same (a : Nat) {x0 x1 x2 x3 : Nat} (hx : frV (a * frR % frQ) = .agg #[.int .u64 x0, .int .u64 x1, .int .u64 x2, .int .u64 x3]) (w : World) :
    (Op.equalIn 9999 25 (.agg #[.int .u64 x0, .int .u64 x1, .int .u64 x2, .int .u64 x3]) (.agg #[.int .u64 x0, .int .u64 x1, .int .u64 x2, .int .u64 x3])).run Tryd.prog w = .ok true w := (fr_eqE a a hx hx w).trans (by rw [decide_eq_true rfl])

theorem frSub_ge {a b : Nat} (h : b ≤ a) (hb : b < frQ) : frE (a + (frQ - b % frQ)) = frE (a - b) := by
  apply frE_of
  rw [Nat.mod_eq_of_lt hb, show a + (frQ - b) = a - b + frQ by omega, Nat.add_mod_right]

theorem frSub_lt {a b : Nat} (h : a < b) (hb : b < frQ) : frE (a + (frQ - b % frQ)) = frE (frQ - (b - a) % frQ) := by
  rw [Nat.mod_eq_of_lt hb, Nat.mod_eq_of_lt (by omega), show a + (frQ - b) = frQ - (b - a) by omega]

set_option maxHeartbeats 1000000 in
set_option maxRecDepth 100000 in
theorem frCounts_calls (a b : Nat) (w : World) (ht : FrTab w) (hla : a < 4294967296) (hlb : b < 4294967296) :
    Calls Tryd.prog 3 #[.int .u32 a, .int .u32 b] w fun e w' => e = .returned (.bool true) ∧ Below w.heap.size w w' := by
  have HT := Lib.hid ht
  clear ht
  have hab : a * b < 18446744073709551616 := Nat.lt_of_le_of_lt (Nat.mul_le_mul (Nat.le_of_lt_succ hla) (Nat.le_of_lt_succ hlb)) (by omega)
  have hq : frQ = 52435875175126190479447740508185965837690552500527637822603658699938581184513 := rfl
  have hqa : a < frQ := by omega
  have hqb : b < frQ := by omega
  have HH := fr_head_calls
  have HA := fun W hW => fr_of_calls a W hW (by omega)
  have HB := fun W hW => fr_of_calls b W hW (by omega)
  have HS := fun W hW => fr_of_calls (a + b) W hW (by omega)
  have HP := fun W hW => fr_of_calls (a * b) W hW hab
  have HAdd := fun W hW => fr_addE a b W hW
  have HMul := fun W hW => fr_mulE a b W hW
  have HSub := fun W hW => fr_subE a b W hW
  obtain ⟨x0, x1, x2, x3, hx⟩ := frV_agg (a * frR % frQ) (frE_lt _)
  obtain ⟨y0, y1, y2, y3, hy⟩ := frV_agg (b * frR % frQ) (frE_lt _)
  obtain ⟨s0, s1, s2, s3, hs⟩ := frV_agg ((a + b) * frR % frQ) (frE_lt _)
  obtain ⟨p0, p1, p2, p3, hp⟩ := frV_agg (a * b * frR % frQ) (frE_lt _)
  obtain ⟨d0, d1, d2, d3, hd⟩ := frV_agg ((a + (frQ - b % frQ)) * frR % frQ) (frE_lt _)
  have qs := fr_same (a + b) hs
  have qp := fr_same (a * b) hp
  have qd := fr_same _ hd
  have qx : ∀ W, (Op.equalIn 9999 25 (.agg #[.int .u64 x0, .int .u64 x1, .int .u64 x2, .int .u64 x3]) (.agg #[.int .u64 y0, .int .u64 y1, .int .u64 y2, .int .u64 y3])).run Tryd.prog W = .ok ((a : Int) == (b : Int)) W := fun W => (fr_eqE a b hx hy W).trans (by rw [Nat.mod_eq_of_lt hqa, Nat.mod_eq_of_lt hqb]; congr 1; rw [Bool.eq_iff_iff]; simp; omega)
  have hcomp : ∀ W, FrTab W → (b ≤ a → Calls Tryd.prog 11 #[.int .u64 ((a - b : Nat) : Int)] W fun e w' => e = .returned (frE (a + (frQ - b % frQ))) ∧ Below W.heap.size W w') := by
    intro W hW h
    rw [frSub_ge h hqb]
    exact fr_of_calls (a - b) W hW (by omega)
  have hneg : a < b → ∀ W, FrTab W → Calls Tryd.prog 15 #[frE (b - a)] W fun e w' => e = .returned (frE (a + (frQ - b % frQ))) ∧ Below W.heap.size W w' := by
    intro h W hW
    rw [frSub_lt h hqb]
    exact fr_neg_calls (b - a) W hW
  have HO := fun W hW => fr_of_calls (b - a) W hW (by omega)
  obtain ⟨n0, n1, n2, n3, hn⟩ := frV_agg ((b - a) * frR % frQ) (frE_lt _)
  rw [show frE a = _ from hx] at HA HAdd HMul HSub
  rw [show frE b = _ from hy] at HB HAdd HMul HSub
  rw [show frE (a + b) = _ from hs] at HS HAdd
  rw [show frE (a * b) = _ from hp] at HP HMul
  rw [show frE (a + (frQ - b % frQ)) = _ from hd] at HSub hcomp hneg
  rw [show frE (b - a) = _ from hn] at HO hneg
  have HH := Lib.hid HH
  have HA := Lib.hid HA
  have HB := Lib.hid HB
  rw [Int.natCast_add] at HS
  have HS := Lib.hid HS
  have HP := Lib.hid HP
  have HAdd := Lib.hid HAdd
  have HMul := Lib.hid HMul
  have HSub := Lib.hid HSub
  have HO' : b > a → ∀ W, FrTab W → Calls Tryd.prog 11 #[.int .u64 ((b : Int) - a)] W fun e w' => e = .returned (.agg #[.int .u64 n0, .int .u64 n1, .int .u64 n2, .int .u64 n3]) ∧ Below W.heap.size W w' := fun h W hW => by have := HO W hW; rwa [Int.natCast_sub (Nat.le_of_lt h)] at this
  have hcomp' : b ≤ a → ∀ W, FrTab W → Calls Tryd.prog 11 #[.int .u64 ((a : Int) - b)] W fun e w' => e = .returned (.agg #[.int .u64 d0, .int .u64 d1, .int .u64 d2, .int .u64 d3]) ∧ Below W.heap.size W w' := fun h W hW => by have := hcomp W hW h; rwa [Int.natCast_sub h] at this
  have HO := Lib.hid HO'
  have HC := Lib.hid hcomp'
  have HG := Lib.hid hneg
  clear hx hy hs hp hd hn hcomp hcomp' HO' hneg hq hqa hqb
  have hb := Below.refl w.heap.size w
  have hwm : IntKind.u64.wrap ((a : Int) * b) = ((a * b : Nat) : Int) := by
    rw [IntKind.wrap_u64, show (a : Int) * b = ((a * b : Nat) : Int) by simp]; omega
  have hws : IntKind.u64.wrap ((a : Int) + b) = ((a + b : Nat) : Int) := by
    rw [IntKind.wrap_u64]; omega
  have HWM := Lib.hid hwm
  have HWS := Lib.hid hws
  clear hwm hws hab
  go_enter Tryd.func3, Tryd.ntmps3
  go_wp2_with fail
  refine calls_on HH HT (by repeat (first | exact hb | exact Below.refl _ _ | refine Below.drew ?_ | refine below_drewN ?_ _ | refine Below.alloc ?_ (by have := hb.size; simp <;> omega) _)) ?_; intro w1 hb1 hb
  go_wp2_with fail
  refine calls_on HA HT (by repeat (first | exact hb | exact Below.refl _ _ | refine Below.drew ?_ | refine below_drewN ?_ _ | refine Below.alloc ?_ (by have := hb.size; simp <;> omega) _)) ?_; intro w2 hb2 hb
  go_wp2_with fail
  have m4 := fr_size
  have px := Bk.new w2 27 #[.int .u64 x0, .int .u64 x1, .int .u64 x2, .int .u64 x3]
  have hb := hb.alloc hb.size (.cells #[.int .u64 x0, .int .u64 x1, .int .u64 x2, .int .u64 x3] 27)
  refine calls_on HB HT hb ?_; intro w3 hb3 hb
  have px := (px.under hb3).alloc (.cells #[.int .u64 y0, .int .u64 y1, .int .u64 y2, .int .u64 y3] 27)
  have py := Bk.new w3 27 #[.int .u64 y0, .int .u64 y1, .int .u64 y2, .int .u64 y3]
  have hb := hb.alloc hb.size (.cells #[.int .u64 y0, .int .u64 y1, .int .u64 y2, .int .u64 y3] 27)
  go_wp2_with (first | (refine wpList_load_row rfl _ _ rfl _ rfl _ _ _ _ px Tryd.underlying27 rfl m4 ?_) | (refine wpList_load_row rfl _ _ rfl _ rfl _ _ _ _ py Tryd.underlying27 rfl m4 ?_) | (refine wpList_load_rowG rfl _ _ rfl _ rfl _ _ _ _ px Tryd.underlying27 rfl m4 ?_) | (refine wpList_load_rowG rfl _ _ rfl _ rfl _ _ _ _ py Tryd.underlying27 rfl m4 ?_))
  refine calls_on HAdd HT hb ?_; intro w4 hb4 hb
  have px := px.under hb4
  have py := py.under hb4
  go_wp2_with (first | (refine wpList_load_row rfl _ _ rfl _ rfl _ _ _ _ px Tryd.underlying27 rfl m4 ?_) | (refine wpList_load_row rfl _ _ rfl _ rfl _ _ _ _ py Tryd.underlying27 rfl m4 ?_) | (refine wpList_load_rowG rfl _ _ rfl _ rfl _ _ _ _ px Tryd.underlying27 rfl m4 ?_) | (refine wpList_load_rowG rfl _ _ rfl _ rfl _ _ _ _ py Tryd.underlying27 rfl m4 ?_))
  refine calls_on HS HT hb ?_; intro w5 hb5 hb
  have px := px.under hb5
  have py := py.under hb5
  go_wp2_with (first | (refine wpList_load_row rfl _ _ rfl _ rfl _ _ _ _ px Tryd.underlying27 rfl m4 ?_) | (refine wpList_load_row rfl _ _ rfl _ rfl _ _ _ _ py Tryd.underlying27 rfl m4 ?_) | (refine wpList_load_rowG rfl _ _ rfl _ rfl _ _ _ _ px Tryd.underlying27 rfl m4 ?_) | (refine wpList_load_rowG rfl _ _ rfl _ rfl _ _ _ _ py Tryd.underlying27 rfl m4 ?_))
  refine calls_on HMul HT hb ?_; intro w6 hb6 hb
  have px := px.under hb6
  have py := py.under hb6
  go_wp2_with (first | (refine wpList_load_row rfl _ _ rfl _ rfl _ _ _ _ px Tryd.underlying27 rfl m4 ?_) | (refine wpList_load_row rfl _ _ rfl _ rfl _ _ _ _ py Tryd.underlying27 rfl m4 ?_) | (refine wpList_load_rowG rfl _ _ rfl _ rfl _ _ _ _ px Tryd.underlying27 rfl m4 ?_) | (refine wpList_load_rowG rfl _ _ rfl _ rfl _ _ _ _ py Tryd.underlying27 rfl m4 ?_))
  try rw [HWM.out]
  refine calls_on HP HT hb ?_; intro w7 hb7 hb
  have px := px.under hb7
  have py := py.under hb7
  go_wp2_with (first | (refine wpList_load_row rfl _ _ rfl _ rfl _ _ _ _ px Tryd.underlying27 rfl m4 ?_) | (refine wpList_load_row rfl _ _ rfl _ rfl _ _ _ _ py Tryd.underlying27 rfl m4 ?_) | (refine wpList_load_rowG rfl _ _ rfl _ rfl _ _ _ _ px Tryd.underlying27 rfl m4 ?_) | (refine wpList_load_rowG rfl _ _ rfl _ rfl _ _ _ _ py Tryd.underlying27 rfl m4 ?_))
  all_goals by_cases hle : b ≤ a
  all_goals first | (exfalso; omega) | skip
  all_goals refine calls_on HSub HT hb ?_
  all_goals intro w8 hb8 hb
  all_goals go_wp2_with fail
  all_goals first
    | (have HC' := Lib.hid (HC.out hle)
       refine calls_on HC' HT (by repeat (first | exact hb | exact Below.refl _ _ | refine Below.drew ?_ | refine below_drewN ?_ _ | refine Below.alloc ?_ (by have := hb.size; simp <;> omega) _)) ?_
       intro w9 hb9 hb
       go_wp2_with fail
       go_ret
       exact ⟨rfl, hb⟩)
    | (have HC0 := HC.out hle
       rw [show (a : Int) - b = 0 by omega] at HC0
       have HC' := Lib.hid HC0
       refine calls_on HC' HT (by repeat (first | exact hb | exact Below.refl _ _ | refine Below.drew ?_ | refine below_drewN ?_ _ | refine Below.alloc ?_ (by have := hb.size; simp <;> omega) _)) ?_
       intro w9 hb9 hb
       go_wp2_with fail
       go_ret
       exact ⟨rfl, hb⟩)
    | (have hlt : a < b := by omega
       have HO' := Lib.hid (HO.out hlt)
       have HG' := Lib.hid (HG.out hlt)
       refine calls_on HO' HT (by repeat (first | exact hb | exact Below.refl _ _ | refine Below.drew ?_ | refine below_drewN ?_ _ | refine Below.alloc ?_ (by have := hb.size; simp <;> omega) _)) ?_
       intro w9 hb9 hb
       go_wp2_with fail
       refine calls_on HG' HT (by repeat (first | exact hb | exact Below.refl _ _ | refine Below.drew ?_ | refine below_drewN ?_ _ | refine Below.alloc ?_ (by have := hb.size; simp <;> omega) _)) ?_
       intro w10 hb10 hb
       go_wp2_with fail
       go_ret
       exact ⟨rfl, hb⟩)
end Go.Proofs.YtpinopjnlcbipaaDoor
