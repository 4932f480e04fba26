/- Words for memory: a slice that reads as a list, a row that the call owns, append onto it. Conditions: none; plain lemmas. -/
import Derived.WalkKit
import Derived.WalkLawsBesides
import Derived.Lib.Hide
import Derived.Maps.AppendAt
namespace Go.Proofs.YtdconlmpjehohaaDoor
open Go.RowKit
set_option linter.unusedVariables false

/-- the block of an address, if there is one -/
def blk : Option Addr → Option Nat
  | some a => some a.block
  | none => none

/-- The slice at `A` holds just the one-cell values `xs`. -/
def Rd (w : World) (A : Option Addr) (xs : List Value) : Prop :=
  xs = [] ∨ ∃ b o, A = some ⟨b, o, none⟩ ∧ b < w.heap.size ∧ ∀ j (h : j < xs.length), w.cell? ⟨b, o + j, none⟩ = some xs[j]

/-- numbers as cells -/
def nums (k : IntKind) (l : List Nat) : List Value := l.map fun x : Nat => Value.int k x

theorem nums_length (k : IntKind) (l : List Nat) : (nums k l).length = l.length := by simp [nums]
theorem nums_append (k : IntKind) (l m : List Nat) : nums k (l ++ m) = nums k l ++ nums k m := by simp [nums]
theorem nums_get (k : IntKind) (l : List Nat) (j : Nat) (h : j < (nums k l).length) : (nums k l)[j] = Value.int k ((l[j]'(by simpa [nums] using h) : Nat) : Int) := by simp [nums]
theorem nums_one (k : IntKind) (l : List Nat) : ∀ u ∈ nums k l, u.oneCell' = true := by
  intro u hu
  simp only [nums, List.mem_map] at hu
  obtain ⟨x, _, rfl⟩ := hu
  rfl

theorem Rd.nil (w : World) (A : Option Addr) : Rd w A [] := .inl rfl

theorem Rd.at_ {w : World} {A : Option Addr} {xs : List Value} (h : Rd w A xs) {k : Nat} (hk : k < xs.length) :
    ∃ b o, A = some ⟨b, o, none⟩ ∧ b < w.heap.size ∧ ∀ j (h : j < xs.length), w.cell? ⟨b, o + j, none⟩ = some xs[j] := by
  rcases h with h0 | h
  · subst h0; simp at hk
  · exact h

/-- the address and the number at place k -/
theorem Rd.num {w : World} {A : Option Addr} {kd : IntKind} {l : List Nat} (h : Rd w A (nums kd l)) {k : Nat} (hk : k < l.length) :
    ∃ b o, A = some ⟨b, o, none⟩ ∧ b < w.heap.size ∧ w.cell? ⟨b, o + k, none⟩ = some (.int kd ((l[k] : Nat) : Int)) := by
  obtain ⟨b, o, hA, hb, hc⟩ := h.at_ (k := k) (by simpa [nums] using hk)
  refine ⟨b, o, hA, hb, ?_⟩
  have := hc k (by simpa [nums] using hk)
  rwa [nums_get] at this

theorem Rd.keep {w w' : World} {A : Option Addr} {xs : List Value} (h : Rd w A xs) (hs : w.heap.size ≤ w'.heap.size) (hk : ∀ b o, blk A = some b → b < w.heap.size → w'.cell? ⟨b, o, none⟩ = w.cell? ⟨b, o, none⟩) : Rd w' A xs := by
  rcases h with h0 | ⟨b, o, hA, hb, hc⟩
  · exact .inl h0
  · exact .inr ⟨b, o, hA, by omega, fun j hj => (hk b (o + j) (by rw [hA]; rfl) hb).trans (hc j hj)⟩
theorem Rd.below {w w' : World} {A : Option Addr} {xs : List Value} (h : Rd w A xs) (hb : Below w.heap.size w w') : Rd w' A xs :=
  h.keep hb.size fun _ _ _ hlt => hb.cell hlt
theorem Rd.grown {w w' : World} {A : Option Addr} {xs : List Value} {row : Option Nat} (h : Rd w A xs) (hg : w.grownBy w' row) (hne : blk A = none ∨ blk A ≠ row) : Rd w' A xs :=
  h.keep hg.size fun b o hA hlt => World.cell?_of_block (a := ⟨b, o, none⟩) (hg.block b hlt (fun e => by
    rcases hne with h | h
    · rw [hA] at h; cases h
    · exact h (by rw [hA]; exact e)))
theorem Rd.alloc {w : World} {A : Option Addr} {xs : List Value} (h : Rd w A xs) (o : Obj) : Rd (w.alloc o) A xs :=
  h.below ((Below.refl _ _).alloc (Nat.le_refl _) _)
theorem Rd.drew {w : World} {A : Option Addr} {xs : List Value} (h : Rd w A xs) : Rd w.drew A xs := h
theorem Rd.drewN {w : World} {A : Option Addr} {xs : List Value} (h : Rd w A xs) (n : Nat) : Rd (w.drewN n) A xs := h

theorem Rd.take {w : World} {A : Option Addr} {xs : List Value} (h : Rd w A xs) (k : Nat) : Rd w A (xs.take k) := by
  rcases h with h0 | ⟨b, o, hA, hb, hc⟩
  · exact .inl (by simp [h0])
  · refine .inr ⟨b, o, hA, hb, fun j hj => ?_⟩
    have hj' : j < xs.length := by simp at hj; omega
    rw [hc j hj', List.getElem_take]

/-- `s[k:]`, with the model's own `if` -/
theorem Rd.drop {w : World} {A : Option Addr} {xs : List Value} (h : Rd w A xs) {k cap : Nat} (hc : xs.length ≤ cap) :
    Rd w (if cap = k then A else A.map (·.add k)) (xs.drop k) := by
  rcases h with h0 | ⟨b, o, hA, hb, hcell⟩
  · exact .inl (by simp [h0])
  · by_cases hk : xs.length ≤ k
    · exact .inl (by simpa using hk)
    · rw [if_neg (by omega)]
      refine .inr ⟨b, o + k, by rw [hA]; simp only [Option.map_some, Addr.add]; split <;> simp_all, hb, fun j hj => ?_⟩
      have hj' : k + j < xs.length := by simp at hj; omega
      have := hcell (k + j) hj'
      rw [List.getElem_drop, ← this]
      congr 2
      omega

/-- what append asks of its source -/
def Src (w : World) (A : Option Addr) (m : Nat) (news : List Value) : Prop :=
  news.length = m ∧ (∀ u ∈ news, u.oneCell' = true) ∧ (m = 0 ∨ ∃ a, A = some a ∧ ∀ j u, news[j]? = some u → w.cell? (a.add j) = some u)

theorem Rd.src {w : World} {A : Option Addr} {xs : List Value} (h : Rd w A xs) (h1 : ∀ u ∈ xs, u.oneCell' = true) {m : Nat} (hm : xs.length = m) : Src w A m xs := by
  refine ⟨hm, h1, ?_⟩
  rcases h with h0 | ⟨b, o, hA, hb, hc⟩
  · exact .inl (by rw [← hm, h0]; rfl)
  · refine .inr ⟨_, hA, fun j u hu => ?_⟩
    obtain ⟨hj, rfl⟩ := List.getElem?_eq_some_iff.1 hu
    rw [← hc j hj]
    congr 1
    simp only [Addr.add]
    split <;> simp_all

/-- what a literal `[]T{..}` of append lays -/
theorem Src.lit (w : World) (cs : List Value) (e : TypeId) (h1 : ∀ u ∈ cs, u.oneCell' = true) {m : Nat} (hm : cs.length = m) : Src (w.alloc (.cells cs.toArray e)) (some ⟨w.heap.size, 0, none⟩) m cs := by
  refine ⟨hm, h1, .inr ⟨_, rfl, fun j u hu => ?_⟩⟩
  have ha : (⟨w.heap.size, 0, none⟩ : Addr).add j = ⟨w.heap.size, j, none⟩ := by simp only [Addr.add]; split <;> simp_all
  rw [ha, cell_of_row _ w.heap.size j cs.toArray e (0, 0) (heap_alloc_new w _)]
  simpa using hu

/-- The slice is a row of the call's own, from block `base` on. -/
def Own (w : World) (base : Nat) (e : TypeId) (A : Option Addr) (n c : Nat) (xs : List Value) : Prop := w.ownsRow base e 1 (.slice A n c) n xs

section
variable {w w' : World} {base : Nat} {e : TypeId} {A : Option Addr} {n c : Nat} {xs : List Value}
theorem Own.nil_ (w : World) (base : Nat) (e : TypeId) : Own w base e none 0 0 [] := World.ownsRow_nil w base e 1
theorem Own.len (h : Own w base e A n c xs) : xs.length = n := by simpa using h.1
theorem Own.cap (h : Own w base e A n c xs) : n ≤ c ∧ c ≤ maxLen := by
  rcases h.2 with ⟨hv, hn⟩ | ⟨g, cap, cur, hv, hb, hg, hnc, hcm, _⟩
  · injection hv with _ h2 h3; subst h3; subst hn; simp
  · injection hv with _ _ h3; subst h3; exact ⟨hnc, hcm⟩
theorem Own.lt (h : Own w base e A n c xs) : ∀ b, blk A = some b → base ≤ b ∧ b < w.heap.size := by
  intro b hb
  refine World.ownsRow.lt h b ?_
  cases A with
  | none => cases hb
  | some a => exact hb
theorem Own.rd (h : Own w base e A n c xs) : Rd w A xs := by
  rcases h.2 with ⟨hv, hn⟩ | ⟨g, cap, cur, hv, hb, hg, hnc, hcm, hcs, htake⟩
  · left; have := h.1; rw [hn] at this; exact List.eq_nil_of_length_eq_zero (by simpa using this)
  · injection hv with h1 _ h3
    subst h1
    refine .inr ⟨g, 0, rfl, (Array.getElem?_eq_some_iff.1 hg).1, fun j hj => ?_⟩
    have := h.cells (g := g) rfl j xs[j] (List.getElem?_eq_getElem hj)
    have ha : (⟨g, 0, none⟩ : Addr).add j = ⟨g, 0 + j, none⟩ := by simp only [Addr.add]; split <;> simp_all
    rw [← ha]; exact this
theorem Own.src (h : Own w base e A n c xs) (h1 : ∀ u ∈ xs, u.oneCell' = true) : Src w A n xs := h.rd.src h1 h.len
theorem Own.grown {row : Option Nat} (h : Own w base e A n c xs) (hg : w.grownBy w' row) (hne : blk A = none ∨ blk A ≠ row) : Own w' base e A n c xs := by
  refine World.ownsRow.kept h hg ?_
  cases A with
  | none => exact .inl rfl
  | some a => exact hne
theorem Own.below (h : Own w base e A n c xs) (hb : Below w.heap.size w w') : Own w' base e A n c xs :=
  h.grown (row := none) ⟨hb.os, hb.tape, hb.output, hb.size, fun k hk _ => hb.block k hk⟩ (by cases A <;> simp [blk])
theorem Own.alloc (h : Own w base e A n c xs) (o : Obj) : Own (w.alloc o) base e A n c xs := World.ownsRow.alloc h o
theorem Own.drew (h : Own w base e A n c xs) : Own w.drew base e A n c xs := h
theorem Own.drewN (h : Own w base e A n c xs) (m : Nat) : Own (w.drewN m) base e A n c xs := h
/-- from a smaller base -/
theorem Own.from_ {b1 b2 : Nat} (h : Own w b1 e A n c xs) (hb : b2 ≤ b1) : Own w b2 e A n c xs := by
  refine ⟨h.1, ?_⟩
  rcases h.2 with h2 | ⟨g, cap, cur, hv, hbg, r⟩
  · exact .inl h2
  · exact .inr ⟨g, cap, cur, hv, by omega, r⟩
theorem Own.lit (w : World) (cs : List Value) (e : TypeId) {n : Nat} (hb : base ≤ w.heap.size) (hn : cs.length = n) (hm : n ≤ maxLen) :
    Own (w.alloc (.cells cs.toArray e)) base e (some ⟨w.heap.size, 0, none⟩) n n cs := by
  have := World.ownsRow_lit (base := base) (e := e) (size := 1) w cs.toArray n hb hm (by simpa using hn)
  exact this
/-- a store into it -/
theorem Own.store {b o : Nat} (h : Own w base e (some ⟨b, o, none⟩) n c xs) (j : Nat) (u : Value) :
    Own (w.setCell ⟨b, j, none⟩ u) base e (some ⟨b, o, none⟩) n c (xs.set j u) ∧ w.grownBy (w.setCell ⟨b, j, none⟩ u) (some b) ∧ o = 0 ∧ w.frozen? ⟨b, j, none⟩ = false := by
  have ho : o = 0 := by
    rcases h.2 with ⟨hv, _⟩ | ⟨g, cap, cur, hv, _⟩
    · cases hv
    · injection hv with h1; injection h1 with h1; injection h1
  subst ho
  exact ⟨(World.ownsRow.stored h j u).1, (World.ownsRow.stored h j u).2, rfl, World.ownsRow.frozenAt h j⟩
end

theorem grownBy_of_below {w w' : World} (hb : Below w.heap.size w w') (row : Option Nat) : w.grownBy w' row := ⟨hb.os, hb.tape, hb.output, hb.size, fun k hk _ => hb.block k hk⟩
theorem below_of_grown {w w' : World} {base : Nat} {row : Option Nat} (hg : w.grownBy w' row) (hb : base ≤ w.heap.size) (hr : ∀ k, row = some k → base ≤ k) : Below base w w' :=
  (Below.refl _ _).grown hg hb hr

section
variable {P : Program} (w : World)

/-- append onto a row of the call's own: what it leaves -/
theorem run_app (base : Nat) (t ty e : TypeId) (i : TypeInfo) (z : Value) (bytes : Nat) (ht : P.underlying t = some (.slice e)) (hi : P.info? e = some i) (hz : i.zero = some z)
    (hsize : i.size = 1) (hby : i.bytes = bytes) (hzs : z.cells.size = 1)
    (A : Option Addr) (n c : Nat) (xs : List Value) (hown : Own w base e A n c xs)
    (S : Option Addr) (m d : Nat) (news : List Value) (hsrc : Src w S m news)
    (hmax : n + m ≤ 1099511627776) (hbb : bytes ≤ 64) (hbase : base ≤ w.heap.size) :
    ∃ A' c' w', (Builtin.append_ #[t, t] ty #[.slice A n c, .slice S m d]).run P w = .ok (.slice A' (n + m) c') w' ∧ Own w' base e A' (n + m) c' (xs ++ news) ∧ w.grownBy w' (blk A) ∧
      (blk A' = blk A ∨ blk A' = some w.heap.size) := by
  have shape : ∀ (v' : Value) (w'' : World), w''.ownsRow base e 1 v' (n + m) (xs ++ news) → ∃ A' c', v' = .slice A' (n + m) c' := by
    intro v' w'' h
    rcases h.2 with ⟨hv, hn⟩ | ⟨g, cap, cur, hv, _⟩
    · exact ⟨none, 0, by rw [hv, hn]⟩
    · exact ⟨_, _, hv⟩
  have hmul : (n + m) * bytes ≤ 140737488355328 := Nat.le_trans (Nat.mul_le_mul hmax hbb) (by decide)
  have hbk : ∀ A n c, (Value.slice A n c).ownBlock = blk A := by intro A n c; cases A <;> rfl
  obtain ⟨hl, h1, hs⟩ := hsrc
  rcases hs with h0 | ⟨a, rfl, hcell⟩
  · subst h0
    have hnil : news = [] := List.eq_nil_of_length_eq_zero hl
    subst hnil
    refine ⟨A, c, w, ?_, by simpa using hown, ⟨rfl, rfl, rfl, Nat.le_refl _, fun _ _ _ => rfl⟩, .inl rfl⟩
    rcases hown.2 with ⟨hv, hn⟩ | ⟨g, cap, cur, hv, _, _, hnc, _⟩
    · injection hv with h1 h2 h3; subst h1 h2 h3
      cases S <;> simp [Builtin.append_, run_underlying ht, sizeOf, typeInfo, hi, Builtin.lenOf, Builtin.firstCells, loadCells, loadCellsFrom]
    · injection hv with h1 h2 h3; subst h1 h3
      cases S <;> simp [Builtin.append_, run_underlying ht, sizeOf, typeInfo, hi, Builtin.lenOf, Builtin.firstCells, hnc, storeCells, loadCells, loadCellsFrom]
  · obtain ⟨v', w', hr, h2, h3, _, h5⟩ := run_append_own_at (P := P) w base t ty e i z 1 bytes ht hi hz hsize hby hzs (by omega) (.slice A n c) n xs hown a m d news (by simpa using hl) hcell h1 (by simp only [maxLen]; omega) hmul hbase
    obtain ⟨A', c', rfl⟩ := shape v' w' h2
    rw [hbk, hbk] at h5
    rw [hbk] at h3
    exact ⟨A', c', w', hr, h2, h3, h5⟩

theorem wp_app {o : Oper} {a : Act} {K : Act → World → Prop} {Q : Exit → Act → World → Prop} (s x : Operand) (t : TypeId)
    (ho : o.op = .call { callee := .builtin .append, args := #[s, x], argTypes := #[t, t] })
    (base : Nat) (e : TypeId) (i : TypeInfo) (z : Value) (bytes : Nat) (ht : P.underlying t = some (.slice e)) (hi : P.info? e = some i) (hz : i.zero = some z)
    (hsize : i.size = 1) (hby : i.bytes = bytes) (hzs : z.cells.size = 1) (hbb : bytes ≤ 64)
    (A : Option Addr) (n c : Nat) (xs : List Value) (hs : a.eval s = .slice A n c) (hown : Own w base e A n c xs)
    (S : Option Addr) (m d : Nat) (news : List Value) (hx : a.eval x = .slice S m d) (hsrc : Src w S m news)
    (hmax : n + m ≤ 1099511627776) (hbase : base ≤ w.heap.size)
    (h : ∀ A' c' w', Own w' base e A' (n + m) c' (xs ++ news) → w.grownBy w' (blk A) → (blk A' = blk A ∨ blk A' = some w.heap.size) → K (a.put o.dst (.slice A' (n + m) c')) w') : o.wp P a w K Q := by
  obtain ⟨A', c', w', hrun, h2, h3, h4⟩ := run_app (P := P) w base t o.type e i z bytes ht hi hz hsize hby hzs A n c xs hown S m d news hsrc hmax hbb hbase
  unfold Oper.wp execOp
  simp only [ho, resolve, invoke, builtin, Sem.run_bind, Sem.run_pure, Result.andThen_ok, List.map_toArray, List.map_cons, List.map_nil, hs, hx, hrun]
  exact h A' c' w' h2 h3 h4

theorem wpList_app {ops : Array Oper} {rest : List Oper} {o : Oper} {a : Act} {Q : Exit → Act → World → Prop} (hgd : o.guard = none) (s x : Operand) (t : TypeId)
    (ho : o.op = .call { callee := .builtin .append, args := #[s, x], argTypes := #[t, t] })
    (base : Nat) (e : TypeId) (i : TypeInfo) (z : Value) (bytes : Nat) (ht : P.underlying t = some (.slice e)) (hi : P.info? e = some i) (hz : i.zero = some z)
    (hsize : i.size = 1) (hby : i.bytes = bytes) (hzs : z.cells.size = 1) (hbb : bytes ≤ 64)
    (A : Option Addr) (n c : Nat) (xs : List Value) (hs : a.eval s = .slice A n c) (hown : Own w base e A n c xs)
    (S : Option Addr) (m d : Nat) (news : List Value) (hx : a.eval x = .slice S m d) (hsrc : Src w S m news)
    (hmax : n + m ≤ 1099511627776) (hbase : base ≤ w.heap.size)
    (h : ∀ A' c' w', Own w' base e A' (n + m) c' (xs ++ news) → w.grownBy w' (blk A) → (blk A' = blk A ∨ blk A' = some w.heap.size) → wpList P ops Q rest (a.put o.dst (.slice A' (n + m) c')) w') : wpList P ops Q (o :: rest) a w :=
  wpList_plain hgd fun _ hK => wp_app w s x t ho base e i z bytes ht hi hz hsize hby hzs hbb A n c xs hs hown S m d news hx hsrc hmax hbase fun A' c' w' h2 h3 h4 => hK _ _ (h A' c' w' h2 h3 h4)

theorem step_app {ops : Array Oper} {o : Oper} {a : Act} {K : Act → World → Prop} {Q : Exit → Act → World → Prop} {E : Prop} (hgd : o.guard = none) (s x : Operand) (t : TypeId)
    (ho : o.op = .call { callee := .builtin .append, args := #[s, x], argTypes := #[t, t] })
    (base : Nat) (e : TypeId) (i : TypeInfo) (z : Value) (bytes : Nat) (ht : P.underlying t = some (.slice e)) (hi : P.info? e = some i) (hz : i.zero = some z)
    (hsize : i.size = 1) (hby : i.bytes = bytes) (hzs : z.cells.size = 1) (hbb : bytes ≤ 64)
    (A : Option Addr) (n c : Nat) (xs : List Value) (hs : a.eval s = .slice A n c) (hown : Own w base e A n c xs)
    (S : Option Addr) (m d : Nat) (news : List Value) (hx : a.eval x = .slice S m d) (hsrc : Src w S m news)
    (hmax : n + m ≤ 1099511627776) (hbase : base ≤ w.heap.size)
    (h : ∀ A' c' w', Own w' base e A' (n + m) c' (xs ++ news) → w.grownBy w' (blk A) → (blk A' = blk A ∨ blk A' = some w.heap.size) → K (a.put o.dst (.slice A' (n + m) c')) w') :
    if Region.wanted o (yielded ops a.tmps) = true then Oper.wp P o a w K Q else E := by
  have hw : Region.wanted o (yielded ops a.tmps) = true := by simp [Region.wanted, hgd]
  rw [if_pos hw]
  exact wp_app w s x t ho base e i z bytes ht hi hz hsize hby hzs hbb A n c xs hs hown S m d news hx hsrc hmax hbase h
end

/-- append of ints written out in the statement -/
theorem Src.lit1 (w : World) (e : TypeId) (k : IntKind) (x : Int) : Src (w.alloc (.cells #[.int k x] e)) (some ⟨w.heap.size, 0, none⟩) 1 [.int k x] :=
  Src.lit w [.int k x] e (by simp [Value.oneCell']) rfl
theorem Src.lit3 (w : World) (e : TypeId) (k : IntKind) (x y z : Int) : Src (w.alloc (.cells #[.int k x, .int k y, .int k z] e)) (some ⟨w.heap.size, 0, none⟩) 3 [.int k x, .int k y, .int k z] :=
  Src.lit w [.int k x, .int k y, .int k z] e (by simp [Value.oneCell']) rfl
theorem grown_step {w0 w w1 w2 : World} {row row2 : Option Nat} (h : w0.grownBy w row) (hb : Below w.heap.size w w1) (hg : w1.grownBy w2 row2) (hr : row2 = row ∨ ∃ g, row2 = some g ∧ w0.heap.size ≤ g) : w0.grownBy w2 row := by
  refine ⟨hg.os.trans (hb.os.trans h.os), hg.tape.trans (hb.tape.trans h.tape), hg.output.trans (hb.output.trans h.output), Nat.le_trans h.size (Nat.le_trans hb.size hg.size), fun i hi hne => ?_⟩
  have h1 : w.heap[i]? = w0.heap[i]? := h.block i hi hne
  have h2 : w1.heap[i]? = w.heap[i]? := hb.block i (Nat.lt_of_lt_of_le hi h.size)
  have h3 : w2.heap[i]? = w1.heap[i]? := hg.block i (Nat.lt_of_lt_of_le hi (Nat.le_trans h.size hb.size)) (by
    rcases hr with rfl | ⟨g, rfl, hg⟩
    · exact hne
    · intro e; injection e with e; omega)
  exact h3.trans (h2.trans h1)
theorem below_alloc (w : World) (o : Obj) : Below w.heap.size w (w.alloc o) := (Below.refl _ _).alloc (Nat.le_refl _) _

theorem drew_ex (w : World) (a b : Nat) : ∃ n, (w.drewN a).drewN b = w.drewN n := ⟨_, World.drewN_drewN _ _ _⟩
theorem below_drewN {B : Nat} {a w : World} (h : Below B a w) (n : Nat) : Below B a (w.drewN n) := ⟨h.os, h.tape, h.output, h.size, h.block⟩
theorem below_ex {w w' : World} (h : ∃ n, w' = w.drewN n) : Below w.heap.size w w' := by obtain ⟨n, rfl⟩ := h; exact below_drewN (Below.refl _ _) n

theorem made_nums (k : IntKind) (n : Nat) : (madeCells (Value.int k 0).cells (n * 1)).toList = nums k (List.replicate n 0) := by
  have : (Value.int k 0).cells = #[Value.int k 0] := rfl
  rw [this, Nat.mul_one, toList_madeCells_one]
  simp [nums]

/-- a store of a number into a row of numbers -/
theorem Own.storeNum {w : World} {base : Nat} {e : TypeId} {b o n c : Nat} {k : IntKind} {l : List Nat} (h : Own w base e (some ⟨b, o, none⟩) n c (nums k l)) (j x : Nat) :
    Own (w.setCell ⟨b, j, none⟩ (.int k x)) base e (some ⟨b, o, none⟩) n c (nums k (l.set j x)) := by
  have := (h.store j (.int k x)).1
  have e : (nums k l).set j (.int k x) = nums k (l.set j x) := by simp [nums, List.map_set]
  rwa [e] at this

theorem Own.zero {w : World} {base : Nat} {e : TypeId} {b o n c : Nat} {xs : List Value} (h : Own w base e (some ⟨b, o, none⟩) n c xs) : o = 0 := (h.store 0 (.bool false)).2.2.1
theorem Own.free {w : World} {base : Nat} {e : TypeId} {b o n c : Nat} {xs : List Value} (h : Own w base e (some ⟨b, o, none⟩) n c xs) (j : Nat) : w.frozen? ⟨b, j, none⟩ = false := (h.store j (.bool false)).2.2.2
theorem Own.cellNum {w : World} {base : Nat} {e : TypeId} {b o n c : Nat} {k : IntKind} {l : List Nat} (h : Own w base e (some ⟨b, o, none⟩) n c (nums k l)) (j : Nat) (hj : j < l.length) :
    w.cell? ⟨b, j, none⟩ = some (.int k ((l[j] : Nat) : Int)) := by
  have ho := h.zero
  obtain ⟨b', o', hA, _, hc⟩ := h.rd.num hj
  injection hA with hA
  injection hA with h1 h2
  subst h1 h2 ho
  simpa using hc

theorem ret_int {k : IntKind} {a b : Int} (h : a = b) : Ending.returned (.int k a) = .returned (.int k b) := by rw [h]
theorem ret_bool {a b : Bool} (h : a = b) : Ending.returned (.bool a) = .returned (.bool b) := by rw [h]

end Go.Proofs.YtdconlmpjehohaaDoor
