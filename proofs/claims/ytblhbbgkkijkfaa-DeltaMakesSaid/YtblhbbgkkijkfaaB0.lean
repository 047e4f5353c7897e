/- The words that all texts of this seat use: what a call may have changed, what a slice reads as, small lemmas on worlds. -/
import Derived.Test.YtblhbbgkkijkfaaProg
import Derived.WalkKit
import Derived.KernelRfl
import Derived.Maps.OwnSet
import Derived.BigQuiet
import Derived.Deep.QuietTactic
import Derived.Deep.LoopGhost
import Derived.Deep.DeepCutAuto
import Derived.Deep.CutBlock
import Derived.Deep.RegionWith
import Derived.Lib.Hide
import Derived.WalkLawsBesides
import Derived.WalkSpells
import Derived.Maps.AppendAt
import Derived.Deep.AppendLies
import Derived.Deep.RegionLaw
namespace Go.Proofs.Ytblhbbgkkijkfaa
open Go.RowKit Go.Maps

/-! ### What a call may have changed: blocks of M alone, and new blocks -/
structure Mods (M : Nat → Prop) (w w' : World) : Prop where
  os : w'.os = w.os
  tape : w'.tape = w.tape
  output : w'.output = w.output
  size : w.heap.size ≤ w'.heap.size
  block : ∀ k, k < w.heap.size → ¬ M k → w'.heap[k]? = w.heap[k]?

theorem Mods.refl (M : Nat → Prop) (w : World) : Mods M w w := ⟨rfl, rfl, rfl, Nat.le_refl _, fun _ _ _ => rfl⟩
theorem Mods.trans {M : Nat → Prop} {a b c : World} (h : Mods M a b) (k : Mods M b c) : Mods M a c :=
  ⟨k.os.trans h.os, k.tape.trans h.tape, k.output.trans h.output, Nat.le_trans h.size k.size,
    fun i hi hm => (k.block i (Nat.lt_of_lt_of_le hi h.size) hm).trans (h.block i hi hm)⟩
/-- What a later call changes is allowed, or is new since the first world. -/
theorem Mods.then {M N : Nat → Prop} {a b c : World} (h : Mods M a b) (k : Mods N b c) (hN : ∀ i, i < a.heap.size → N i → M i) : Mods M a c :=
  ⟨k.os.trans h.os, k.tape.trans h.tape, k.output.trans h.output, Nat.le_trans h.size k.size,
    fun i hi hm => (k.block i (Nat.lt_of_lt_of_le hi h.size) (fun hn => hm (hN i hi hn))).trans (h.block i hi hm)⟩
theorem Mods.mono {M N : Nat → Prop} {w w' : World} (h : Mods M w w') (hMN : ∀ i, i < w.heap.size → M i → N i) : Mods N w w' :=
  ⟨h.os, h.tape, h.output, h.size, fun i hi hn => h.block i hi (fun hm => hn (hMN i hi hm))⟩
theorem Mods.alloc {M : Nat → Prop} {a w : World} (h : Mods M a w) (o : Obj) : Mods M a (w.alloc o) :=
  ⟨h.os, h.tape, h.output, Nat.le_trans h.size (by simp), fun i hi hm => by
    rw [Below.heap_alloc _ _ _ (Nat.lt_of_lt_of_le hi h.size)]; exact h.block i hi hm⟩
theorem Mods.drew {M : Nat → Prop} {a w : World} (h : Mods M a w) : Mods M a w.drew := ⟨h.os, h.tape, h.output, h.size, h.block⟩
theorem Mods.drewN {M : Nat → Prop} {a w : World} (h : Mods M a w) (n : Nat) : Mods M a (w.drewN n) := ⟨h.os, h.tape, h.output, h.size, h.block⟩
theorem Mods.setCell {M : Nat → Prop} {a w : World} (h : Mods M a w) (p : Addr) (hp : p.block < a.heap.size → M p.block) (u : Value) : Mods M a (w.setCell p u) :=
  ⟨h.os, h.tape, h.output, Nat.le_trans h.size (by simp [World.setCell]), fun i hi hm => by
    rw [Below.heap_setCell _ _ _ _ (fun e => by subst e; exact hm (hp hi))]; exact h.block i hi hm⟩
theorem Mods.grown {M : Nat → Prop} {a w w' : World} {row : Option Nat} (h : Mods M a w) (hg : w.grownBy w' row) (hr : ∀ k, row = some k → k < a.heap.size → M k) : Mods M a w' :=
  ⟨hg.os.trans h.os, hg.tape.trans h.tape, hg.output.trans h.output, Nat.le_trans h.size hg.size,
    fun i hi hm => (hg.block i (Nat.lt_of_lt_of_le hi h.size) (fun e => hm (hr i e.symm hi))).trans (h.block i hi hm)⟩
theorem Mods.below {M : Nat → Prop} {w w' : World} (h : Mods M w w') {B : Nat} (hB : B ≤ w.heap.size) (hM : ∀ k, k < B → ¬ M k) : Below B w w' :=
  ⟨h.os, h.tape, h.output, h.size, fun k hk => h.block k (by omega) (hM k hk)⟩
theorem Mods.of_below {w w' : World} (h : Below w.heap.size w w') (M : Nat → Prop) : Mods M w w' :=
  ⟨h.os, h.tape, h.output, h.size, fun k hk _ => h.block k hk⟩
/-- Nothing old has changed. -/
def Nope (_ : Nat) : Prop := False
theorem Mods.nope {w w' : World} (h : Mods Nope w w') : Below w.heap.size w w' := h.below (Nat.le_refl _) (fun _ _ h => h)
theorem Mods.any {w w' : World} (h : Mods Nope w w') (M : Nat → Prop) : Mods M w w' := h.mono (fun _ _ h => h.elim)

theorem lt_of_cell {w : World} {a : Addr} {v : Value} (h : w.cell? a = some v) : a.block < w.heap.size := World.block_lt_of_cell? w a h
theorem Mods.cell {M : Nat → Prop} {w w' : World} (h : Mods M w w') {a : Addr} {v : Value} (hc : w.cell? a = some v) (hm : ¬ M a.block) : w'.cell? a = some v :=
  (World.cell?_of_block (w := w) (h.block a.block (lt_of_cell hc) hm)).trans hc
theorem Mods.frozen {M : Nat → Prop} {w w' : World} (h : Mods M w w') {a : Addr} (hl : a.block < w.heap.size) (hm : ¬ M a.block) : w'.frozen? a = w.frozen? a :=
  World.frozen?_of_block (w := w) (h.block a.block hl hm)
theorem Mods.row {M : Nat → Prop} {w w' : World} (h : Mods M w w') {b : Nat} {o : Obj} (hb : w.heap[b]? = some o) (hm : ¬ M b) : w'.heap[b]? = some o :=
  (h.block b (Array.getElem?_eq_some_iff.1 hb).1 hm).trans hb
theorem Mods.grownBy {M : Nat → Prop} {w w' : World} (h : Mods M w w') {b : Option Nat} (hm : ∀ k, k < w.heap.size → M k → some k = b) : w.grownBy w' b :=
  ⟨h.os, h.tape, h.output, h.size, fun k hk hne => h.block k hk (fun hM => hne (hm k hk hM))⟩
/-- An owned row while other blocks change. -/
theorem Mods.owns {M : Nat → Prop} {w w' : World} (h : Mods M w w') {base : Nat} {e : TypeId} {size n : Nat} {v : Value} {xs : List Value}
    (ho : w.ownsRow base e size v n xs) (hm : ∀ k, v.ownBlock = some k → ¬ M k) : w'.ownsRow base e size v n xs := by
  refine ⟨ho.1, ?_⟩
  rcases ho.2 with hn | ⟨g, cap, cur, rfl, hb, hgg, rest⟩
  · exact .inl hn
  · exact .inr ⟨g, cap, cur, rfl, hb, h.row hgg (hm g rfl), rest⟩
theorem Mods.ownsMap {M : Nat → Prop} {w w' : World} (h : Mods M w w') {P : Program} {k : TypeId} {R : Value → Option (DataW Unit × List MemPlace)} {b n : Nat} {D : DataW Unit}
    (ho : w.ownsMap P k R b n D) (hm : ¬ M b) : w'.ownsMap P k R b n D := by
  obtain ⟨es, clock, hb, rest⟩ := ho
  exact ⟨es, clock, h.row hb hm, rest⟩

/-! ### What a slice reads as -/
/-- The cells that stand from A on are these. -/
def Rd (w : World) (A : Option Addr) (vs : List Value) : Prop :=
  ∀ (j : Nat) u, vs[j]? = some u → ∃ b off, A = some ⟨b, off, none⟩ ∧ w.cell? ⟨b, off + j, none⟩ = some u
theorem Rd.nil (w : World) (A : Option Addr) : Rd w A [] := fun j u h => by simp at h
theorem Rd.mods {M : Nat → Prop} {w w' : World} {A : Option Addr} {vs : List Value} (h : Rd w A vs) (hm : Mods M w w') (hA : ∀ a, A = some a → ¬ M a.block) : Rd w' A vs := by
  intro j u hu
  obtain ⟨b, off, e, hc⟩ := h j u hu
  exact ⟨b, off, e, hm.cell hc (hA ⟨b, off, none⟩ e)⟩
theorem Rd.below {w w' : World} {A : Option Addr} {vs : List Value} (h : Rd w A vs) (hm : Mods Nope w w') : Rd w' A vs := h.mods hm (fun _ _ h => h)
theorem Rd.alloc {w : World} {A : Option Addr} {vs : List Value} (h : Rd w A vs) (o : Obj) : Rd (w.alloc o) A vs := h.below ((Mods.refl _ _).alloc o)
theorem Rd.drewN {w : World} {A : Option Addr} {vs : List Value} (h : Rd w A vs) (n : Nat) : Rd (w.drewN n) A vs := h
theorem add_plain (g j : Nat) : (⟨g, 0, none⟩ : Addr).add j = ⟨g, j, none⟩ := by unfold Addr.add; split <;> simp_all
theorem Rd.of_owns {w : World} {base : Nat} {e : TypeId} {size n : Nat} {v : Value} {xs : List Value} (h : w.ownsRow base e size v n xs) :
    ∃ A c, v = .slice A n c ∧ n ≤ c ∧ c ≤ maxLen ∧ Rd w A xs ∧ (∀ a, A = some a → v.ownBlock = some a.block ∧ base ≤ a.block ∧ a.block < w.heap.size) := by
  rcases h.2 with ⟨rfl, rfl⟩ | ⟨g, cap, cur, rfl, hb, hgg, h1, h2, h3, h4⟩
  · refine ⟨none, 0, rfl, Nat.le_refl _, by simp [maxLen], ?_, fun a e => by cases e⟩
    have : xs = [] := List.eq_nil_of_length_eq_zero (by simpa using h.1)
    subst this
    exact Rd.nil _ _
  · refine ⟨_, cap, rfl, h1, h2, fun j u hu => ⟨g, 0, rfl, ?_⟩, fun a e => ?_⟩
    · have := h.cells (g := g) rfl j u hu
      rwa [add_plain, show j = 0 + j by omega] at this
    · cases e
      exact ⟨rfl, hb, (Array.getElem?_eq_some_iff.1 hgg).1⟩

/-- Integers, strings, bytes as cells. -/
def ints (xs : List Int) : List Value := xs.map (Value.int .i64)
def strs (ss : List ByteArray) : List Value := ss.map Value.string
theorem ints_length (xs : List Int) : (ints xs).length = xs.length := by simp [ints]
theorem strs_length (xs : List ByteArray) : (strs xs).length = xs.length := by simp [strs]
theorem ints_append (xs ys : List Int) : ints (xs ++ ys) = ints xs ++ ints ys := by simp [ints]
theorem strs_append (xs ys : List ByteArray) : strs (xs ++ ys) = strs xs ++ strs ys := by simp [strs]
theorem Rd.int {w : World} {A : Option Addr} {xs : List Int} (h : Rd w A (ints xs)) (i : Nat) (hi : i < xs.length) :
    ∃ b off, A = some ⟨b, off, none⟩ ∧ w.cell? ⟨b, off + i, none⟩ = some (.int .i64 xs[i]) :=
  h i _ (by simp [ints, hi])
theorem Rd.str {w : World} {A : Option Addr} {xs : List ByteArray} (h : Rd w A (strs xs)) (i : Nat) (hi : i < xs.length) :
    ∃ b off, A = some ⟨b, off, none⟩ ∧ w.cell? ⟨b, off + i, none⟩ = some (.string xs[i]) :=
  h i _ (by simp [strs, hi])

theorem ret_int {k : IntKind} {a b : Int} (h : a = b) : Ending.returned (.int k a) = .returned (.int k b) := by rw [h]
theorem ret_bool {a b : Bool} (h : a = b) : Ending.returned (.bool a) = .returned (.bool b) := by rw [h]
theorem ret_str {a b : ByteArray} (h : a = b) : Ending.returned (.string a) = .returned (.string b) := by rw [h]
theorem val_int {k : IntKind} {a b : Int} (h : a = b) : Value.int k a = .int k b := by rw [h]
/-- A fact for the walk, which is not looked into. -/
structure Aside0 (p : Prop) : Prop where mk :: (out : p)
/-- For a look at where a walk ends. -/
def Show (_ : Ending) (_ : World) : Prop := False

/-! ### Blocks and rows -/
theorem own_ne_row {w : World} {base e size n g e' : Nat} {v : Value} {xs : List Value} {cs : Array Value} {fr : Nat × Nat} (h : w.ownsRow base e size v n xs) (hg : w.heap[g]? = some (.cells cs e' fr)) (hne : e ≠ e') : ∀ k, v.ownBlock = some k → k ≠ g := by
  rintro k hk rfl
  rcases h.2 with ⟨rfl, _⟩ | ⟨g', cap, cur, rfl, _, hh, _⟩
  · simp [Value.ownBlock] at hk
  · obtain rfl : g' = k := by simpa [Value.ownBlock] using hk
    rw [hh] at hg
    injection hg with hg
    injection hg with _ ht
    exact hne ht
theorem own_ne_own {w : World} {b b' e e' s s' n n' : Nat} {v v' : Value} {xs xs' : List Value} (h : w.ownsRow b e s v n xs) (h' : w.ownsRow b' e' s' v' n' xs') (hne : e ≠ e') : ∀ k, v.ownBlock = some k → v'.ownBlock ≠ some k := by
  intro k hk hk'
  rcases h'.2 with ⟨rfl, _⟩ | ⟨g', cap, cur, rfl, _, hh, _⟩
  · simp [Value.ownBlock] at hk'
  · obtain rfl : g' = k := by simpa [Value.ownBlock] using hk'
    exact own_ne_row h hh hne g' hk rfl
theorem own_base {w : World} {base e size n : Nat} {v : Value} {xs : List Value} (h : w.ownsRow base e size v n xs) {b : Nat} (hb : b ≤ base) : w.ownsRow b e size v n xs := by
  refine ⟨h.1, ?_⟩
  rcases h.2 with h | ⟨g, cap, cur, hv, hg, rest⟩
  · exact .inl h
  · exact .inr ⟨g, cap, cur, hv, by omega, rest⟩
theorem row_set {w : World} {g e : Nat} {cur : Array Value} (h : w.heap[g]? = some (.cells cur e (0, 0))) (j : Nat) (u : Value) : (w.setCell ⟨g, j, none⟩ u).heap[g]? = some (.cells (cur.setIfInBounds j u) e (0, 0)) :=
  heap_setCell_same w g j cur e u h
theorem row_other {w : World} {g : Nat} {o : Obj} (h : w.heap[g]? = some o) (a : Addr) (ha : g ≠ a.block) (u : Value) : (w.setCell a u).heap[g]? = some o := by
  rw [Below.heap_setCell _ _ _ _ ha]; exact h
theorem row_cell {w : World} {g e : Nat} {cur : Array Value} {fr : Nat × Nat} (h : w.heap[g]? = some (.cells cur e fr)) (j : Nat) : w.cell? ⟨g, j, none⟩ = cur[j]? := cell_of_row w g j cur e fr h
theorem row_frozen {w : World} {g e : Nat} {cur : Array Value} (h : w.heap[g]? = some (.cells cur e (0, 0))) (j : Nat) : w.frozen? ⟨g, j, none⟩ = false := frozen_of_row w g j cur e h
theorem row_lt {w : World} {g : Nat} {o : Obj} (h : w.heap[g]? = some o) : g < w.heap.size := (Array.getElem?_eq_some_iff.1 h).1
theorem row_alloc {w : World} {g : Nat} {o : Obj} (h : w.heap[g]? = some o) (o' : Obj) : (w.alloc o').heap[g]? = some o := by
  rw [Below.heap_alloc _ _ _ (row_lt h)]; exact h

section
variable {P : Program} {ops : Array Oper} {o : Oper} {a : Act} {Q : Exit → Act → World → Prop}
/-- append(v, y) of one cell: at a step of a region that draws. -/
theorem step_app1 {K : Act → World → Prop} {E : Prop} (wa : World) (hgd : o.guard = none) (s x : Operand) (t e : TypeId) (z : Value) (bytes : Nat)
    (ho : o.op = .call { callee := .builtin .append, args := #[s, x], argTypes := #[t, t] })
    (ht : P.underlying t = some (.slice e)) (hinfo : (P.info? e).map (fun i => (i.zero, i.size, i.bytes)) = some (some z, 1, bytes)) (hz : z.cells.size = 1) (hb0 : 0 < bytes)
    (v : Value) (xs : List Value) (y : Value) (B : Nat) (hs : a.eval s = v) (hx : a.eval x = .slice (some ⟨B, 0, none⟩) 1 1) (hy : wa.cell? ⟨B, 0, none⟩ = some y) (h1 : y.oneCell' = true)
    (base : Nat) (HO : wa.ownsRow base e 1 v xs.length xs) (hbase : base ≤ wa.heap.size) (hl : (xs.length + 1) * bytes ≤ 140737488355328)
    (h : ∀ g cap w1, w1.ownsRow base e 1 (.slice (some ⟨g, 0, none⟩) (xs.length + 1) cap) (xs.length + 1) (xs ++ [y]) → wa.grownBy w1 v.ownBlock → (v.ownBlock = some g ∨ wa.heap.size ≤ g) → K (a.put o.dst (.slice (some ⟨g, 0, none⟩) (xs.length + 1) cap)) w1) :
    if Region.wanted o (yielded ops a.tmps) = true then Oper.wp P o a wa K Q else E := by
  obtain ⟨i0, hi, hzz⟩ := Option.map_eq_some_iff.1 hinfo
  simp only [Prod.mk.injEq] at hzz
  obtain ⟨hz0, hz1, hz2⟩ := hzz
  have hlen : xs.length + 1 ≤ 140737488355328 := Nat.le_trans (Nat.le_mul_of_pos_right _ hb0) hl
  refine step_append_lies wa hgd s x t ho base e i0 z 1 bytes ht hi hz0 hz1 hz2 hz (by omega) v xs.length xs hs HO ⟨B, 0, none⟩ 1 1 [y] hx rfl ?_ (by simpa using h1) (by omega) (by simp only [maxLen]; omega) hl hbase _ rfl ?_
  · intro j u hu
    rw [add_plain]
    rcases j with _ | j
    · simp only [List.getElem?_cons_zero, Option.some.injEq] at hu; subst hu; exact hy
    · simp at hu
  · intro g cap w1 h2 h3 h4 _
    exact h g cap w1 h2 h3 (h4.imp id (fun e => by omega))
/-- The same at a plain region's list. -/
theorem wpList_app1 {rest : List Oper} (wa : World) (hgd : o.guard = none) (s x : Operand) (t e : TypeId) (z : Value) (bytes : Nat)
    (ho : o.op = .call { callee := .builtin .append, args := #[s, x], argTypes := #[t, t] })
    (ht : P.underlying t = some (.slice e)) (hinfo : (P.info? e).map (fun i => (i.zero, i.size, i.bytes)) = some (some z, 1, bytes)) (hz : z.cells.size = 1) (hb0 : 0 < bytes)
    (v : Value) (xs : List Value) (y : Value) (B : Nat) (hs : a.eval s = v) (hx : a.eval x = .slice (some ⟨B, 0, none⟩) 1 1) (hy : wa.cell? ⟨B, 0, none⟩ = some y) (h1 : y.oneCell' = true)
    (base : Nat) (HO : wa.ownsRow base e 1 v xs.length xs) (hbase : base ≤ wa.heap.size) (hl : (xs.length + 1) * bytes ≤ 140737488355328)
    (h : ∀ g cap w1, w1.ownsRow base e 1 (.slice (some ⟨g, 0, none⟩) (xs.length + 1) cap) (xs.length + 1) (xs ++ [y]) → wa.grownBy w1 v.ownBlock → (v.ownBlock = some g ∨ wa.heap.size ≤ g) → wpList P ops Q rest (a.put o.dst (.slice (some ⟨g, 0, none⟩) (xs.length + 1) cap)) w1) :
    wpList P ops Q (o :: rest) a wa := by
  refine wpList_step (fun K hK => ?_)
  exact step_app1 (E := K (a.put o.dst undef) wa) wa hgd s x t e z bytes ho ht hinfo hz hb0 v xs y B hs hx hy h1 base HO hbase hl (fun g cap w1 h2 h3 h4 => hK _ _ (h g cap w1 h2 h3 h4))
end

theorem info3 : (Try.prog.info? 3).map (fun i => (i.zero, i.size, i.bytes)) = some (some (.int .i64 0), 1, 8) := by kernel_rfl
theorem info5 : (Try.prog.info? 5).map (fun i => (i.zero, i.size, i.bytes)) = some (some (.int .u8 0), 1, 1) := by kernel_rfl
theorem info9 : (Try.prog.info? 9).map (fun i => (i.zero, i.size, i.bytes)) = some (some (.string ⟨#[]⟩), 1, 16) := by kernel_rfl
end Go.Proofs.Ytblhbbgkkijkfaa
