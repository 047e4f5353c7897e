/- A slice that begins anywhere in a block of its own: appending, cutting off ahead. -/
import Derived.Test.YtblhbbgkkijkfaaB0
import Derived.ArgAppend
import Derived.Lib.AppendStr
namespace Go.Proofs.Ytblhbbgkkijkfaa
open Go.RowKit Go.Maps
/-- v is a slice of these cells, in a block of the call's own, anywhere in it. -/
def OwnsAt (w : World) (base : Nat) (e : TypeId) (v : Value) (xs : List Value) : Prop :=
  (v = .slice none 0 0 ∧ xs = []) ∨
  ∃ (g : Nat) (pre post tail : List Value), v = .slice (some ⟨g, pre.length, none⟩) xs.length (xs.length + post.length) ∧ base ≤ g ∧ w.heap[g]? = some (.cells (pre ++ (xs ++ (post ++ tail))).toArray e (0, 0)) ∧ xs.length + post.length ≤ maxLen
theorem OwnsAt.of_row {w : World} {base e n : Nat} {v : Value} {xs : List Value} (h : w.ownsRow base e 1 v n xs) : OwnsAt w base e v xs := by
  have hn : xs.length = n := by simpa using h.1
  rcases h.2 with ⟨hv, h0⟩ | ⟨g, cap, cur, hv, hb, hg, h1, h2, h3, h4⟩
  · exact .inl ⟨hv, List.eq_nil_of_length_eq_zero (by omega)⟩
  · refine .inr ⟨g, [], cur.toList.drop n, [], ?_, hb, ?_, ?_⟩
    · have h5 : (cur.toList.drop n).length = cap - n := by rw [List.length_drop, Array.length_toList (xs := cur)]; omega
      rw [hv, hn, h5, List.length_nil, show n + (cap - n) = cap by omega]
    · rw [hg, ← h4]
      simp
    · have h5 : (cur.toList.drop n).length = cap - n := by rw [List.length_drop, Array.length_toList (xs := cur)]; omega
      rw [h5]
      omega
theorem OwnsAt.mods {M : Nat → Prop} {w w' : World} {base : Nat} {e : TypeId} {v : Value} {xs : List Value} (h : OwnsAt w base e v xs) (hm : Mods M w w') (hn : ∀ k, v.ownBlock = some k → ¬ M k) : OwnsAt w' base e v xs := by
  rcases h with h | ⟨g, pre, post, tail, rfl, hb, hg, hl⟩
  · exact .inl h
  · exact .inr ⟨g, pre, post, tail, rfl, hb, hm.row hg (hn g rfl), hl⟩
theorem OwnsAt.rd {w : World} {base : Nat} {e : TypeId} {v : Value} {xs : List Value} (h : OwnsAt w base e v xs) :
    ∃ A c, v = .slice A xs.length c ∧ xs.length ≤ c ∧ c ≤ maxLen ∧ Rd w A xs ∧ (∀ a, A = some a → v.ownBlock = some a.block ∧ base ≤ a.block ∧ a.block < w.heap.size) := by
  rcases h with ⟨rfl, rfl⟩ | ⟨g, pre, post, tail, rfl, hb, hg, hl⟩
  · exact ⟨none, 0, rfl, Nat.le_refl _, by simp [maxLen], Rd.nil _ _, fun a e => by cases e⟩
  · refine ⟨_, _, rfl, by omega, hl, fun j u hu => ⟨g, pre.length, rfl, ?_⟩, fun a ha => ?_⟩
    · rw [row_cell hg]
      have hj : j < xs.length := (List.getElem?_eq_some_iff.1 hu).1
      rw [List.getElem?_toArray, List.getElem?_append_right (by omega), Nat.add_sub_cancel_left, List.getElem?_append_left hj]
      exact hu
    · cases ha
      exact ⟨rfl, hb, row_lt hg⟩
theorem OwnsAt.ne_row {w : World} {base e g e' : Nat} {v : Value} {xs : List Value} {cs : Array Value} {fr : Nat × Nat} (h : OwnsAt w base e v xs) (hg : w.heap[g]? = some (.cells cs e' fr)) (hne : e ≠ e') : ∀ k, v.ownBlock = some k → k ≠ g := by
  rintro k hk rfl
  rcases h with ⟨rfl, _⟩ | ⟨g', pre, post, tail, rfl, _, hh, _⟩
  · simp [Value.ownBlock] at hk
  · obtain rfl : g' = k := by simpa [Value.ownBlock] using hk
    rw [hh] at hg
    injection hg with hg
    injection hg with _ ht
    exact hne ht
theorem OwnsAt.lt {w : World} {base e : Nat} {v : Value} {xs : List Value} (h : OwnsAt w base e v xs) : ∀ k, v.ownBlock = some k → base ≤ k ∧ k < w.heap.size := by
  intro k hk
  rcases h with ⟨rfl, _⟩ | ⟨g', pre, post, tail, rfl, hb, hh, _⟩
  · simp [Value.ownBlock] at hk
  · obtain rfl : g' = k := by simpa [Value.ownBlock] using hk
    exact ⟨hb, row_lt hh⟩
/-- What is cut off ahead. -/
theorem OwnsAt.drop {w : World} {base : Nat} {e : TypeId} {A : Option Addr} {c n : Nat} {xs : List Value} (h : OwnsAt w base e (.slice A xs.length c) xs) (hn : n ≤ xs.length) (h0 : 0 < xs.length) :
    OwnsAt w base e (.slice (if c = n then A else A.map (·.add n)) (xs.length - n) (c - n)) (xs.drop n) := by
  rcases h with ⟨_, rfl⟩ | ⟨g, pre, post, tail, hv, hb, hg, hl⟩
  · simp at h0
  · injection hv with hA _ hc
    subst hA
    subst hc
    by_cases he : xs.length + post.length = n
    · rw [if_pos he]
      have h1 : n = xs.length := by omega
      have h2 : post = [] := List.eq_nil_of_length_eq_zero (by omega)
      subst h1
      subst h2
      refine .inr ⟨g, pre, [], xs ++ tail, ?_, hb, ?_, ?_⟩
      · simp
      · rw [hg]; simp
      · simp [maxLen]
    · rw [if_neg he]
      refine .inr ⟨g, pre ++ xs.take n, post, tail, ?_, hb, ?_, ?_⟩
      · simp only [Option.map_some, List.length_append, List.length_take, List.length_drop, Nat.min_eq_left hn]
        rw [show (⟨g, pre.length, none⟩ : Addr).add n = ⟨g, pre.length + n, none⟩ by unfold Addr.add; split <;> simp_all]
        congr 1
        omega
      · rw [hg]
        congr 3
        rw [List.append_assoc, ← List.append_assoc (xs.take n), List.take_append_drop]
      · rw [List.length_drop]; omega
section
variable {P : Program}
theorem cut_row {pre xs post tail news : List Value} (hm : news.length ≤ post.length) :
    (pre ++ (xs ++ (post ++ tail))).take (pre.length + xs.length) ++ news ++ (pre ++ (xs ++ (post ++ tail))).drop (pre.length + xs.length + news.length) = pre ++ ((xs ++ news) ++ (post.drop news.length ++ tail)) := by
  have h1 : (pre ++ (xs ++ (post ++ tail))).take (pre.length + xs.length) = pre ++ xs := by
    rw [← List.append_assoc, ← List.length_append, List.take_left]
  have h2 : (pre ++ (xs ++ (post ++ tail))).drop (pre.length + xs.length + news.length) = post.drop news.length ++ tail := by
    rw [← List.append_assoc, ← List.length_append, ← List.drop_drop, List.drop_left, List.drop_append_of_le_length hm]
  rw [h1, h2]
  simp
/-- Appending one cell. -/
theorem OwnsAt.app1 {w : World} (base : Nat) (t ty e : TypeId) (i : TypeInfo) (z : Value) (bytes : Nat) (ht : P.underlying t = some (.slice e)) (hi : P.info? e = some i) (hz : i.zero = some z)
    (hsize : i.size = 1) (hby : i.bytes = bytes) (hzs : z.cells.size = 1) (v : Value) (xs : List Value) (h : OwnsAt w base e v xs)
    (a : Addr) (c : Nat) (y : Value) (hy : w.cell? a = some y) (h1 : y.oneCell' = true) (h63 : xs.length + 1 ≤ maxLen) (hbytes : (xs.length + 1) * bytes ≤ 140737488355328) (hbase : base ≤ w.heap.size) :
    ∃ v' w', (Builtin.append_ #[t, t] ty #[v, .slice (some a) 1 c]).run P w = .ok v' w' ∧ OwnsAt w' base e v' (xs ++ [y]) ∧ w.grownBy w' v.ownBlock ∧ (v'.ownBlock = v.ownBlock ∨ ∀ k, v'.ownBlock = some k → w.heap.size ≤ k) := by
  have hnews : ∀ j u, [y][j]? = some u → w.cell? (a.add j) = some u := by
    intro j u hu
    have hj : j = 0 := by
      have := (List.getElem?_eq_some_iff.1 hu).1
      simp at this
      exact this
    subst hj
    have : a.add 0 = a := by unfold Addr.add; split <;> simp_all
    rw [this, hy]
    simpa using hu
  have h1' : ∀ u ∈ [y], u.oneCell' = true := by simpa using h1
  rcases h with ⟨rfl, rfl⟩ | ⟨g, pre, post, tail, rfl, hb, hg, hl⟩
  · obtain ⟨v', w', r1, r2, r3, _, r5⟩ := run_append_own_at (P := P) w base t ty e i z 1 bytes ht hi hz hsize hby hzs (by omega) (.slice none 0 0) 0 [] (World.ownsRow_nil w base e 1) a 1 c [y] (by simp) hnews h1' (by simpa using h63) (by simpa using hbytes) hbase
    exact ⟨v', w', r1, OwnsAt.of_row r2, r3, r5.imp id (fun h k hk => by rw [h] at hk; cases hk; exact Nat.le_refl _)⟩
  · by_cases hroom : 1 ≤ post.length
    · have hfit : pre.length + xs.length + [y].length ≤ (pre ++ (xs ++ (post ++ tail))).toArray.size := by simp; omega
      have hst := run_storeCells_at P g (pre.length + xs.length) e [y] 0 _ w hg (by simpa using hfit) h1'
      have hfc := run_firstCells_some (P := P) w i.size 1 a 1 c [y] (by rw [hsize]; rfl) hnews
      have hr : (Builtin.append_ #[t, t] ty #[.slice (some ⟨g, pre.length, none⟩) xs.length (xs.length + post.length), .slice (some a) 1 c]).run P w = .ok (.slice (some ⟨g, pre.length, none⟩) (xs.length + 1) (xs.length + post.length)) (w.setRow g (pre ++ ((xs ++ [y]) ++ (post.drop 1 ++ tail))).toArray) := by
        have hcr := cut_row (pre := pre) (xs := xs) (tail := tail) (news := [y]) (post := post) hroom
        simp only [List.length_cons, List.length_nil, Nat.zero_add] at hcr hst
        rw [← hcr]
        simp only [Nat.add_zero] at hst
        simp [Builtin.append_, run_underlying ht, sizeOf, typeInfo, hi, hsize, Builtin.lenOf, hroom, Addr.add_lit, hst, hsize ▸ hfc]
      refine ⟨_, _, hr, .inr ⟨g, pre, post.drop 1, tail, ?_, hb, setRow_heap w g _ _ e _ hg, ?_⟩, ⟨rfl, rfl, rfl, by simp, fun k _ hk => setRow_other w g k _ (fun e => hk (by simp [Value.ownBlock, e]))⟩, .inl rfl⟩
      · simp only [List.length_append, List.length_cons, List.length_nil, List.length_drop]
        congr 1
        omega
      · simp only [List.length_append, List.length_cons, List.length_nil, List.length_drop]
        omega
    · have holds : ∀ j u, xs[j]? = some u → w.cell? ((⟨g, pre.length, none⟩ : Addr).add j) = some u := by
        intro j u hu
        have hj : j < xs.length := (List.getElem?_eq_some_iff.1 hu).1
        have : (⟨g, pre.length, none⟩ : Addr).add j = ⟨g, pre.length + j, none⟩ := by unfold Addr.add; split <;> simp_all
        rw [this, row_cell hg, List.getElem?_toArray, List.getElem?_append_right (by omega), Nat.add_sub_cancel_left, List.getElem?_append_left hj]
        exact hu
      obtain ⟨v', w', r1, r2, r3⟩ := run_append_arg_grows (P := P) w t ty e i z 1 bytes ht hi hz hsize hby hzs (by omega) ⟨g, pre.length, none⟩ xs.length (xs.length + post.length) xs (by simp) holds a 1 c [y] (by simp) hnews (by omega) h63 hbytes
      refine ⟨v', w', r1, OwnsAt.of_row (own_base r2 hbase), ⟨r3.os, r3.tape, r3.output, r3.size, fun k hk _ => r3.block k hk (by simp)⟩, .inr (fun k hk => (r2.lt k hk).1)⟩
/-- Appending a string's bytes. -/
theorem OwnsAt.appStr {w : World} (base : Nat) (t u ty e : TypeId) (i : TypeInfo) (ht : P.underlying t = some (.slice e)) (hu : P.underlying u = some .string) (hi : P.info? e = some i) (hz : i.zero = some (.int .u8 0))
    (hsize : i.size = 1) (hby : i.bytes = 1) (v : Value) (xs : List Value) (h : OwnsAt w base e v xs) (s : ByteArray)
    (h63 : xs.length + s.size ≤ maxLen) (hbytes : xs.length + s.size ≤ 140737488355328) (hbase : base ≤ w.heap.size) :
    ∃ v' w', (Builtin.append_ #[t, u] ty #[v, .string s]).run P w = .ok v' w' ∧ OwnsAt w' base e v' (xs ++ Lib.strCells s) ∧ w.grownBy w' v.ownBlock := by
  have hsl := Lib.strCells_length s
  rcases h with ⟨rfl, rfl⟩ | ⟨g, pre, post, tail, rfl, hb, hg, hl⟩
  · obtain ⟨v', w', r1, r2, r3, _⟩ := Lib.run_append_own_string (P := P) w base t u ty e i ht hu hi hz hsize hby (.slice none 0 0) 0 [] (World.ownsRow_nil w base e 1) s (by simpa using h63) (by simpa using hbytes) hbase
    exact ⟨v', w', r1, OwnsAt.of_row r2, r3⟩
  · by_cases hroom : s.size ≤ post.length
    · have hfit : pre.length + xs.length + (Lib.strCells s).length ≤ (pre ++ (xs ++ (post ++ tail))).toArray.size := by simp; omega
      have hst := run_storeCells_at P g (pre.length + xs.length) e (Lib.strCells s) 0 _ w hg (by simpa using hfit) (Lib.strCells_oneCell s)
      have hf := Lib.run_firstCells_string (P := P) w 1 s
      have hcr := cut_row (pre := pre) (xs := xs) (tail := tail) (news := Lib.strCells s) (post := post) (by omega)
      have hr : (Builtin.append_ #[t, u] ty #[.slice (some ⟨g, pre.length, none⟩) xs.length (xs.length + post.length), .string s]).run P w = .ok (.slice (some ⟨g, pre.length, none⟩) (xs.length + s.size) (xs.length + post.length)) (w.setRow g (pre ++ ((xs ++ Lib.strCells s) ++ (post.drop (Lib.strCells s).length ++ tail))).toArray) := by
        rw [← hcr]
        simp only [Nat.add_zero] at hst
        simp [Builtin.append_, run_underlying ht, run_underlying hu, sizeOf, typeInfo, hi, hsize, Builtin.lenOf, hroom, Addr.add_lit, hst, hf]
      refine ⟨_, _, hr, .inr ⟨g, pre, post.drop (Lib.strCells s).length, tail, ?_, hb, setRow_heap w g _ _ e _ hg, ?_⟩, ⟨rfl, rfl, rfl, by simp, fun k _ hk => setRow_other w g k _ (fun e => hk (by simp [Value.ownBlock, e]))⟩⟩
      · simp only [List.length_append, List.length_drop, hsl]
        congr 1
        omega
      · simp only [List.length_append, List.length_drop, hsl]
        omega
    · have holds : ∀ j u, xs[j]? = some u → w.cell? ((⟨g, pre.length, none⟩ : Addr).add j) = some u := by
        intro j u hu
        have hj : j < xs.length := (List.getElem?_eq_some_iff.1 hu).1
        have : (⟨g, pre.length, none⟩ : Addr).add j = ⟨g, pre.length + j, none⟩ := by unfold Addr.add; split <;> simp_all
        rw [this, row_cell hg, List.getElem?_toArray, List.getElem?_append_right (by omega), Nat.add_sub_cancel_left, List.getElem?_append_left hj]
        exact hu
      have hr := Lib.run_append_grow_string (P := P) w t u ty e i (.int .u8 0) ht hu hi hz ⟨g, pre.length, none⟩ xs.length (xs.length + post.length) xs (by rw [hsize]; simp) holds s (by omega) (by simp only [maxLen] at h63; omega) (by rw [hby]; exact growslice_fits (by omega) (by omega))
      have hge := grownCap_ge w (xs.length + s.size) (xs.length + post.length) e
      have hcm : grownCap w (xs.length + s.size) (xs.length + post.length) e ≤ maxLen := grownCap_le_maxLen w (xs.length + s.size) (xs.length + post.length) e h63
      refine ⟨_, _, hr, OwnsAt.of_row (n := xs.length + s.size) ⟨by rw [List.length_append, hsl, Nat.mul_one], .inr ⟨w.heap.size, _, _, rfl, hbase, heap_alloc_new w.drew _, hge, hcm, ?_, ?_⟩⟩, ⟨rfl, rfl, rfl, by simp, fun k hk _ => heap_alloc_old w.drew _ hk⟩⟩
      · have hz1 : (Value.int IntKind.u8 0).cells.size = 1 := rfl
        simp only [Array.size_append, List.size_toArray, size_zeroCells, hz1, hsl]
        omega
      · simp only [Array.toList_append, List.append_assoc]
        rw [← List.append_assoc, show (xs.length + s.size) * 1 = (xs ++ Lib.strCells s).length by rw [List.length_append, hsl, Nat.mul_one]]
        exact List.take_left
variable {ops : Array Oper} {o : Oper} {a : Act} {Q : Exit → Act → World → Prop}
theorem step_at1 {K : Act → World → Prop} {E : Prop} (wa : World) (hgd : o.guard = none) (s x : Operand) (t e : TypeId) (z : Value) (bytes : Nat)
    (ho : o.op = .call { callee := .builtin .append, args := #[s, x], argTypes := #[t, t] })
    (ht : P.underlying t = some (.slice e)) (hinfo : (P.info? e).map (fun i => (i.zero, i.size, i.bytes)) = some (some z, 1, bytes)) (hz : z.cells.size = 1) (hb0 : 0 < bytes)
    (v : Value) (xs : List Value) (y : Value) (B : Nat) (hs : a.eval s = v) (hx : a.eval x = .slice (some ⟨B, 0, none⟩) 1 1) (hy : wa.cell? ⟨B, 0, none⟩ = some y) (h1 : y.oneCell' = true)
    (base : Nat) (HO : OwnsAt wa base e v xs) (hbase : base ≤ wa.heap.size) (hl : (xs.length + 1) * bytes ≤ 140737488355328)
    (h : ∀ A cap w1, OwnsAt w1 base e (.slice A (xs.length + 1) cap) (xs ++ [y]) → wa.grownBy w1 v.ownBlock → K (a.put o.dst (.slice A (xs.length + 1) cap)) w1) :
    if Region.wanted o (yielded ops a.tmps) = true then Oper.wp P o a wa K Q else E := by
  obtain ⟨i0, hi, hzz⟩ := Option.map_eq_some_iff.1 hinfo
  simp only [Prod.mk.injEq] at hzz
  obtain ⟨hz0, hz1, hz2⟩ := hzz
  have hlen : xs.length + 1 ≤ 140737488355328 := Nat.le_trans (Nat.le_mul_of_pos_right _ hb0) hl
  obtain ⟨v', w', hr, r1, r2, r3⟩ := HO.app1 (P := P) base t o.type e i0 z bytes ht hi hz0 hz1 hz2 hz v xs ⟨B, 0, none⟩ 1 y hy h1 (by simp only [maxLen]; omega) hl hbase
  have hw : Region.wanted o (yielded ops a.tmps) = true := by simp [Region.wanted, hgd]
  rw [if_pos hw]
  unfold Oper.wp execOp
  simp only [ho, resolve, invoke, builtin, Sem.run_bind, Sem.run_pure, Result.andThen_ok, List.map_toArray, List.map_cons, List.map_nil, hs, hx, hr]
  obtain ⟨A, c, rfl, _⟩ := r1.rd
  rw [List.length_append] at r1 ⊢
  exact h A c w' r1 r2
theorem step_atStr {K : Act → World → Prop} {E : Prop} (wa : World) (hgd : o.guard = none) (sl x : Operand) (t u e : TypeId)
    (ho : o.op = .call { callee := .builtin .append, args := #[sl, x], argTypes := #[t, u] })
    (ht : P.underlying t = some (.slice e)) (hu : P.underlying u = some .string) (hinfo : (P.info? e).map (fun i => (i.zero, i.size, i.bytes)) = some (some (.int .u8 0), 1, 1))
    (v : Value) (xs : List Value) (s : ByteArray) (hs : a.eval sl = v) (hx : a.eval x = .string s)
    (base : Nat) (HO : OwnsAt wa base e v xs) (hbase : base ≤ wa.heap.size) (hl : xs.length + s.size ≤ 140737488355328)
    (h : ∀ A cap w1, OwnsAt w1 base e (.slice A (xs.length + s.size) cap) (xs ++ Lib.strCells s) → wa.grownBy w1 v.ownBlock → K (a.put o.dst (.slice A (xs.length + s.size) cap)) w1) :
    if Region.wanted o (yielded ops a.tmps) = true then Oper.wp P o a wa K Q else E := by
  obtain ⟨i0, hi, hzz⟩ := Option.map_eq_some_iff.1 hinfo
  simp only [Prod.mk.injEq] at hzz
  obtain ⟨hz0, hz1, hz2⟩ := hzz
  obtain ⟨v', w', hr, r1, r2⟩ := HO.appStr (P := P) base t u o.type e i0 ht hu hi hz0 hz1 hz2 v xs s (by simp only [maxLen]; omega) hl hbase
  have hw : Region.wanted o (yielded ops a.tmps) = true := by simp [Region.wanted, hgd]
  rw [if_pos hw]
  unfold Oper.wp execOp
  simp only [ho, resolve, invoke, builtin, Sem.run_bind, Sem.run_pure, Result.andThen_ok, List.map_toArray, List.map_cons, List.map_nil, hs, hx, hr]
  obtain ⟨A, c, rfl, _⟩ := r1.rd
  have hsl := Lib.strCells_length s
  rw [List.length_append, hsl] at r1 ⊢
  exact h A c w' r1 r2
/-- Appending one struct of three cells. -/
theorem step_app3 {K : Act → World → Prop} {E : Prop} (wa : World) (hgd : o.guard = none) (s x : Operand) (t e : TypeId) (z : Value) (bytes : Nat)
    (ho : o.op = .call { callee := .builtin .append, args := #[s, x], argTypes := #[t, t] })
    (ht : P.underlying t = some (.slice e)) (hinfo : (P.info? e).map (fun i => (i.zero, i.size, i.bytes)) = some (some z, 3, bytes)) (hz : z.cells.size = 3)
    (v : Value) (n : Nat) (xs : List Value) (y0 y1 y2 : Value) (B : Nat) (hs : a.eval s = v) (hx : a.eval x = .slice (some ⟨B, 0, none⟩) 1 1) (hy0 : wa.cell? ⟨B, 0, none⟩ = some y0) (hy1 : wa.cell? ⟨B, 1, none⟩ = some y1) (hy2 : wa.cell? ⟨B, 2, none⟩ = some y2)
    (h0 : y0.oneCell' = true) (h1 : y1.oneCell' = true) (h2 : y2.oneCell' = true)
    (base : Nat) (HO : wa.ownsRow base e 3 v n xs) (hbase : base ≤ wa.heap.size) (hl : (n + 1) * bytes ≤ 140737488355328) (hn : n + 1 ≤ maxLen)
    (h : ∀ g cap w1, w1.ownsRow base e 3 (.slice (some ⟨g, 0, none⟩) (n + 1) cap) (n + 1) (xs ++ [y0, y1, y2]) → wa.grownBy w1 v.ownBlock → (v.ownBlock = some g ∨ wa.heap.size ≤ g) → K (a.put o.dst (.slice (some ⟨g, 0, none⟩) (n + 1) cap)) w1) :
    if Region.wanted o (yielded ops a.tmps) = true then Oper.wp P o a wa K Q else E := by
  obtain ⟨i0, hi, hzz⟩ := Option.map_eq_some_iff.1 hinfo
  simp only [Prod.mk.injEq] at hzz
  obtain ⟨hz0, hz1, hz2⟩ := hzz
  refine step_append_lies wa hgd s x t ho base e i0 z 3 bytes ht hi hz0 hz1 hz2 hz (by omega) v n xs hs HO ⟨B, 0, none⟩ 1 1 [y0, y1, y2] hx rfl ?_ (by simpa using ⟨h0, h1, h2⟩) (by omega) (by omega) hl hbase _ rfl ?_
  · intro j u hu
    rw [add_plain]
    rcases j with _ | _ | _ | j
    · simp only [List.getElem?_cons_zero, Option.some.injEq] at hu; subst hu; exact hy0
    · simp only [List.getElem?_cons_succ, List.getElem?_cons_zero, Option.some.injEq] at hu; subst hu; exact hy1
    · simp only [List.getElem?_cons_succ, List.getElem?_cons_zero, Option.some.injEq] at hu; subst hu; exact hy2
    · simp at hu
  · intro g cap w1 h2 h3 h4 _
    exact h g cap w1 h2 h3 (h4.imp id (fun e => by omega))
end
theorem info117 : (Try.prog.info? 117).map (fun i => (i.zero, i.size, i.bytes)) = some (some (.agg #[.int .i64 0, .int .i64 0, .string ⟨#[]⟩]), 3, 32) := by kernel_rfl
end Go.Proofs.Ytblhbbgkkijkfaa
