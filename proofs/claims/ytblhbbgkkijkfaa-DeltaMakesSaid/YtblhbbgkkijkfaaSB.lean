/- sign.Bytes: what a signature's bytes are. -/
import Derived.Test.YtblhbbgkkijkfaaNU
import Derived.Test.YtblhbbgkkijkfaaD6
import Derived.Deep.Upon
import Derived.Deep.MidRow
namespace Go.Proofs.Ytblhbbgkkijkfaa
open Go.RowKit Go.Maps
section
variable {P : Program} {ops : Array Oper} {o : Oper} {a : Act} {Q : Exit → Act → World → Prop}
/-- append(v, l...): whatever l's address. -/
theorem wpList_appN {rest : List Oper} (wa : World) (hgd : o.guard = none) (s x : Operand) (t e : TypeId) (z : Value) (bytes : Nat)
    (ho : o.op = .call { callee := .builtin .append, args := #[s, x], argTypes := #[t, t] })
    (ht : P.underlying t = some (.slice e)) (hinfo : (P.info? e).map (fun i => (i.zero, i.size, i.bytes)) = some (some z, 1, bytes)) (hz : z.cells.size = 1) (hb0 : 0 < bytes)
    (v : Value) (xs : List Value) (A : Option Addr) (m c : Nat) (vs : List Value) (hs : a.eval s = v) (hx : a.eval x = .slice A m c) (hm : vs.length = m) (hR : Rd wa A vs) (h1 : ∀ u ∈ vs, u.oneCell' = true)
    (base : Nat) (HO : wa.ownsRow base e 1 v xs.length xs) (hbase : base ≤ wa.heap.size) (hl : (xs.length + m) * bytes ≤ 140737488355328)
    (h : ∀ v' w1, w1.ownsRow base e 1 v' (xs.length + m) (xs ++ vs) → wa.grownBy w1 v.ownBlock → wpList P ops Q rest (a.put o.dst v') w1) :
    wpList P ops Q (o :: rest) a wa := by
  obtain ⟨i0, hi, hzz⟩ := Option.map_eq_some_iff.1 hinfo
  simp only [Prod.mk.injEq] at hzz
  obtain ⟨hz0, hz1, hz2⟩ := hzz
  have hlen : xs.length + m ≤ 140737488355328 := Nat.le_trans (Nat.le_mul_of_pos_right _ hb0) hl
  subst hm
  have key : ∃ v' w1, (Builtin.append_ #[t, t] o.type #[v, .slice A vs.length c]).run P wa = .ok v' w1 ∧ w1.ownsRow base e 1 v' (xs.length + vs.length) (xs ++ vs) ∧ wa.grownBy w1 v.ownBlock := by
    cases vs with
    | nil =>
      obtain ⟨B, d, rfl, hle, _, _, _⟩ := Rd.of_owns HO
      have hS : Src P i0.size t (.slice A 0 c) 0 [] wa := by
        cases A with
        | none => exact Src.ofNil wa ht c
        | some ad => exact Src.ofSlice wa ht ad 0 c [] (by simp) (fun j u hj => by simp at hj) (fun u hu => by simp at hu)
      have hr := run_append_nothing (P := P) wa t t o.type e i0 ht hi B xs.length d hle _ hS
      exact ⟨_, _, hr, by simpa using HO, ⟨rfl, rfl, rfl, Nat.le_refl _, fun _ _ _ => rfl⟩⟩
    | cons u0 vs =>
      obtain ⟨b, off, rfl, _⟩ := hR 0 u0 rfl
      obtain ⟨v', w', hr, h2, h3, _⟩ := run_append_own (P := P) wa base t o.type e i0 z 1 bytes ht hi hz0 hz1 hz2 hz (by omega) v xs.length xs HO ⟨b, off, none⟩ (u0 :: vs).length c (u0 :: vs) (by simp) (by
        intro j u hu
        obtain ⟨b', off', e', hc⟩ := hR j u hu
        injection e' with e'
        injection e' with e1 e2
        subst e1; subst e2
        rw [show (⟨b, off, none⟩ : Addr).add j = ⟨b, off + j, none⟩ by unfold Addr.add; split <;> simp_all]
        exact hc) h1 (by simp only [maxLen]; omega) hl hbase
      exact ⟨v', w', hr, h2, h3⟩
  obtain ⟨v', w1, hr, h2, h3⟩ := key
  refine wpList_plain hgd fun K hK => ?_
  have := hK _ _ (h v' w1 h2 h3)
  unfold Oper.wp execOp
  simp only [ho, resolve, invoke, builtin, Sem.run_bind, Sem.run_pure, Result.andThen_ok, List.map_toArray, List.map_cons, List.map_nil, hs, hx, hr]
  exact this
end
theorem numL_len : ∀ (k n : Nat), n < 128 ^ (k + 1) → (numL n).length ≤ k + 1 := by
  intro k
  induction k with
  | zero => intro n h; rw [numL_lt (by omega)]; simp
  | succ k ih =>
    intro n h
    by_cases hn : n < 128
    · rw [numL_lt hn]; simp
    · rw [numL_ge hn]
      have := ih (n / 128) (by rw [Nat.pow_succ] at h; omega)
      simp; omega
/-- Numbers' bytes; marks' bytes. -/
def numsL (xs : List Int) : List UInt8 := xs.flatMap fun x => numL x.toNat
def marksL (ms : List ByteArray) : List UInt8 := ms.flatMap fun m => m.data.toList
def sigL (blk size : Int) (ws : List Int) (ms : List ByteArray) : List UInt8 := numsL (blk :: size :: ws) ++ marksL ms
theorem numsL_snoc (xs : List Int) (x : Int) : numsL (xs ++ [x]) = numsL xs ++ numL x.toNat := by simp [numsL]
theorem marksL_snoc (xs : List ByteArray) (x : ByteArray) : marksL (xs ++ [x]) = marksL xs ++ x.data.toList := by simp [marksL]
theorem numL_ne (n : Nat) : numL n ≠ [] := by
  by_cases h : n < 128
  · rw [numL_lt h]; simp
  · rw [numL_ge h]; simp
theorem sigL_ne (blk size : Int) (ws : List Int) (ms : List ByteArray) : sigL blk size ws ms ≠ [] := by
  have := numL_ne blk.toNat
  simp [sigL, numsL, this]
theorem numsL_len (xs : List Int) (h : ∀ x ∈ xs, 0 ≤ x ∧ x ≤ 4294967295) : (numsL xs).length ≤ 5 * xs.length := by
  induction xs with
  | nil => simp [numsL]
  | cons x xs ih =>
    have := ih (fun y hy => h y (List.mem_cons_of_mem _ hy))
    have hx := h x List.mem_cons_self
    have h5 := numL_len 4 x.toNat (by have : x.toNat < 4294967296 := by omega
                                      exact Nat.lt_of_lt_of_le this (by decide))
    have : numsL (x :: xs) = numL x.toNat ++ numsL xs := by simp [numsL]
    rw [this]; simp; omega
theorem marksL_len (xs : List ByteArray) (h : ∀ x ∈ xs, x.size = 32) : (marksL xs).length = 32 * xs.length := by
  induction xs with
  | nil => simp [marksL]
  | cons x xs ih =>
    have := ih (fun y hy => h y (List.mem_cons_of_mem _ hy))
    have hx := h x List.mem_cons_self
    have h1 : marksL (x :: xs) = x.data.toList ++ marksL xs := by simp [marksL]
    have h2 : x.data.toList.length = x.size := by rw [Array.length_toList]; rfl
    rw [h1]; simp only [List.length_append, List.length_cons]; omega
set_option maxRecDepth 100000 in
set_option maxHeartbeats 4000000 in
theorem f37_bad (blk size : Int) (A A' : Option Addr) (c c' l m : Nat) (ws : List Int) (ms : List ByteArray) (w : World) (hl : ws.length = l) (hm : ms.length = m) (hw : Rd w A (ints ws)) (hs : Rd w A' (strs ms)) (hz : ∀ m ∈ ms, m.size ≤ maxLen) (hok : sigB blk size ws ms = false) :
    Calls Try.prog 37 #[.agg #[.int .i64 blk, .int .i64 size, .slice A l c, .slice A' m c']] w fun e w' => e = .returned (.tuple #[.string ⟨#[]⟩, .int .i64 1]) ∧ Mods Nope w w' := by
  go_enter Try.func37, Try.ntmps37
  go_wp2_with fail
  refine (f35_at _ _ A A' c c' _ _ _ _ _ hl hm (hw.alloc _) (hs.alloc _) hz).mono ?_; rintro e w1 ⟨rfl, h1⟩
  rw [hok]
  have H := Lib.hid (((Mods.refl Nope w).alloc _).trans h1)
  clear h1
  go_wp2
  go_ret2
  exact ⟨rfl, H.out⟩
/-- What the loops hold: the builder, and what no call touches. -/
structure BytesAt (w1 : World) (v : Value) (wr : World) (l : List UInt8) : Prop where
  bld : Bld wr w1.heap.size w1.heap.size v (Lib.byteCells l)
  mods : Mods Nope w1 wr
theorem f83_int (x : Int) (w : World) (h0 : 0 ≤ x) (hn : x ≤ 4294967295) :
    Calls Try.prog 83 #[.int .i64 x] w fun e w' => e = .returned (.tuple #[.string ⟨(numL x.toNat).toArray⟩, .int .i64 0]) ∧ Mods Nope w w' := by
  obtain ⟨n, rfl⟩ := Int.eq_ofNat_of_zero_le h0
  exact f83_calls n w (by omega)
theorem Mods.of_below_at {w w' : World} {B : Nat} (h : Below B w w') : Mods (fun j => B ≤ j) w w' :=
  ⟨h.os, h.tape, h.output, h.size, fun k _ hk => h.block k (by omega)⟩
theorem BytesAt.write {w1 wr w2 : World} {v v' : Value} {l l' : List UInt8} (h : BytesAt w1 v wr l) (hb : Bld w2 w1.heap.size w1.heap.size v' (Lib.byteCells l')) (hm : Mods (fun j => j = w1.heap.size ∨ v.ownBlock = some j) wr w2) : BytesAt w1 v' w2 l' :=
  ⟨hb, h.mods.then hm (fun i hi e => by
    rcases e with e | e
    · omega
    · have := (h.bld.own.lt i e).1; omega)⟩
theorem BytesAt.nope {w1 wr w2 : World} {v : Value} {l : List UInt8} (h : BytesAt w1 v wr l) (hm : Mods Nope wr w2) : BytesAt w1 v w2 l := ⟨h.bld.nope hm, h.mods.trans hm⟩
/-- The list that the first loop runs over stands still while the builder is written. -/
theorem BytesAt.list {w1 wr w2 : World} {v lv : Value} {l : List UInt8} {base n : Nat} {xs : List Value} (h : BytesAt w1 v wr l) (hm : Mods (fun j => j = w1.heap.size ∨ v.ownBlock = some j) wr w2) (ho : wr.ownsRow base 3 1 lv n xs) : w2.ownsRow base 3 1 lv n xs := by
  obtain ⟨p, _, hr⟩ := h.bld.row
  refine hm.owns ho (fun k hk e => ?_)
  rcases e with e | e
  · exact own_ne_row ho hr (by decide) k hk e
  · exact own_ne_own ho h.bld.own (by decide) k hk e
set_option maxRecDepth 100000 in
set_option maxHeartbeats 4000000 in
theorem f37_ok (blk size : Int) (A A' : Option Addr) (c c' l m : Nat) (ws : List Int) (ms : List ByteArray) (w : World) (hl : ws.length = l) (hm : ms.length = m) (hw : Rd w A (ints ws)) (hs : Rd w A' (strs ms)) (hz : ∀ m ∈ ms, m.size ≤ maxLen) (hok : SigOK blk size ws ms) :
    Calls Try.prog 37 #[.agg #[.int .i64 blk, .int .i64 size, .slice A l c, .slice A' m c']] w fun e w' => e = .returned (.tuple #[.string ⟨(sigL blk size ws ms).toArray⟩, .int .i64 0]) ∧ Mods Nope w w' := by
  have hsb := sigB_true.2 hok
  go_enter Try.func37, Try.ntmps37
  go_wp2_with fail
  refine (f35_at _ _ A A' c c' _ _ _ _ _ hl hm (hw.alloc _) (hs.alloc _) hz).mono ?_; rintro e w1 ⟨rfl, h1⟩
  rw [hsb]
  have HOK := Lib.hid hok
  have hG := h1.row (heap_alloc_new w (.cells #[.int .i64 blk, .int .i64 size, .slice A l c, .slice A' m c'] 31)) (fun h => h)
  have HG := Lib.hid hG
  have HM1 := Lib.hid (((Mods.refl Nope w).alloc _).trans h1)
  have HW := Lib.hid (hw.below HM1.out)
  have HS := Lib.hid (hs.below HM1.out)
  have hl2 : l ≤ 524288 := by
    have := hok.2.2.2.2.1
    have h2 := cnt_le size.toNat blk.toNat (by have := hok.1; omega)
    have := hok.2.2.2.1
    have := hok.2.2.1
    omega
  have hml : m = l := by rw [← hm, ← hl]; exact hok.2.2.2.2.2.1
  have HL := Lib.hid hl
  have HML := Lib.hid hm
  have g0 : ∀ o, (w1.alloc o).cell? ⟨w.heap.size, 0, none⟩ = some (.int .i64 blk) := fun o => by rw [row_cell (row_alloc hG o)]; rfl
  have g1 : ∀ o, (w1.alloc o).cell? ⟨w.heap.size, 1, none⟩ = some (.int .i64 size) := fun o => by rw [row_cell (row_alloc hG o)]; rfl
  have g2 : ∀ o o', ((w1.alloc o).alloc o').cell? ⟨w.heap.size, 2, none⟩ = some (.slice A l c) := fun o o' => by rw [row_cell (row_alloc (row_alloc hG o) o')]; rfl
  clear hok hw hs hz hsb h1 hG
  go_wp2_with (at_builtin; refine wpList_appN _ rfl _ _ 28 3 (.int .i64 0) 8 rfl Try.underlying28 info3 rfl (by decide) _ (ints [blk, size]) A l c (ints ws) rfl rfl (by rw [ints_length]; exact HL.out) (by exact (HW.out.alloc _).alloc _) ?q1 (w1.heap.size + 1) ?q2 (by simp) (by simp [ints]; omega) ?_)
  case q1 =>
    intro u hu
    simp only [ints, List.mem_map] at hu
    obtain ⟨x, _, rfl⟩ := hu
    rfl
  case q2 =>
    have hr := heap_alloc_new (w1.alloc (.cells #[.pointer none, .slice none 0 0] 104)) (.cells #[.int .i64 blk, .int .i64 size] 3)
    rw [show (w1.alloc (.cells #[.pointer none, .slice none 0 0] 104)).heap.size = w1.heap.size + 1 by simp] at hr
    exact ⟨rfl, .inr ⟨_, _, _, rfl, Nat.le_refl _, hr, Nat.le_refl _, by simp [maxLen], rfl, rfl⟩⟩
  intro lv w2 hl2 hg2
  obtain ⟨xs, hxs⟩ : ∃ xs, xs = blk :: size :: ws := ⟨_, rfl⟩
  have hxl : xs.length = l + 2 := by rw [hxs, ← hl]; simp
  rw [show ints [blk, size] ++ ints ws = ints xs by rw [hxs]; rfl, show (ints [blk, size]).length + l = xs.length by rw [hxl]; simp [ints]; omega] at hl2
  have HXN : Hid (∀ x ∈ xs, 0 ≤ x ∧ x ≤ 4294967295) := by
    intro x hx
    rw [hxs] at hx
    have hk := HOK.out
    rcases List.mem_cons.1 hx with rfl | hx
    · exact ⟨by have := hk.1; omega, by have := hk.2.1; omega⟩
    · rcases List.mem_cons.1 hx with rfl | hx
      · exact ⟨hk.2.2.1, by have := hk.2.2.2.1; omega⟩
      · exact hk.2.2.2.2.2.2.1 x hx
  have HXS := Lib.hid hxs
  have hxb : xs.length ≤ 600000 := by omega
  have HMLL := Lib.hid hml
  clear hxl hml
  have hMX : Mods Nope w1 ((w1.alloc (.cells #[.pointer none, .slice none 0 0] 104)).alloc (.cells #[.int .i64 blk, .int .i64 size] 3)) := ((Mods.refl Nope w1).alloc _).alloc _
  have hB2 : BytesAt w1 (.slice none 0 0) w2 [] := by
    refine ⟨⟨Nat.le_refl _, ⟨_, .inl rfl, ?_⟩, World.ownsRow_nil _ _ _ _⟩, hMX.grown hg2 (fun k hk hlt => ?_)⟩
    · rw [hg2.block w1.heap.size (by simp; omega) (by simp [Value.ownBlock])]
      exact row_alloc (heap_alloc_new w1 _) _
    · simp [Value.ownBlock] at hk; omega
  have HB2 := Lib.hid hB2
  obtain ⟨A2, c2, rfl, _, _, _, _⟩ := Rd.of_owns hl2
  have HL2 := Lib.hid hl2
  clear hl2 hg2 hB2 hMX g0 g1 g2 hxs
  go_wp2_with fail
  go_loopg [23] xs.length (fun gk i wr => ∃ k v, k ≤ xs.length ∧ gk = xs.length - k ∧ i = .int .i64 (k : Nat) ∧ BytesAt w1 v wr (numsL (xs.take k)) ∧ wr.ownsRow (w1.heap.size + 1) 3 1 (.slice A2 xs.length c2) xs.length (ints xs))
  case atStart => exact ⟨0, _, by omega, by omega, rfl, HB2.out, HL2.out⟩
  case round =>
    obtain ⟨k, v, hk, rfl, rfl, hB, hLo⟩ := hrel
    have HB := Lib.hid hB
    have HLO := Lib.hid hLo
    by_cases hlt : k < xs.length
    · have hci : (k : Int) < (xs.length : Int) := by omega
      obtain ⟨_, _, hA, _, _, hR, _⟩ := Rd.of_owns hLo
      injection hA with hA _ hA3
      subst hA
      obtain ⟨lb, lo, hA2, hlc⟩ := hR.int k hlt
      subst hA2
      have hx := HXN.out _ (List.getElem_mem hlt)
      have HT : Hid (xs.take (k + 1) = xs.take k ++ [xs[k]]) := List.take_succ_eq_append_getElem hlt
      have hln := numsL_len (xs.take k) (fun x hx => HXN.out x (List.mem_of_mem_take hx))
      rw [List.length_take, Nat.min_eq_left hk] at hln
      have HSZ : Hid ((numsL (xs.take k)).length + (⟨(numL (xs[k]).toNat).toArray⟩ : ByteArray).size ≤ 140737488355328) := by
        unfold Hid
        have h5 := numL_len 4 (xs[k]).toNat (by have : (xs[k]).toNat < 4294967296 := by omega
                                                exact Nat.lt_of_lt_of_le this (by decide))
        have : (⟨(numL (xs[k]).toNat).toArray⟩ : ByteArray).size = (numL (xs[k]).toNat).length := by simp [ByteArray.size]
        rw [this]
        omega
      have HLT := Lib.hid hlt
      generalize hxk : xs[k] = x at *
      clear hB hLo hR hA3 hln hxk
      obtain ⟨hx0, hx1⟩ := hx
      go_wp2_with fail
      refine (f83_int x _ hx0 hx1).mono ?_; rintro e w3 ⟨rfl, h3⟩
      have HB3 := Lib.hid (HB.out.nope h3)
      have HL3 := Lib.hid (h3.owns HLO.out (fun _ _ h => h))
      clear h3 hlc
      go_wp2_with fail
      refine (f84_calls w1.heap.size w1.heap.size v _ _ _ HB3.out.bld HSZ.out HB3.out.mods.size).mono ?_; rintro e w4 ⟨v', rfl, hb4, hm4⟩
      have HB4 := Lib.hid (HB3.out.write hb4 hm4)
      have HL4 := Lib.hid (HB3.out.list hm4 HL3.out)
      clear hb4 hm4
      go_wp2_with fail
      go_roundg (xs.length - (k + 1))
      case measure => have := HLT.out; omega
      case rel => exact ⟨k + 1, v', HLT.out, rfl, by go_num, by rw [HT.out, numsL_snoc]; exact HB4.out, HL4.out⟩
    · obtain rfl : k = xs.length := by omega
      rw [List.take_length] at hB HB
      have g3 : wr.cell? ⟨w.heap.size, 3, none⟩ = some (.slice A' m c') := by rw [row_cell (hB.mods.row HG.out (fun h => h))]; rfl
      have HML2 : Hid (m ≤ 524288) := by unfold Hid; rw [HMLL.out]; exact hl2
      have hmb : m ≤ 524288 := HML2.out
      obtain ⟨wo, rfl⟩ : ∃ wo : World, wo = wr := ⟨_, rfl⟩
      clear hB hLo
      go_wp2_with fail
      go_loopg [38] m (fun gk i wr => ∃ k v, k ≤ m ∧ gk = m - k ∧ i = .int .i64 (k : Nat) ∧ BytesAt w1 v wr (numsL xs ++ marksL (ms.take k)))
      case atStart => exact ⟨0, v, by omega, by omega, rfl, by simpa [marksL] using HB.out⟩
      case round =>
        obtain ⟨k, v, hk, rfl, rfl, hB⟩ := hrel
        have HB := Lib.hid hB
        by_cases hlt : k < m
        · have hci : (k : Int) < (m : Int) := by omega
          have hltm : k < ms.length := by have := HML.out; omega
          obtain ⟨sb, so, hA, hsc⟩ := (HS.out.below hB.mods).str k hltm
          subst hA
          have HX : Hid ((ms[k]).size = 32) := HOK.out.2.2.2.2.2.2.2 _ (List.getElem_mem hltm)
          have HT : Hid (ms.take (k + 1) = ms.take k ++ [ms[k]]) := List.take_succ_eq_append_getElem hltm
          have HSZ : Hid ((numsL xs ++ marksL (ms.take k)).length + (ms[k]).size ≤ 140737488355328) := by
            unfold Hid
            have h1 := numsL_len xs HXN.out
            have h2 := marksL_len (ms.take k) (fun x hx => HOK.out.2.2.2.2.2.2.2 x (List.mem_of_mem_take hx))
            rw [List.length_take, Nat.min_eq_left (by omega)] at h2
            rw [List.length_append, HX.out]
            omega
          have HLT := Lib.hid hlt
          generalize ms[k] = x at *
          clear hB hltm
          go_wp2_with fail
          refine (f84_calls w1.heap.size w1.heap.size v _ _ _ HB.out.bld HSZ.out HB.out.mods.size).mono ?_; rintro e w4 ⟨v', rfl, hb4, hm4⟩
          have HB4 := Lib.hid (HB.out.write hb4 hm4)
          clear hb4 hm4
          go_wp2_with fail
          go_roundg (m - (k + 1))
          case measure => have := HLT.out; omega
          case rel => exact ⟨k + 1, v', HLT.out, rfl, by go_num, by rw [HT.out, marksL_snoc, ← List.append_assoc]; exact HB4.out⟩
        · obtain rfl : k = m := by omega
          have hfin : numsL xs ++ marksL (ms.take k) = sigL blk size ws ms := by
            rw [HXS.out, List.take_of_length_le (by have := HML.out; omega)]
            rfl
          rw [hfin] at HB
          clear hB hfin
          go_wp2_with fail
          refine (f85_calls w1.heap.size w1.heap.size v _ _ HB.out.bld (sigL_ne _ _ _ _)).mono ?_; rintro e w4 ⟨rfl, hbel⟩
          have HF : Hid (Mods Nope w w4) := HM1.out.trans (HB.out.mods.then (Mods.of_below_at hbel) (fun i hi e => by omega))
          clear hbel
          go_wp2
          go_ret2
          exact ⟨rfl, HF.out⟩
end Go.Proofs.Ytblhbbgkkijkfaa
