/- (*delta.maker).end, walked. -/
import Derived.Test.YtblhbbgkkijkfaaK5
namespace Go.Proofs.Ytblhbbgkkijkfaa
open Go.RowKit Go.Maps
/-- What a table answers under the books that a call may come to. -/
structure Ans (ws : List Int) (ms : List ByteArray) (Q blk size mb : Nat) (K0 : Bk) (Good : Nat → Bk → Prop) (M : ByteArray → Int → Int) (TL : ByteArray → Bool) : Prop where
  len2 : ∀ k K, Good k K → k ≤ 2000000 → K.len + 2 < 1125899906842624
  kind : ∀ k K, Good k K → MK K mb = MK K0 mb
  up : ∀ k K, Good k K → Good (k + 1) K
  rng : ∀ s z, -1 ≤ M s z ∧ M s z < Q
  mt : ∀ k K s z, Good k K → k ≤ 2000000 → s.size = blk → mtc ws ms Q blk K (wk s) s z = M s z ∧ Good (k + 1) (mtcB ws Q blk K (wk s) s)
  tl : ∀ k K s, Good k K → k ≤ 2000000 → tl ws ms blk size K s = TL s ∧ Good (k + 1) (tlB ws blk size K s)
theorem Ans.len {ws : List Int} {ms : List ByteArray} {Q blk size mb : Nat} {K0 : Bk} {Good : Nat → Bk → Prop} {M : ByteArray → Int → Int} {TL : ByteArray → Bool} (h : Ans ws ms Q blk size mb K0 Good M TL) (k : Nat) (K : Bk) (hG : Good k K) (hk : k ≤ 2000000) : K.len < 1125899906842624 := by
  have := h.len2 k K hG hk
  omega
/-- A table and a book, while the call goes on. -/
structure Sess (w0 wr : World) (b mb B T blk size : Nat) (ws : List Int) (ms : List ByteArray) (bs : List Int) (wv sv kv bv : Value) (K0 K : Bk) : Prop where
  tbl0 : Tbl w0 B T blk size ws ms bs wv sv kv bv
  book0 : IsBook w0 b mb K0
  book : IsBook wr b mb K
  kind : MK K mb = MK K0 mb
  mods : Mods (fun j => MK K0 mb j ∨ w0.heap.size ≤ j) w0 wr
section
variable {w0 wr wx : World} {b mb B T blk size : Nat} {ws : List Int} {ms : List ByteArray} {bs : List Int} {wv sv kv bv : Value} {K0 K K' : Bk}
theorem Sess.tbl (h : Sess w0 wr b mb B T blk size ws ms bs wv sv kv bv K0 K) : Tbl wr B T blk size ws ms bs wv sv kv bv := by
  have hr := h.tbl0.row
  have key : ∀ {e s n : Nat} {v : Value} {xs : List Value}, w0.ownsRow B e s v n xs → wr.ownsRow B e s v n xs := fun ho => h.mods.owns ho (fun k hk hM => hM.elim (book_own h.book0 ho k hk) (fun h2 => absurd (ho.lt k hk).2 (Nat.not_lt.2 h2)))
  exact ⟨h.tbl0.base, h.mods.row hr (fun hM => hM.elim (book_row h.book0 hr) (fun h2 => absurd (row_lt hr) (Nat.not_lt.2 h2))), key h.tbl0.weak, key h.tbl0.strong, key h.tbl0.keys, key h.tbl0.blocks⟩
theorem Sess.other {M : Nat → Prop} (h : Sess w0 wr b mb B T blk size ws ms bs wv sv kv bv K0 K) (hm : Mods M wr wx) (hM : ∀ {k : Nat}, M k → w0.heap.size ≤ k) : Sess w0 wx b mb B T blk size ws ms bs wv sv kv bv K0 K :=
  ⟨h.tbl0, h.book0, h.book.mods hm (fun e => absurd h.book0.lt.1 (Nat.not_lt.2 (hM e))) (fun e => absurd h.book0.lt.2 (Nat.not_lt.2 (hM e))), h.kind, h.mods.trans (hm.mono (fun _ _ e => .inr (hM e)))⟩
theorem Sess.mark (h : Sess w0 wr b mb B T blk size ws ms bs wv sv kv bv K0 K) (hm : Mods (MK K mb) wr wx) (hb : IsBook wx b mb K') (hk : MK K' mb = MK K0 mb) : Sess w0 wx b mb B T blk size ws ms bs wv sv kv bv K0 K' :=
  ⟨h.tbl0, h.book0, hb, hk, h.mods.trans (hm.mono (fun _ _ e => .inl (h.kind ▸ e)))⟩
theorem Sess.below (h : Sess w0 wr b mb B T blk size ws ms bs wv sv kv bv K0 K) {j : Nat} (hj : MK K mb j) : j < w0.heap.size := MK.lt h.book0 (h.kind ▸ hj)
/-- The maker while the book is marked. -/
theorem MakerAt.marked {m N : Nat} {l : List Stp} {t : ByteArray} {sv' tv' : Value} (h : MakerAt wr N m l t sv' tv') (hS : Sess w0 wr b mb B T blk size ws ms bs wv sv kv bv K0 K) (hmB : w0.heap.size ≤ m) (hN : w0.heap.size ≤ N) (hm : Mods (MK K mb) wr wx) : MakerAt wx N m l t sv' tv' :=
  h.mods hm (fun _ hk _ e => absurd (hS.below e) (Nat.not_lt.2 (hk.elim (Nat.le_trans hN) (fun e => e ▸ hmB))))
end
/-- What is made at the end. -/
def endP (size blk : Nat) (TL : ByteArray → Bool) (l : List Stp) (t s : ByteArray) : List Stp :=
  if size % blk ≤ s.size ∧ TL (s.extract (s.size - size % blk) s.size) = true then cpy (l ++ chunks (t ++ s.extract 0 (s.size - size % blk))) ((size - size % blk : Nat) : Int) ((size % blk : Nat) : Int)
  else l ++ chunks (t ++ s)
theorem strCells_append (s t : ByteArray) : Lib.strCells (s ++ t) = Lib.strCells s ++ Lib.strCells t := by simp [Lib.strCells]
/-- More bytes gathered. -/
theorem MakerAt.addText {w wa w3 : World} {B m cap n : Nat} {A : Option Addr} {l : List Stp} {t : ByteArray} {sv tv : Value} (h : MakerAt w B m l t sv tv) (s : ByteArray) (ha : Mods Nope w wa)
    (hown : OwnsAt w3 B 5 (.slice A n cap) (Lib.strCells (t ++ s))) (hg : wa.grownBy w3 tv.ownBlock) :
    MakerAt (w3.setCell ⟨m, 1, none⟩ (.slice A n cap)) B m l (t ++ s) sv (.slice A n cap) ∧
    w3.heap[m]? = some (.cells #[sv, tv] 133 (0, 0)) ∧ Mods (fun j => B ≤ j ∨ j = m) w (w3.setCell ⟨m, 1, none⟩ (.slice A n cap)) := by
  have h3 : Mods (fun j => tv.ownBlock = some j) w w3 := (ha.any _).grown hg (fun k e _ => e)
  have hr3 := h3.row h.row h.ne.2
  have hs := (Mods.refl (fun j => j = m) w3).setCell ⟨m, 1, none⟩ (fun _ => rfl) (.slice A n cap)
  refine ⟨⟨Nat.le_trans h.base (Nat.le_trans h3.size hs.size), row_set hr3 1 _, ?_, ?_⟩, hr3, (h3.mono (fun k hk e => .inl (h.text.lt k e).1)).then hs (fun k hk e => .inr e)⟩
  · exact hs.owns (h3.owns h.steps (fun k hk e => h.sep k e hk)) (fun k hk e => h.ne.1 (by rw [← e]; exact hk))
  · exact hown.mods hs (fun k hk e => hown.ne_row hr3 (by decide) k hk e)
theorem wpList_atStr {P : Program} {ops : Array Oper} {o : Oper} {a : Act} {Q : Exit → Act → World → Prop} {rest : List Oper} (wa : World) (hgd : o.guard = none) (sl x : Operand) (t u e : TypeId)
    (ho : o.op = .call { callee := .builtin .append, args := #[sl, x], argTypes := #[t, u] })
    (ht : P.underlying t = some (.slice e)) (hu : P.underlying u = some .string) (hinfo : (P.info? e).map (fun i => (i.zero, i.size, i.bytes)) = some (some (.int .u8 0), 1, 1))
    (v : Value) (xs : List Value) (s : ByteArray) (hs : a.eval sl = v) (hx : a.eval x = .string s)
    (base : Nat) (HO : OwnsAt wa base e v xs) (hbase : base ≤ wa.heap.size) (hl : xs.length + s.size ≤ 140737488355328)
    (h : ∀ A cap w1, OwnsAt w1 base e (.slice A (xs.length + s.size) cap) (xs ++ Lib.strCells s) → wa.grownBy w1 v.ownBlock → wpList P ops Q rest (a.put o.dst (.slice A (xs.length + s.size) cap)) w1) :
    wpList P ops Q (o :: rest) a wa := by
  refine wpList_step (fun K hK => ?_)
  exact step_atStr (E := K (a.put o.dst undef) wa) wa hgd sl x t u e ho ht hu hinfo v xs s hs hx base HO hbase hl (fun A cap w1 h2 h3 => hK _ _ (h A cap w1 h2 h3))
theorem wrap_nat {d : Nat} (h : d ≤ 1000000) : IntKind.i64.wrap (d : Int) = (d : Int) := by
  simp [IntKind.wrap, IntKind.bits, IntKind.signed]; omega
/-- What end leaves. -/
structure EndPost (w0 : World) (N b mb B T m blk size : Nat) (ws : List Int) (ms : List ByteArray) (bs : List Int) (wv sv kv bv : Value) (K0 : Bk) (Good : Nat → Bk → Prop) (k : Nat) (L : List Stp) (w w' : World) : Prop where
  ex : ∃ K sv' tv', Sess w0 w' b mb B T blk size ws ms bs wv sv kv bv K0 K ∧ Good k K ∧ MakerAt w' N m L ⟨#[]⟩ sv' tv' ∧ Mods (fun j => MK K0 mb j ∨ N ≤ j ∨ j = m) w w'
set_option maxRecDepth 100000 in
set_option maxHeartbeats 4000000 in
theorem f113_calls {w0 w : World} {N b mb B T blk size Q m k : Nat} {ws : List Int} {ms : List ByteArray} {bs : List Int} {wv sv kv bv sv' tv' : Value} {K0 K : Bk} {Good : Nat → Bk → Prop} {M : ByteArray → Int → Int} {TL : ByteArray → Bool} {l : List Stp} {t : ByteArray}
    (hA : Ans ws ms Q blk size mb K0 Good M TL) (hS : Sess w0 w b mb B T blk size ws ms bs wv sv kv bv K0 K) (hG : Good k K) (hk : k ≤ 1000000) (hM : MakerAt w N m l t sv' tv') (hm0 : w0.heap.size ≤ m) (hN : w0.heap.size ≤ N)
    (hblk : 16 ≤ blk) (hsz : size ≤ 524288) (hwl : ws.length = cnt size blk) (hml : ms.length = ws.length) (hin : ∀ x ∈ l, StpIn x)
    (s : ByteArray) (hb : l.length + (t.size + s.size) ≤ 1000000) :
    Calls Try.prog 113 #[.pointer (some ⟨m, 0, none⟩), .pointer (some ⟨b, 0, none⟩), .pointer (some ⟨T, 0, none⟩), .string s] w fun e w' => e = .returned (.tuple #[]) ∧ EndPost w0 N b mb B T m blk size ws ms bs wv sv kv bv K0 Good (k + 1) (endP size blk TL l t s) w w' := by
  have HS := Lib.hid hS
  have HG := Lib.hid hG
  have HM := Lib.hid hM
  have HIN := Lib.hid hin
  obtain ⟨n, hn⟩ : ∃ n, n = size % blk := ⟨_, rfl⟩
  have HN := Lib.hid hn
  have hni : (size : Int).tmod (blk : Int) = (n : Int) := by rw [hn]; rfl
  have hni2 : (size : Int) % (blk : Int) = (n : Int) := by rw [hn]; rfl
  have hnb : n < blk := by rw [hn]; exact Nat.mod_lt _ (by omega)
  have hnz : n ≤ size := by rw [hn]; exact Nat.mod_le _ _
  have HE : Hid (endP size blk TL l t s = if n ≤ s.size ∧ TL (s.extract (s.size - n) s.size) = true then cpy (l ++ chunks (t ++ s.extract 0 (s.size - n))) ((size - n : Nat) : Int) (n : Int) else l ++ chunks (t ++ s)) := by unfold Hid; rw [hn]; rfl
  generalize endP size blk TL l t s = R at *
  clear hS hG hM hin hn
  go_enter Try.func113, Try.ntmps113
  go_wp2_with fail
  refine (f43_calls _ _ _ _ _ _ _ _ _ _ _ _ HS.out.tbl).mono ?_; rintro e w1 ⟨rfl, rfl⟩
  go_wp2_with fail
  refine (f44_calls _ _ _ _ _ _ _ _ _ _ _ _ HS.out.tbl).mono ?_; rintro e w1 ⟨rfl, rfl⟩
  by_cases c1 : n ≤ s.size
  · have hd1 : decide ((n : Int) ≤ (s.size : Int)) = true := by simp; omega
    obtain ⟨d, hd⟩ : ∃ d, d = s.size - n := ⟨_, rfl⟩
    have hdi : (s.size : Int) - (n : Int) = (d : Int) := by omega
    have hds : d ≤ s.size := by omega
    rw [← hd] at HE
    clear hd
    have h42 := f42_calls B T b mb blk size K ws ms bs wv sv kv bv (s.extract d s.size) w1 HS.out.tbl HS.out.book (hA.len k K HG.out (by omega)) (by rw [ByteArray.size_extract]; omega) hblk hsz hwl hml
    unfold TlPost at h42
    obtain ⟨t1, t2⟩ := hA.tl k K (s.extract d s.size) HG.out (by omega)
    rw [t1] at h42
    have H42 := Lib.hid h42
    have HG2 := Lib.hid t2
    clear t1 t2 h42
    go_wp2_with fail
    refine H42.out.mono ?_; rintro e w2 ⟨rfl, hb2, hm2⟩
    have HS2 := Lib.hid (HS.out.mark hm2 hb2 (hA.kind _ _ HG2.out))
    have HM2 := Lib.hid (HM.out.marked HS.out hm0 hN hm2)
    have HMD : Hid (Mods (fun j => MK K0 mb j ∨ N ≤ j ∨ j = m) w1 w2) := hm2.mono (fun _ _ e => Or.inl (HS.out.kind ▸ e))
    clear hb2 hm2
    obtain ⟨m0, m1, mf⟩ := cells2 HM2.out.row
    generalize TL (s.extract d s.size) = tlb at *
    cases tlb
    · have HR : Hid (R = l ++ chunks (t ++ s)) := by unfold Hid; rw [HE.out, if_neg (fun h => by simp at h)]
      have HO : Hid (OwnsAt w2 N 5 tv' (Lib.strCells t)) := HM2.out.text
      have hBw := HM2.out.base
      have hsl := Lib.strCells_length t
      go_wp2_with (at_builtin; refine wpList_atStr _ rfl _ _ 89 9 5 rfl Try.underlying89 Try.underlying9 info5 tv' (Lib.strCells t) s rfl rfl N (by exact HO.out) hBw (by omega) ?_)
      intro A3 cap3 w3 hown3 hg3
      rw [← strCells_append] at hown3
      have HADD := Lib.hid (HM2.out.addText s (Mods.refl Nope w2) hown3 hg3)
      have hcc : w3.cell? ⟨m, 1, none⟩ = some tv' := by rw [row_cell HADD.out.2.1]; rfl
      have hff : w3.frozen? ⟨m, 1, none⟩ = false := row_frozen HADD.out.2.1 1
      clear hown3 hg3 m0 m1 mf
      go_wp2_with fail
      refine (f138_calls N m l (t ++ s) sv' _ _ HADD.out.1 (by rw [ByteArray.size_append]; omega)).mono ?_; rintro e w4 ⟨sv4, tv4, rfl, hM4, hm4⟩
      have HM4 := Lib.hid hM4
      have HMX := Lib.hid ((HADD.out.2.2.trans hm4).mono (N := fun j => MK K0 mb j ∨ N ≤ j ∨ j = m) (fun _ _ e => Or.inr e))
      have HS4 := Lib.hid (HS2.out.other (HADD.out.2.2.trans hm4) (fun e => e.elim (Nat.le_trans hN) (fun e => e ▸ hm0)))
      clear hM4 hm4
      go_wp2
      go_end0
      rw [← HR.out] at HM4
      exact ⟨rfl, ⟨_, _, _, HS4.out, HG2.out, HM4.out, HMD.out.trans HMX.out⟩⟩
    · have HR : Hid (R = cpy (l ++ chunks (t ++ s.extract 0 d)) ((size - n : Nat) : Int) (n : Int)) := by unfold Hid; rw [HE.out, if_pos ⟨c1, rfl⟩]
      have HO : Hid (OwnsAt w2 N 5 tv' (Lib.strCells t)) := HM2.out.text
      have hBw := HM2.out.base
      have hsl := Lib.strCells_length t
      have hwd : IntKind.i64.wrap (d : Int) = (d : Int) := wrap_nat (by omega)
      have hxs : (s.extract 0 d).size = d := by rw [ByteArray.size_extract]; omega
      go_upto_region 2 with fail
      have HX : Hid (∃ x, x = s.extract 0 d) := ⟨_, rfl⟩
      go_region_law (first
        | (refine step_atStr _ rfl _ _ 89 9 5 rfl Try.underlying89 Try.underlying9 info5 tv' (Lib.strCells t) (s.extract 0 d) rfl rfl N (by exact HO.out) hBw (by omega) ?_; intro A3 cap3 w3 hown3 hg3
           rw [← strCells_append] at hown3
           have HADD := Lib.hid (HM2.out.addText (s.extract 0 d) ((Mods.refl Nope w2).drew) hown3 hg3)
           have hcc : w3.cell? ⟨m, 1, none⟩ = some tv' := by rw [row_cell HADD.out.2.1]; rfl
           have hff : w3.frozen? ⟨m, 1, none⟩ = false := row_frozen HADD.out.2.1 1
           clear hown3 hg3))
      all_goals
        rw [hsl, hxs] at HADD
        have HS3 := Lib.hid (HS2.out.other HADD.out.2.2 (fun e => e.elim (Nat.le_trans hN) (fun e => e ▸ hm0)))
        go_wp2_with fail
        refine (f43_calls _ _ _ _ _ _ _ _ _ _ _ _ HS3.out.tbl).mono ?_; rintro e w4 ⟨rfl, rfl⟩
        go_wp2_with fail
        refine (f111_calls N m l (t ++ s.extract 0 d) sv' _ _ _ _ HADD.out.1 (by rw [ByteArray.size_append]; omega) HIN.out (by omega) (by omega) (by omega)).mono ?_; rintro e w5 ⟨sv5, tv5, rfl, hM5, hm5⟩
        have HM5 := Lib.hid hM5
        have HMX := Lib.hid ((HADD.out.2.2.trans hm5).mono (N := fun j => MK K0 mb j ∨ N ≤ j ∨ j = m) (fun _ _ e => Or.inr e))
        have HS5 := Lib.hid (HS3.out.other hm5 (fun e => e.elim (Nat.le_trans hN) (fun e => e ▸ hm0)))
        clear hM5 hm5
        go_wp2
        refine bodyPost_ret (results_none rfl _ _ _) rfl ?_
        have e := HM5.out
        rw [show (size : Int) - (n : Int) = ((size - n : Nat) : Int) by omega, ← HR.out] at e
        exact ⟨rfl, ⟨_, _, _, HS5.out, HG2.out, e, HMD.out.trans HMX.out⟩⟩
  · have hd1 : decide ((n : Int) ≤ (s.size : Int)) = false := by simp; omega
    have HR : Hid (R = l ++ chunks (t ++ s)) := by unfold Hid; rw [HE.out, if_neg (fun h => c1 h.1)]
    have HG2 := Lib.hid (hA.up _ _ HG.out)
    have HMD : Hid (Mods (fun j => MK K0 mb j ∨ N ≤ j ∨ j = m) w1 w1) := Mods.refl _ _
    obtain ⟨m0, m1, mf⟩ := cells2 HM.out.row
    have HO : Hid (OwnsAt w1 N 5 tv' (Lib.strCells t)) := HM.out.text
    have hBw := HM.out.base
    have hsl := Lib.strCells_length t
    go_wp2_with (at_builtin; refine wpList_atStr _ rfl _ _ 89 9 5 rfl Try.underlying89 Try.underlying9 info5 tv' (Lib.strCells t) s rfl rfl N (by exact HO.out) hBw (by omega) ?_)
    intro A3 cap3 w3 hown3 hg3
    rw [← strCells_append] at hown3
    have HADD := Lib.hid (HM.out.addText s (Mods.refl Nope w1) hown3 hg3)
    have hcc : w3.cell? ⟨m, 1, none⟩ = some tv' := by rw [row_cell HADD.out.2.1]; rfl
    have hff : w3.frozen? ⟨m, 1, none⟩ = false := row_frozen HADD.out.2.1 1
    clear hown3 hg3 m0 m1 mf
    go_wp2_with fail
    refine (f138_calls N m l (t ++ s) sv' _ _ HADD.out.1 (by rw [ByteArray.size_append]; omega)).mono ?_; rintro e w4 ⟨sv4, tv4, rfl, hM4, hm4⟩
    have HM4 := Lib.hid hM4
    have HMX := Lib.hid ((HADD.out.2.2.trans hm4).mono (N := fun j => MK K0 mb j ∨ N ≤ j ∨ j = m) (fun _ _ e => Or.inr e))
    have HS4 := Lib.hid (HS.out.other (HADD.out.2.2.trans hm4) (fun e => e.elim (Nat.le_trans hN) (fun e => e ▸ hm0)))
    clear hM4 hm4
    go_wp2
    go_end0
    rw [← HR.out] at HM4
    exact ⟨rfl, ⟨_, _, _, HS4.out, HG2.out, HM4.out, HMD.out.trans HMX.out⟩⟩
end Go.Proofs.Ytblhbbgkkijkfaa
