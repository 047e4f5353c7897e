/- sign.NewTable, walked. -/
import Derived.Test.YtblhbbgkkijkfaaT7
import Derived.Test.YtblhbbgkkijkfaaN2
import Derived.Deep.RegionHeld3
namespace Go.Proofs.Ytblhbbgkkijkfaa
open Go.RowKit Go.Maps
/-- A table: block T; its signature's lists, the weak sums in order, the blocks beside them. -/
structure Tbl (w : World) (B T : Nat) (blk size : Int) (ws : List Int) (ms : List ByteArray) (bs : List Int) (wv sv kv bv : Value) : Prop where
  base : B ≤ T
  row : w.heap[T]? = some (.cells #[.int .i64 blk, .int .i64 size, wv, sv, kv, bv] 113 (0, 0))
  weak : w.ownsRow B 3 1 wv ws.length (ints ws)
  strong : w.ownsRow B 9 1 sv ms.length (strs ms)
  keys : w.ownsRow B 3 1 kv bs.length (ints (bs.map (kw ws)))
  blocks : w.ownsRow B 3 1 bv bs.length (ints bs)
/-- A table that is being made; G: the signature that came in, as the comparison sees it. -/
structure TbAt (B T G : Nat) (A : Option Addr) (c : Nat) (blk size : Int) (ws : List Int) (ms : List ByteArray) (wv sv kv bv : Value) (ks bs : List Int) (w1 wr : World) : Prop where
  ord : B ≤ T ∧ B ≤ G ∧ G ≠ T
  row : wr.heap[T]? = some (.cells #[.int .i64 blk, .int .i64 size, wv, sv, kv, bv] 113 (0, 0))
  sig : ∃ x, wr.heap[G]? = some (.cells #[.int .i64 blk, .int .i64 size, .slice A ws.length c, x] 31 (0, 0))
  weak : wr.ownsRow B 3 1 wv ws.length (ints ws)
  strong : wr.ownsRow B 9 1 sv ms.length (strs ms)
  keys : wr.ownsRow B 3 1 kv ks.length (ints ks)
  blocks : wr.ownsRow B 3 1 bv bs.length (ints bs)
  d1 : Dj bv wv
  d2 : Dj kv wv
  d3 : Dj kv bv
  mods : Mods (fun j => B ≤ j) w1 wr
section
variable {B T G : Nat} {A : Option Addr} {c : Nat} {blk size : Int} {ws : List Int} {ms : List ByteArray} {wv sv kv bv nv : Value} {ks bs : List Int} {w1 wr wx w3 : World} {x : Int} {n : Nat}
theorem TbAt.nope (h : TbAt B T G A c blk size ws ms wv sv kv bv ks bs w1 wr) (hm : Mods Nope wr wx) : TbAt B T G A c blk size ws ms wv sv kv bv ks bs w1 wx := by
  obtain ⟨x, hx⟩ := h.sig
  exact ⟨h.ord, hm.row h.row (fun h => h), ⟨x, hm.row hx (fun h => h)⟩, hm.owns h.weak (fun _ _ h => h), hm.owns h.strong (fun _ _ h => h), hm.owns h.keys (fun _ _ h => h), hm.owns h.blocks (fun _ _ h => h), h.d1, h.d2, h.d3, h.mods.then hm (fun _ _ h => h.elim)⟩
theorem TbAt.addBlock (h : TbAt B T G A c blk size ws ms wv sv kv bv ks bs w1 wr) (hn : bs.length = n) (hm : Mods Nope wr wx) (hg : wx.grownBy w3 bv.ownBlock)
    (hown : w3.ownsRow B 3 1 nv (n + 1) (ints bs ++ [.int .i64 x])) (hat : ∀ j, nv.ownBlock = some j → bv.ownBlock = some j ∨ wx.heap.size ≤ j) :
    TbAt B T G A c blk size ws ms wv sv kv nv ks (bs ++ [x]) w1 (w3.setCell ⟨T, 5, none⟩ nv) := by
  subst hn
  have ho := h.ord
  have h' := h.nope hm
  obtain ⟨y, hy⟩ := h'.sig
  have hT := grown_row hg h'.row (own_ne_row h'.blocks h'.row (by decide))
  have hM : Mods (fun j => bv.ownBlock = some j ∨ j = T) wx (w3.setCell ⟨T, 5, none⟩ nv) :=
    ((Mods.refl _ _).grown hg (fun j hj _ => .inl hj)).setCell _ (fun _ => .inr rfl) _
  have hown2 : (w3.setCell ⟨T, 5, none⟩ nv).ownsRow B 3 1 nv (bs.length + 1) (ints bs ++ [.int .i64 x]) := ((Mods.refl (fun j => j = T) w3).setCell ⟨T, 5, none⟩ (fun _ => rfl) nv).owns hown (fun j hj e => own_ne_row hown hT (by decide) j hj e)
  refine ⟨h.ord, row_set hT 5 nv, ⟨y, hM.row hy ?_⟩, hM.owns h'.weak ?_, hM.owns h'.strong ?_, hM.owns h'.keys ?_, by rw [ints_append, List.length_append]; exact hown2, ?_, h.d2, ?_, ?_⟩
  · rintro (hj | hj)
    · exact own_ne_row h'.blocks hy (by decide) _ hj rfl
    · omega
  · rintro j hj (hw | rfl)
    · exact h.d1 j hw hj
    · exact own_ne_row h'.weak h'.row (by decide) _ hj rfl
  · rintro j hj (hw | rfl)
    · exact own_ne_own h'.strong h'.blocks (by decide) j hj hw
    · exact own_ne_row h'.strong h'.row (by decide) _ hj rfl
  · rintro j hj (hw | rfl)
    · exact h.d3 j hj hw
    · exact own_ne_row h'.keys h'.row (by decide) _ hj rfl
  · exact h.d1.fresh h'.weak (Nat.le_refl _) hat
  · exact (h.d3.symm.fresh h'.keys (Nat.le_refl _) hat).symm
  · refine h'.mods.then hM ?_
    rintro j hj (hw | rfl)
    · exact (h'.blocks.lt _ hw).1
    · exact ho.1
theorem TbAt.addKey (h : TbAt B T G A c blk size ws ms wv sv kv bv ks bs w1 wr) (hn : ks.length = n) (hm : Mods Nope wr wx) (hg : wx.grownBy w3 kv.ownBlock)
    (hown : w3.ownsRow B 3 1 nv (n + 1) (ints ks ++ [.int .i64 x])) (hat : ∀ j, nv.ownBlock = some j → kv.ownBlock = some j ∨ wx.heap.size ≤ j) :
    TbAt B T G A c blk size ws ms wv sv nv bv (ks ++ [x]) bs w1 (w3.setCell ⟨T, 4, none⟩ nv) := by
  subst hn
  have ho := h.ord
  have h' := h.nope hm
  obtain ⟨y, hy⟩ := h'.sig
  have hT := grown_row hg h'.row (own_ne_row h'.keys h'.row (by decide))
  have hM : Mods (fun j => kv.ownBlock = some j ∨ j = T) wx (w3.setCell ⟨T, 4, none⟩ nv) :=
    ((Mods.refl _ _).grown hg (fun j hj _ => .inl hj)).setCell _ (fun _ => .inr rfl) _
  have hown2 : (w3.setCell ⟨T, 4, none⟩ nv).ownsRow B 3 1 nv (ks.length + 1) (ints ks ++ [.int .i64 x]) := ((Mods.refl (fun j => j = T) w3).setCell ⟨T, 4, none⟩ (fun _ => rfl) nv).owns hown (fun j hj e => own_ne_row hown hT (by decide) j hj e)
  refine ⟨h.ord, row_set hT 4 nv, ⟨y, hM.row hy ?_⟩, hM.owns h'.weak ?_, hM.owns h'.strong ?_, by rw [ints_append, List.length_append]; exact hown2, hM.owns h'.blocks ?_, h.d1, ?_, ?_, ?_⟩
  · rintro (hj | hj)
    · exact own_ne_row h'.keys hy (by decide) _ hj rfl
    · omega
  · rintro j hj (hw | rfl)
    · exact h.d2 j hw hj
    · exact own_ne_row h'.weak h'.row (by decide) _ hj rfl
  · rintro j hj (hw | rfl)
    · exact own_ne_own h'.strong h'.keys (by decide) j hj hw
    · exact own_ne_row h'.strong h'.row (by decide) _ hj rfl
  · rintro j hj (hw | rfl)
    · exact h.d3 j hw hj
    · exact own_ne_row h'.blocks h'.row (by decide) _ hj rfl
  · exact h.d2.fresh h'.weak (Nat.le_refl _) hat
  · exact h.d3.fresh h'.blocks (Nat.le_refl _) hat
  · refine h'.mods.then hM ?_
    rintro j hj (hw | rfl)
    · exact (h'.keys.lt _ hw).1
    · exact ho.1
/-- The blocks in another order. -/
theorem TbAt.sorted {g cap : Nat} {s : List Int} (h : TbAt B T G A c blk size ws ms wv sv kv bv ks bs w1 wr) (hb : bv = .slice (some ⟨g, 0, none⟩) bs.length cap) (hp : s.Perm bs) (hA : Arr wx g cap s) (hm : Mods (fun j => j = g) wr wx) :
    TbAt B T G A c blk size ws ms wv sv kv bv ks s w1 wx := by
  have ho := h.ord
  have hbg : bv.ownBlock = some g := by rw [hb]; rfl
  have hBg := (h.blocks.lt g hbg).1
  obtain ⟨y, hy⟩ := h.sig
  refine ⟨h.ord, hm.row h.row ?_, ⟨y, hm.row hy ?_⟩, hm.owns h.weak ?_, hm.owns h.strong ?_, hm.owns h.keys ?_, ?_, h.d1, h.d2, h.d3, ?_⟩
  · exact fun e => own_ne_row h.blocks h.row (by decide) g hbg e.symm
  · exact fun e => own_ne_row h.blocks hy (by decide) g hbg e.symm
  · rintro j hj rfl; exact h.d1 j hbg hj
  · rintro j hj rfl; exact own_ne_own h.strong h.blocks (by decide) j hj hbg
  · rintro j hj rfl; exact h.d3 j hj hbg
  · have hl := hp.length_eq
    rw [hb, ← hl]
    unfold Arr at hA
    refine ⟨hA.1, ?_⟩
    rcases hA.2 with ⟨e, _⟩ | ⟨g', cap', cur, e, _, rest⟩
    · cases e
    · refine .inr ⟨g', cap', cur, e, ?_, rest⟩
      injection e with e _ _
      injection e with e
      injection e with e _
      subst e
      exact hBg
  · exact h.mods.then hm (fun j hj e => by omega)
end
theorem own_arr {w : World} {B : Nat} {v : Value} {xs : List Int} (h : w.ownsRow B 3 1 v xs.length (ints xs)) : (v = .slice none 0 0 ∧ xs = []) ∨ ∃ g cap, v = .slice (some ⟨g, 0, none⟩) xs.length cap ∧ B ≤ g ∧ Arr w g cap xs := by
  rcases h.2 with ⟨rfl, h0⟩ | ⟨g, cap, cur, rfl, hb, rest⟩
  · exact .inl ⟨rfl, List.eq_nil_of_length_eq_zero h0⟩
  · exact .inr ⟨g, cap, rfl, hb, h.1, .inr ⟨g, cap, cur, rfl, Nat.zero_le _, rest⟩⟩
/-- The first blocks. -/
def rng (k : Nat) : List Int := (List.range k).map fun (i : Nat) => (i : Int)
theorem rng_length (k : Nat) : (rng k).length = k := by simp [rng]
theorem rng_snoc (k : Nat) : rng (k + 1) = rng k ++ [(k : Int)] := by simp [rng, List.range_succ]
theorem rng_lt (k : Nat) : (rng k).Pairwise (· < ·) := by
  unfold rng
  rw [List.pairwise_map]
  exact List.pairwise_lt_range.imp (fun h => by omega)
theorem rng_mem {k : Nat} {x : Int} (h : x ∈ rng k) : 0 ≤ x ∧ x < k := by
  simp only [rng, List.mem_map, List.mem_range] at h
  obtain ⟨i, hi, rfl⟩ := h
  omega
theorem div_le_cnt (n b : Nat) (hb : 0 < b) : n / b ≤ cnt n b := by
  unfold cnt
  exact Nat.div_le_div_right (by omega)
theorem rd_far {M : Nat → Prop} {w w' : World} {A : Option Addr} {ws : List Int} (h : Rd w A (ints ws)) (hm : Mods M w w') (hA : 0 < ws.length → ∀ a, A = some a → ¬ M a.block) : Rd w' A (ints ws) := by
  by_cases h0 : 0 < ws.length
  · exact h.mods hm (hA h0)
  · obtain rfl : ws = [] := List.eq_nil_of_length_eq_zero (by omega)
    exact Rd.nil _ _
theorem cells4 {w : World} {g e : Nat} {a b c d : Value} (h : w.heap[g]? = some (.cells #[a, b, c, d] e (0, 0))) :
    w.cell? ⟨g, 0, none⟩ = some a ∧ w.cell? ⟨g, 1, none⟩ = some b ∧ w.cell? ⟨g, 2, none⟩ = some c ∧ w.cell? ⟨g, 3, none⟩ = some d :=
  ⟨by rw [row_cell h]; rfl, by rw [row_cell h]; rfl, by rw [row_cell h]; rfl, by rw [row_cell h]; rfl⟩
theorem cells6 {w : World} {g e : Nat} {a b c d x y : Value} (h : w.heap[g]? = some (.cells #[a, b, c, d, x, y] e (0, 0))) :
    w.cell? ⟨g, 0, none⟩ = some a ∧ w.cell? ⟨g, 1, none⟩ = some b ∧ w.cell? ⟨g, 2, none⟩ = some c ∧ w.cell? ⟨g, 3, none⟩ = some d ∧ w.cell? ⟨g, 4, none⟩ = some x ∧ w.cell? ⟨g, 5, none⟩ = some y ∧ (∀ j, w.frozen? ⟨g, j, none⟩ = false) :=
  ⟨by rw [row_cell h]; rfl, by rw [row_cell h]; rfl, by rw [row_cell h]; rfl, by rw [row_cell h]; rfl, by rw [row_cell h]; rfl, by rw [row_cell h]; rfl, fun j => row_frozen h j⟩
set_option maxRecDepth 100000 in
set_option maxHeartbeats 4000000 in
theorem f57_bad (blk size : Int) (A A' : Option Addr) (c c' l m : Nat) (ws : List Int) (ms : List ByteArray) (w : World) (hl : ws.length = l) (hm : ms.length = m) (hw : Rd w A (ints ws)) (hs : Rd w A' (strs ms)) (hz : ∀ m ∈ ms, m.size ≤ maxLen) (hok : sigB blk size ws ms = false) :
    Calls Try.prog 57 #[.agg #[.int .i64 blk, .int .i64 size, .slice A l c, .slice A' m c']] w fun e w' => e = .returned (.tuple #[.pointer none, .int .i64 1]) ∧ Mods Nope w w' := by
  go_enter Try.func57, Try.ntmps57
  go_wp2_with fail
  refine (f35_at _ _ A A' c c' _ _ _ _ _ hl hm (hw.alloc _) (hs.alloc _) hz).mono ?_; rintro e w1 ⟨rfl, h1⟩
  rw [hok]
  have H := Lib.hid (((Mods.refl Nope w).alloc _).trans h1)
  clear h1
  go_wp2
  go_ret2
  exact ⟨rfl, H.out⟩
set_option maxRecDepth 100000 in
set_option maxHeartbeats 4000000 in
theorem f57_ok (blk size : Int) (A A' : Option Addr) (c c' l m : Nat) (ws : List Int) (ms : List ByteArray) (w : World) (hl : ws.length = l) (hm : ms.length = m) (hw : Rd w A (ints ws)) (hs : Rd w A' (strs ms)) (hz : ∀ m ∈ ms, m.size ≤ maxLen) (hok : SigOK blk size ws ms) :
    Calls Try.prog 57 #[.agg #[.int .i64 blk, .int .i64 size, .slice A l c, .slice A' m c']] w fun e w' => ∃ T wv sv kv bv bs, e = .returned (.tuple #[.pointer (some ⟨T, 0, none⟩), .int .i64 0]) ∧ Tbl w' w.heap.size T blk size ws ms bs wv sv kv bv ∧ bs.Perm (rng (size.toNat / blk.toNat)) ∧ bs.Pairwise (Rl ws) ∧ Mods Nope w w' := by
  have hsb := sigB_true.2 hok
  obtain ⟨b, rfl⟩ := Int.eq_ofNat_of_zero_le (show 0 ≤ blk by have := hok.1; omega)
  obtain ⟨n, rfl⟩ := Int.eq_ofNat_of_zero_le hok.2.2.1
  have hb16 : 16 ≤ b := by have := hok.1; omega
  subst hl
  subst hm
  have hAB : 0 < ws.length → ∀ a, A = some a → a.block < w.heap.size := by
    intro h0 a e
    obtain ⟨b', off, e', hc⟩ := hw.int 0 h0
    rw [e] at e'
    injection e' with e'
    subst e'
    exact lt_of_cell hc
  go_enter Try.func57, Try.ntmps57
  go_wp2_with fail
  refine (f35_at _ _ A A' c c' _ _ _ _ _ rfl rfl (hw.alloc _) (hs.alloc _) hz).mono ?_; rintro e w1 ⟨rfl, h1⟩
  rw [hsb]
  have HOK := Lib.hid hok
  have hG := h1.row (heap_alloc_new w (.cells #[.int .i64 b, .int .i64 n, .slice A ws.length c, .slice A' ms.length c'] 31)) (fun h => h)
  have HG := Lib.hid hG
  have HM1 := Lib.hid (((Mods.refl Nope w).alloc _).trans h1)
  have HW := Lib.hid (hw.below HM1.out)
  have HS := Lib.hid (hs.below HM1.out)
  have hl2 : ws.length ≤ 524288 := by
    have := hok.2.2.2.2.1
    have h2 := cnt_le n b (by omega)
    have := hok.2.2.2.1
    simp only [Int.toNat_natCast] at *
    omega
  have hml : ms.length = ws.length := by exact hok.2.2.2.2.2.1
  have hm2 : ms.length ≤ 524288 := by omega
  have HAB := Lib.hid hAB
  have hz1 : w.heap.size ≤ w1.heap.size := HM1.out.size
  have k0 : w1.cell? ⟨w.heap.size, 0, none⟩ = some (.int .i64 b) := by rw [row_cell hG]; rfl
  have k1 : w1.cell? ⟨w.heap.size, 1, none⟩ = some (.int .i64 n) := by rw [row_cell hG]; rfl
  have k2 : w1.cell? ⟨w.heap.size, 2, none⟩ = some (.slice A ws.length c) := by rw [row_cell hG]; rfl
  have k3 : w1.cell? ⟨w.heap.size, 3, none⟩ = some (.slice A' ms.length c') := by rw [row_cell hG]; rfl
  clear hw hs hz hok h1 hG hsb hAB hml
  go_upto_region 3 with fail
  go_cut [4] (fun p wx => ∃ T wv sv, p = .pointer (some ⟨T, 0, none⟩) ∧ w.heap.size ≤ T ∧ wx.heap[T]? = some (.cells #[.int .i64 b, .int .i64 n, wv, sv, .slice none 0 0, .slice none 0 0] 113 (0, 0)) ∧ wx.ownsRow w.heap.size 3 1 wv ws.length (ints ws) ∧ wx.ownsRow w.heap.size 9 1 sv ms.length (strs ms) ∧ Mods Nope w1 wx)
  case first =>
    go_region_held3 (fun w' => w'.cell? ⟨w.heap.size, 0, none⟩ = some (.int .i64 b) ∧ w'.cell? ⟨w.heap.size, 1, none⟩ = some (.int .i64 n) ∧ w'.cell? ⟨w.heap.size, 2, none⟩ = some (.slice A ws.length c) ∧ w'.cell? ⟨w.heap.size, 3, none⟩ = some (.slice A' ms.length c')) (go_keep)
      (first
        | (go_at_call 102; refine (f102_calls A ws.length c ws _ rfl (HW.out.below (by repeat (with_reducible first | exact HMX.out | exact Mods.refl _ _ | apply Mods.drew | apply Mods.drewN))) (by omega)).mono ?_; rintro e w2 ⟨v1, rfl, ho1, hm1⟩
           obtain ⟨A1, c1, rfl, _⟩ := Rd.of_owns ho1
           have HMX : Hid (Mods Nope w1 w2) := Mods.trans (by repeat (with_reducible first | exact HMX.out | exact Mods.refl _ _ | apply Mods.drew | apply Mods.drewN)) hm1
           have HO1 : Hid (w2.ownsRow w.heap.size 3 1 (.slice A1 ws.length c1) ws.length (ints ws)) := own_base ho1 (Nat.le_trans hz1 (Mods.size (M := Nope) (by repeat (with_reducible first | exact HMX.out | exact Mods.refl _ _ | apply Mods.drew | apply Mods.drewN))))
           obtain ⟨k0, k1, k2, k3⟩ := cells4 (HMX.out.row HG.out (fun h => h))
           clear ho1 hm1)
        | (go_at_call 103; refine (f103_calls A' ms.length c' ms _ rfl (HS.out.below (by repeat (with_reducible first | exact HMX.out | exact Mods.refl _ _ | apply Mods.drew | apply Mods.drewN))) (by omega)).mono ?_; rintro e w3 ⟨v2, rfl, ho2, hm2⟩
           obtain ⟨A2, c2, rfl, _⟩ := Rd.of_owns ho2
           have HO2 : Hid (w3.ownsRow w.heap.size 9 1 (.slice A2 ms.length c2) ms.length (strs ms)) := own_base ho2 (Nat.le_trans hz1 (Mods.size (M := Nope) (by repeat (with_reducible first | exact HMX.out | exact Mods.refl _ _ | apply Mods.drew | apply Mods.drewN))))
           have HO1 : Hid (w3.ownsRow w.heap.size 3 1 (.slice A1 ws.length c1) ws.length (ints ws)) := hm2.owns HO1.out (fun _ _ h => h)
           have HMX : Hid (Mods Nope w1 w3) := Mods.trans (by repeat (with_reducible first | exact HMX.out | exact Mods.refl _ _ | apply Mods.drew | apply Mods.drewN)) hm2
           obtain ⟨k0, k1, k2, k3⟩ := cells4 (HMX.out.row HG.out (fun h => h))
           clear ho2 hm2))
    all_goals
      go_wp2_with fail
      go_meet
      refine ⟨_, .slice A1 ws.length c1, .slice A2 ms.length c2, rfl, ?_, heap_alloc_new _ _, ?_, ?_, ?_⟩
      · exact Nat.le_trans hz1 HMX.out.size
      · exact HO1.out.alloc _
      · exact HO2.out.alloc _
      · exact HMX.out.alloc _
  case rest =>
    obtain ⟨T, wv, sv, rfl, hBT, hT, how, hos, hmx⟩ := hcut
    have hG := hmx.row HG.out (fun h => h)
    have hTG : w.heap.size ≠ T := by rintro rfl; rw [hG] at hT; cases hT
    have HT : Hid (TbAt w.heap.size T w.heap.size A c b n ws ms wv sv (.slice none 0 0) (.slice none 0 0) [] [] w1 wc) := by
      refine ⟨⟨hBT, Nat.le_refl _, hTG⟩, hT, ⟨_, hG⟩, how, hos, World.ownsRow_nil _ _ _ _, World.ownsRow_nil _ _ _ _, ?_, ?_, ?_, hmx.any _⟩ <;> (intro k hk; simp [Value.ownBlock] at hk)
    clear k0 k1 k2 k3
    obtain ⟨k0, k1, k2, k3⟩ := cells4 hG
    have HNQ : Hid ((n : Int) / (b : Int) = ((n / b : Nat) : Int)) := by unfold Hid; exact (Int.natCast_ediv n b).symm
    have hNQ : n / b ≤ ws.length := by
      have h := HOK.out.2.2.2.2.1
      simp only [Int.toNat_natCast] at h
      rw [h]
      exact div_le_cnt n b (by omega)
    have hnb : (n : Int) ≤ 524288 := HOK.out.2.2.2.1
    have hdv : 0 ≤ (n : Int) / (b : Int) ∧ (n : Int) / (b : Int) ≤ 524288 := by rw [HNQ.out]; exact ⟨Int.natCast_nonneg _, Int.le_trans (Int.ofNat_le.2 (Nat.div_le_self n b)) hnb⟩
    obtain ⟨hdv1, hdv2⟩ := hdv
    clear hBT hT how hos hmx hG hTG
    go_wp2_with fail
    rw [HNQ.out]
    obtain ⟨Q, hQ⟩ : ∃ Q, Q = n / b := ⟨_, rfl⟩
    rw [← hQ] at hNQ ⊢
    have HQ := Lib.hid hQ
    clear hQ k0 k1 k2 k3 hdv1 hdv2
    go_loopg [29] Q (fun gk i wr => ∃ k bv, k ≤ Q ∧ gk = Q - k ∧ i = .int .i64 (k : Nat) ∧ (k = 0 → bv = .slice none 0 0) ∧ TbAt w.heap.size T w.heap.size A c b n ws ms wv sv (.slice none 0 0) bv [] (rng k) w1 wr)
    case atStart => exact ⟨0, .slice none 0 0, by omega, by omega, rfl, fun _ => rfl, HT.out⟩
    case round =>
      obtain ⟨k, bv, hk, rfl, rfl, hk0, hTb⟩ := hrel
      have HK0 := Lib.hid hk0
      clear hk0
      have HT1 := Lib.hid hTb
      by_cases hlt : k < Q
      · have HLT := Lib.hid hlt
        obtain ⟨_, _, _, _, _, d5, df⟩ := cells6 hTb.row
        have HWI := Lib.hid (show (ints (rng k)).length = k by rw [ints_length, rng_length])
        have HO := Lib.hid (show wr.ownsRow w.heap.size 3 1 bv (ints (rng k)).length (ints (rng k)) by rw [ints_length]; exact hTb.blocks)
        have hz2 : w.heap.size ≤ wr.heap.size := Nat.le_trans hz1 hTb.mods.size
        clear hTb
        go_wp2_with (at_builtin; refine wpList_app1 _ rfl _ _ 28 3 (.int .i64 0) 8 rfl Try.underlying28 info3 rfl (by decide) _ (ints (rng k)) (.int .i64 (k : Int)) _ rfl rfl (by simp) rfl w.heap.size (by exact HO.out.alloc _) (by simp; omega) (by rw [HWI.out]; omega) ?_)
        intro g cap w3 hown3 hg3 hat3
        rw [HWI.out] at hown3 ⊢
        have HA3 := Lib.hid (HT1.out.addBlock (rng_length k) ((Mods.refl Nope wr).alloc _) hg3 hown3 (at_of (by simpa using hat3)))
        have hT3 := grown_row hg3 (row_alloc HT1.out.row _) (own_ne_row HT1.out.blocks HT1.out.row (by decide))
        obtain ⟨_, _, _, _, _, x5, xf⟩ := cells6 hT3
        clear hown3 hg3 hat3 hT3 d5 df
        go_wp2_with fail
        go_roundg (Q - (k + 1))
        case measure => have := HLT.out; omega
        case rel => exact ⟨k + 1, _, HLT.out, rfl, by go_num, fun h => absurd h (Nat.succ_ne_zero k), by rw [rng_snoc]; exact HA3.out⟩
      · obtain rfl : k = Q := by omega
        obtain ⟨_, _, _, _, _, d5, df⟩ := cells6 hTb.row
        have HKS : Hid (KS wr w.heap.size A c ws) := by
          obtain ⟨y, hy⟩ := hTb.sig
          refine ⟨⟨_, _, _, hy⟩, rd_far HW.out hTb.mods (fun h0 a e => by have := HAB.out h0 a e; omega), HOK.out.2.2.2.2.2.2.1, hl2⟩
        have HIN : Hid (InR ws (rng k)) := fun x hx => by have := rng_mem hx; omega
        have hmf : ∀ (fn : Fn) (first cap : Array Value) (w : World), (Instr.makeFunc fn first cap).run Try.prog w = .ok (.func fn first cap) w := fun _ _ _ _ => rfl
        have hoa := own_arr hTb.blocks
        have hGg := hTb.sig
        have HDW := Lib.hid (fun g cap (h : bv = .slice (some ⟨g, 0, none⟩) (rng k).length cap) => show g ≠ w.heap.size by
          rintro rfl
          obtain ⟨y, hy⟩ := hTb.sig
          exact own_ne_row hTb.blocks hy (by decide) _ (by rw [h]; rfl) rfl)
        have HQ1 := Lib.hid (rng_length k)
        clear hTb hGg
        go_upto_region 9 with fail
        go_cut [] (fun wx => ∃ s, s.Perm (rng k) ∧ s.Pairwise (Rl ws) ∧ TbAt w.heap.size T w.heap.size A c b n ws ms wv sv (.slice none 0 0) bv [] s w1 wx)
        case first =>
          rcases hoa with ⟨hbv, hr0⟩ | ⟨g, cap, hbv, hBg, hArr⟩
          · subst hbv
            go_wp2_with fail
            refine (f104_nil _ _).mono ?_; rintro e w2 ⟨rfl, rfl⟩
            go_wp2_with fail
            go_meet
            exact ⟨rng k, List.Perm.refl _, by rw [hr0]; exact .nil, HT1.out⟩
          · have HA := Lib.hid hArr
            have HBV := Lib.hid hbv
            have HGW := Lib.hid (HDW.out g cap hbv)
            have HC := Lib.hid (f104_calls g cap (rng k).length w.heap.size A c ws (rng k) wr hArr rfl HKS.out HGW.out (fun ad e => by have := HAB.out (by have := HK0.out; rcases Nat.eq_zero_or_pos k with h | h; (have := this h; rw [hbv] at this; cases this); omega) ad e; omega) HIN.out (rng_lt k) (by rw [rng_length]; omega))
            clear hArr hBg
            unfold cmpV at HC
            rw [hbv] at d5
            clear hbv
            go_wp2_with fail
            refine HC.out.mono ?_; rintro e w2 ⟨rfl, s, hp, hs, hA2, hm2⟩
            have H2 := Lib.hid (HT1.out.sorted HBV.out hp hA2 hm2)
            have HP := Lib.hid hp
            have HSO := Lib.hid hs
            clear hp hs hA2 hm2
            go_wp2_with fail
            go_meet
            exact ⟨s, HP.out, HSO.out, H2.out⟩
        case rest =>
          obtain ⟨s, hp, hso, hT2⟩ := hcut
          have HP := Lib.hid hp
          have HSO := Lib.hid hso
          have HT2 := Lib.hid hT2
          have hsl : s.length = k := by rw [hp.length_eq, rng_length]
          have HSL := Lib.hid hsl
          have HSM : Hid (∀ x ∈ s, 0 ≤ x ∧ x < k) := fun x hx => rng_mem (hp.subset hx)
          obtain ⟨Ab, cb, hbv, hcb, _, hrb, _⟩ := Rd.of_owns hT2.blocks
          subst hbv
          obtain ⟨_, _, _, _, _, y5, yf⟩ := cells6 hT2.row
          have hsk : s.length ≤ 524288 := by omega
          clear hp hso hT2 hsl hrb d5 df hoa HDW
          go_wp2_with fail
          go_loopg [54] s.length (fun gk i wr => ∃ (j : Nat) (kv : Value), j ≤ s.length ∧ gk = s.length - j ∧ i = .int .i64 (j : Nat) ∧ TbAt w.heap.size T w.heap.size A c b n ws ms wv sv kv (.slice Ab s.length cb) ((s.take j).map (kw ws)) s w1 wr)
          case atStart => exact ⟨0, _, by omega, by omega, rfl, HT2.out⟩
          case round =>
            obtain ⟨j, kv, hj, rfl, rfl, hTb⟩ := hrel
            have HT3 := Lib.hid hTb
            by_cases hlt2 : j < s.length
            · have HLT := Lib.hid hlt2
              obtain ⟨_, _, _, _, y4, y5, yf⟩ := cells6 hTb.row
              obtain ⟨y, hy⟩ := hTb.sig
              obtain ⟨_, _, z2, _⟩ := cells4 hy
              obtain ⟨_, _, hAb, _, _, hrb, _⟩ := Rd.of_owns hTb.blocks
              injection hAb with hAb _ hcc
              subst hAb
              clear hcc
              obtain ⟨bb, bo, hAb, hcell⟩ := hrb.int j hlt2
              subst hAb
              have HTK0 : Hid (s.take (j + 1) = s.take j ++ [s[j]]) := List.take_succ_eq_append_getElem hlt2
              have hxm : s[j] ∈ s := List.getElem_mem hlt2
              generalize s[j] = x at hcell HTK0 hxm
              have hx := HSM.out x hxm
              obtain ⟨xi, rfl⟩ := Int.eq_ofNat_of_zero_le hx.1
              have hxl : xi < ws.length := by omega
              have hrw := rd_far HW.out hTb.mods (fun h0 a e => by have := HAB.out h0 a e; omega)
              obtain ⟨ab, ao, hAa, hca⟩ := hrw.int xi hxl
              have hkw : ws[xi] = kw ws (xi : Int) := by simp [kw, hxl]
              rw [hkw] at hca
              have hxil : (xi : Int) < (ws.length : Int) := by omega
              have hji : (j : Int) < (s.length : Int) := by omega
              have HWI := Lib.hid (show (ints ((s.take j).map (kw ws))).length = j by rw [ints_length, List.length_map, List.length_take]; omega)
              have HO := Lib.hid (show wr.ownsRow w.heap.size 3 1 kv (ints ((s.take j).map (kw ws))).length (ints ((s.take j).map (kw ws))) by rw [ints_length]; exact hTb.keys)
              have hz2 : w.heap.size ≤ wr.heap.size := Nat.le_trans hz1 hTb.mods.size
              have HTK : Hid ((s.take (j + 1)).map (kw ws) = (s.take j).map (kw ws) ++ [kw ws (xi : Int)]) := by unfold Hid; rw [HTK0.out]; simp
              have HLN : Hid (((s.take j).map (kw ws)).length = j) := by unfold Hid; rw [List.length_map, List.length_take]; omega
              subst hAa
              generalize kw ws (xi : Int) = kx at *
              have ya4 : ∀ o, (wr.alloc o).cell? ⟨T, 4, none⟩ = some kv := fun o => ((Mods.refl Nope _).alloc o).cell y4 (fun h => h)
              clear hTb hy hrb hx hxm hkw hrw hxl HTK0
              go_upto_region 13 with fail
              go_region_law (
                refine step_app1 _ rfl _ _ 28 3 (.int .i64 0) 8 rfl Try.underlying28 info3 rfl (by decide) kv (ints ((s.take j).map (kw ws))) (.int .i64 kx) _ rfl rfl (by simp) rfl w.heap.size (by exact HO.out.alloc _) (by simp; omega) (by rw [HWI.out]; omega) ?_; intro g cap w3 hown3 hg3 hat3
                have HG3 : Hid (w3.heap[T]? = some (.cells #[.int .i64 b, .int .i64 n, wv, sv, kv, .slice (some ⟨bb, bo, none⟩) s.length cb] 113 (0, 0))) := grown_row hg3 (row_alloc HT3.out.row _) (own_ne_row HT3.out.keys HT3.out.row (by decide))
                obtain ⟨_, _, _, _, x4, _, xf⟩ := cells6 HG3.out
                rw [HWI.out] at hown3 ⊢
                have HA := Lib.hid (HT3.out.addKey HLN.out (((Mods.refl Nope wr).alloc _).drew) hg3 hown3 (at_of (by simpa using hat3))))
              all_goals
                go_wp2_with fail
                go_roundg (s.length - (j + 1))
                case measure => have := HLT.out; omega
                case rel => exact ⟨j + 1, _, HLT.out, rfl, by go_num, by rw [HTK.out]; exact HA.out⟩
            · obtain rfl : j = s.length := by omega
              have HF : Hid (Tbl wr w.heap.size T b n ws ms s wv sv kv (.slice Ab s.length cb)) := by
                have h := HT3.out
                rw [List.take_length] at h
                exact ⟨h.ord.1, h.row, h.weak, h.strong, by have := h.keys; rwa [List.length_map] at this, h.blocks⟩
              have HMF : Hid (Mods Nope w wr) := HM1.out.then HT3.out.mods (fun i hi e => by omega)
              have HPF : Hid (s.Perm (rng ((n : Int).toNat / (b : Int).toNat))) := by
                unfold Hid
                simp only [Int.toNat_natCast]
                rw [← HQ.out]
                exact HP.out
              clear hTb
              go_wp2
              go_ret2
              exact ⟨T, wv, sv, kv, _, s, rfl, HF.out, HPF.out, HSO.out, HMF.out⟩
end Go.Proofs.Ytblhbbgkkijkfaa
