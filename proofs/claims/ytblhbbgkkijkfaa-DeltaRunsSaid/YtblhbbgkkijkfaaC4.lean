/- sign.Sign, walked. -/
import Derived.Test.YtblhbbgkkijkfaaC3
namespace Go.Proofs.Ytblhbbgkkijkfaa
open Go.RowKit Go.Maps
theorem grown_row {w w1 : World} {row : Option Nat} {g : Nat} {o : Obj} (h : w.grownBy w1 row) (hg : w.heap[g]? = some o) (hne : ∀ k, row = some k → k ≠ g) : w1.heap[g]? = some o :=
  (h.block g (row_lt hg) (fun e => hne g e.symm rfl)).trans hg
/-- A signature as a value. -/
def sigV (b s : Int) (wv sv : Value) : Value := .agg #[.int .i64 b, .int .i64 s, wv, sv]
def pcs (s : ByteArray) (b n : Nat) : List ByteArray := (List.range n).map fun i => pc s i b
theorem pcs_snoc (s : ByteArray) (b n : Nat) : pcs s b (n + 1) = pcs s b n ++ [pc s n b] := by simp [pcs, List.range_succ]
theorem pcs_length (s : ByteArray) (b n : Nat) : (pcs s b n).length = n := by simp [pcs]
theorem pc_size (s : ByteArray) (i b : Nat) : (pc s i b).size ≤ b := by
  simp only [pc, ByteArray.size_extract]
  rw [Nat.add_mul]
  omega
/-- The marks that Sign has written after k blocks. -/
def smarks (B : Bk) (s : ByteArray) (n k : Nat) : List ByteArray := (pcs s n k).map (B.adds (pcs s n k)).mark
theorem smarks_length (B : Bk) (s : ByteArray) (n k : Nat) : (smarks B s n k).length = k := by simp [smarks, pcs_length]
theorem smarks_snoc (B : Bk) (s : ByteArray) (n k : Nat) : smarks B s n (k + 1) = smarks B s n k ++ [(B.adds (pcs s n k)).mark (pc s k n)] := by
  unfold smarks
  rw [pcs_snoc, List.map_append, Bk.adds_snoc]
  congr 1
  · apply List.map_congr_left
    intro t ht
    exact Bk.mark_add (Bk.knows_of_mem ht) _
  · simp [Bk.mark_self]
def sweak (s : ByteArray) (n k : Nat) : List Int := (pcs s n k).map wk
theorem sweak_length (s : ByteArray) (n k : Nat) : (sweak s n k).length = k := by simp [sweak, pcs_length]
theorem sweak_snoc (s : ByteArray) (n k : Nat) : sweak s n (k + 1) = sweak s n k ++ [wk (pc s k n)] := by simp [sweak, pcs_snoc]
/-- What the loop of Sign has made: i sums, k marks. -/
structure SignAt (b mb : Nat) (B : Bk) (s : ByteArray) (n : Nat) (w wr : World) (i k : Nat) (wv sv : Value) : Prop where
  g : wr.heap[w.heap.size + 1]? = some (.cells #[.int .i64 n, .int .i64 s.size, wv, sv] 31 (0, 0))
  res : wr.heap[w.heap.size]? = some (.cells #[.int .i64 0, .int .i64 0, .slice none 0 0, .slice none 0 0] 31 (0, 0))
  weak : wr.ownsRow w.heap.size 3 1 wv i (ints (sweak s n i))
  strong : wr.ownsRow w.heap.size 9 1 sv k (strs (smarks B s n k))
  book : IsBook wr b mb (B.adds (pcs s n k))
  mods : Mods (MB mb) w wr
theorem SignAt.nope {b mb : Nat} {B : Bk} {s : ByteArray} {n : Nat} {w wr wx : World} {i k : Nat} {wv sv : Value} (h : SignAt b mb B s n w wr i k wv sv) (hm : Mods Nope wr wx) : SignAt b mb B s n w wx i k wv sv :=
  ⟨hm.row h.g (fun h => h), hm.row h.res (fun h => h), hm.owns h.weak (fun _ _ h => h), hm.owns h.strong (fun _ _ h => h), h.book.nope hm, h.mods.then hm (fun _ _ h => h.elim)⟩
theorem SignAt.addWeak {b mb : Nat} {B : Bk} {s : ByteArray} {n : Nat} {w wr wx w3 : World} {i k : Nat} {wv sv nv : Value} (h : SignAt b mb B s n w wr i k wv sv) (hlt : b < w.heap.size ∧ mb < w.heap.size)
    (hm : Mods Nope wr wx) (hg : wx.grownBy w3 wv.ownBlock) (hown : w3.ownsRow w.heap.size 3 1 nv (i + 1) (ints (sweak s n i) ++ [.int .i64 (wk (pc s i n))])) :
    SignAt b mb B s n w (w3.setCell ⟨w.heap.size + 1, 2, none⟩ nv) (i + 1) k nv sv := by
  have h' := h.nope hm
  have hG := grown_row hg h'.g (own_ne_row h'.weak h'.g (by decide))
  have hM : Mods (fun j => wv.ownBlock = some j ∨ j = w.heap.size + 1) wx (w3.setCell ⟨w.heap.size + 1, 2, none⟩ nv) :=
    ((Mods.refl _ _).grown hg (fun j hj _ => .inl hj)).setCell _ (fun _ => .inr rfl) _
  have hwb : ∀ j, wv.ownBlock = some j → w.heap.size ≤ j := fun j hj => (h'.weak.lt j hj).1
  refine ⟨row_set hG 2 nv, ?_, ?_, ?_, ?_, ?_⟩
  · refine hM.row h'.res ?_
    rintro (hj | hj)
    · exact own_ne_row h'.weak h'.res (by decide) _ hj rfl
    · omega
  · rw [sweak_snoc, ints_append]
    have hne := own_ne_row hown hG (by decide)
    exact ((Mods.refl (fun j => j = w.heap.size + 1) w3).setCell ⟨w.heap.size + 1, 2, none⟩ (fun _ => rfl) nv).owns hown (fun j hj e => hne j hj e)
  · refine hM.owns h'.strong ?_
    rintro j hj (hw | rfl)
    · exact own_ne_own h'.strong h'.weak (by decide) j hj hw
    · exact own_ne_row h'.strong h'.g (by decide) _ hj rfl
  · refine h'.book.mods hM ?_ ?_
    · rintro (hj | hj)
      · have := hwb _ hj; omega
      · omega
    · rintro (hj | hj)
      · have := hwb _ hj; omega
      · omega
  · refine h'.mods.then hM ?_
    rintro j hj (hw | rfl)
    · have := hwb _ hw; omega
    · omega
theorem SignAt.addStrong {b mb : Nat} {B : Bk} {s : ByteArray} {n : Nat} {w wr wx wy w3 : World} {i k : Nat} {wv sv nv : Value} (h : SignAt b mb B s n w wr i k wv sv) (hlt : b < w.heap.size ∧ mb < w.heap.size)
    (hmb : Mods (MB mb) wr wx) (hbk : IsBook wx b mb ((B.adds (pcs s n k)).add (pc s k n))) (hm : Mods Nope wx wy) (hg : wy.grownBy w3 sv.ownBlock) (hown : w3.ownsRow w.heap.size 9 1 nv (k + 1) (strs (smarks B s n k) ++ [.string ((B.adds (pcs s n k)).mark (pc s k n))])) :
    SignAt b mb B s n w (w3.setCell ⟨w.heap.size + 1, 3, none⟩ nv) i (k + 1) wv nv := by
  have hM1 : Mods (MB mb) wr wy := hmb.then hm (fun _ _ h => h.elim)
  have hne1 : ¬ MB mb (w.heap.size + 1) := by unfold MB; omega
  have hne0 : ¬ MB mb w.heap.size := by unfold MB; omega
  have hg1 := hM1.row h.g hne1
  have hr1 := hM1.row h.res hne0
  have hw1 := hM1.owns h.weak (fun j hj e => by have := (h.weak.lt j hj).1; unfold MB at e; omega)
  have hs1 := hM1.owns h.strong (fun j hj e => by have := (h.strong.lt j hj).1; unfold MB at e; omega)
  have hb1 := hbk.nope hm
  have hG := grown_row hg hg1 (own_ne_row hs1 hg1 (by decide))
  have hM : Mods (fun j => sv.ownBlock = some j ∨ j = w.heap.size + 1) wy (w3.setCell ⟨w.heap.size + 1, 3, none⟩ nv) :=
    ((Mods.refl _ _).grown hg (fun j hj _ => .inl hj)).setCell _ (fun _ => .inr rfl) _
  have hwb : ∀ j, sv.ownBlock = some j → w.heap.size ≤ j := fun j hj => (hs1.lt j hj).1
  refine ⟨row_set hG 3 nv, ?_, ?_, ?_, ?_, ?_⟩
  · refine hM.row hr1 ?_
    rintro (hj | hj)
    · exact own_ne_row hs1 hr1 (by decide) _ hj rfl
    · omega
  · refine hM.owns hw1 ?_
    rintro j hj (hw | rfl)
    · exact own_ne_own hw1 hs1 (by decide) j hj hw
    · exact own_ne_row hw1 hg1 (by decide) _ hj rfl
  · rw [smarks_snoc, strs_append]
    have hne := own_ne_row hown hG (by decide)
    exact ((Mods.refl (fun j => j = w.heap.size + 1) w3).setCell ⟨w.heap.size + 1, 3, none⟩ (fun _ => rfl) nv).owns hown (fun j hj e => hne j hj e)
  · rw [pcs_snoc, Bk.adds_snoc]
    refine hb1.mods hM ?_ ?_
    · rintro (hj | hj)
      · have := hwb _ hj; omega
      · omega
    · rintro (hj | hj)
      · have := hwb _ hj; omega
      · omega
  · refine (h.mods.trans hM1).then hM ?_
    rintro j hj (hw | rfl)
    · have := hwb _ hw; omega
    · omega

theorem Mods.book_at {w wr wx : World} {b mb : Nat} {B : Bk} (h : Mods (fun j => j = w.heap.size) wr wx) (hb : IsBook wr b mb B) (hlt : b < w.heap.size ∧ mb < w.heap.size) : IsBook wx b mb B :=
  hb.mods h (by omega) (by omega)
set_option maxRecDepth 100000 in
set_option maxHeartbeats 2000000 in
theorem f30_ok (b mb : Nat) (B : Bk) (s : ByteArray) (n : Nat) (w : World) (hb : IsBook w b mb B) (hL : B.len + 524288 < 1125899906842624) (hs : s.size ≤ 524288) (h1 : 16 ≤ n) (h2 : n ≤ 1024) :
    Calls Try.prog 30 #[.pointer (some ⟨b, 0, none⟩), .string s, .int .i64 n] w fun e w' => ∃ wv sv,
      e = .returned (.tuple #[sigV n s.size wv sv, .int .i64 0]) ∧
      w'.ownsRow w.heap.size 3 1 wv (cnt s.size n) (ints (sweak s n (cnt s.size n))) ∧
      w'.ownsRow w.heap.size 9 1 sv (cnt s.size n) (strs (smarks B s n (cnt s.size n))) ∧
      IsBook w' b mb (B.adds (pcs s n (cnt s.size n))) ∧ Mods (MB mb) w w' := by
  have hfit : fitsB n = true := fitsB_true.2 (by omega)
  have HL := Lib.hid hL
  have HLT := Lib.hid hb.lt
  clear hL
  go_enter Try.func30, Try.ntmps30
  go_wp2_with fail
  refine (f74_calls _ _).mono ?_; rintro e w' ⟨rfl, rfl⟩
  rw [hfit]
  have HF := Lib.hid hfit
  clear hfit
  go_wp2_with fail
  refine (f75_calls s.size n _ hs h1 h2).mono ?_; rintro e w1 ⟨rfl, rfl⟩
  go_wp2_with fail
  have hcl : cnt s.size n ≤ 524288 := Nat.le_trans (cnt_le s.size n (by omega)) hs
  have HB := Lib.hid hb
  clear hb
  go_loopg [27] (cnt s.size n) (fun gk i wr => ∃ k wv sv, k ≤ cnt s.size n ∧ gk = cnt s.size n - k ∧ i = .int .i64 (k : Nat) ∧ SignAt b mb B s n w wr k k wv sv)
  case atStart =>
    have hr0 := heap_alloc_new w (.cells #[.int .i64 0, .int .i64 0, .slice none 0 0, .slice none 0 0] 31)
    have hr1 := heap_alloc_new (w.alloc (.cells #[.int .i64 0, .int .i64 0, .slice none 0 0, .slice none 0 0] 31)) (.cells #[.int .i64 n, .int .i64 s.size, .slice none 0 0, .slice none 0 0] 31)
    have hz : (w.alloc (.cells #[.int .i64 0, .int .i64 0, .slice none 0 0, .slice none 0 0] 31)).heap.size = w.heap.size + 1 := by simp
    rw [hz] at hr1
    refine ⟨0, .slice none 0 0, .slice none 0 0, by omega, by omega, rfl, hr1, row_alloc hr0 _, ?_, ?_, ?_, ?_⟩
    · exact World.ownsRow_nil _ _ _ _
    · exact World.ownsRow_nil _ _ _ _
    · exact HB.out.nope (((Mods.refl _ _).alloc _).alloc _)
    · exact ((Mods.refl _ _).alloc _).alloc _
  case round =>
    obtain ⟨k, wv, sv, hk, rfl, rfl, hS⟩ := hrel
    by_cases hlt : k < cnt s.size n
    · have HPK := Lib.hid ((cnt_spec s.size n (by omega)).2 k hlt)
      have hps2 : (pc s k n).size ≤ 524288 := by have := pc_size s k n; omega
      have HS := Lib.hid hS
      have HK : Hid (k < cnt s.size n) := hlt
      clear hS
      go_wp2_with fail
      refine (f76_calls s k n _ hs h1 h2 HPK.out).mono ?_; rintro e w2 ⟨rfl, rfl⟩
      go_upto_region 10 with fail
      go_cut [] (fun wx => ∃ wv', SignAt b mb B s n w wx (k + 1) k wv' sv)
      case first =>
        have HWL := Lib.hid (show (ints (sweak s n k)).length = k by rw [ints_length, sweak_length])
        have HW := Lib.hid (show w2.ownsRow w.heap.size 3 1 wv (ints (sweak s n k)).length (ints (sweak s n k)) by rw [HWL.out]; exact HS.out.weak)
        have hwz : w.heap.size ≤ w2.heap.size := HS.out.mods.size
        have hc2 : w2.cell? ⟨w.heap.size + 1, 2, none⟩ = some wv := by rw [row_cell HS.out.g]; rfl
        have ha2 : ∀ o, (w2.alloc o).cell? ⟨w.heap.size + 1, 2, none⟩ = some wv := fun o => ((Mods.refl Nope _).alloc o).cell hc2 (fun h => h)
        go_region_law (first
          | (refine step_app1 _ rfl _ _ 28 3 (.int .i64 0) 8 rfl Try.underlying28 info3 rfl (by decide) wv (ints (sweak s n k)) (.int .i64 (wk (pc s k n))) _ rfl rfl (by simp) rfl w.heap.size (by exact HW.out.alloc _) (by simp; omega) (by rw [HWL.out]; omega) ?_; intro g cap w3 hown3 hg3 hat3
             have HG : Hid (w3.heap[w.heap.size + 1]? = some (.cells #[.int .i64 n, .int .i64 s.size, wv, sv] 31 (0, 0))) := grown_row hg3 (row_alloc HS.out.g _) (own_ne_row HW.out HS.out.g (by decide))
             have hcc : w3.cell? ⟨w.heap.size + 1, 2, none⟩ = some wv := by rw [row_cell HG.out]; rfl
             have hff : w3.frozen? ⟨w.heap.size + 1, 2, none⟩ = false := row_frozen HG.out 2
             rw [HWL.out] at hown3 ⊢
             have HA := Lib.hid (HS.out.addWeak HLT.out (((Mods.refl Nope w2).alloc _).drew) hg3 hown3))
          | (go_simp; go_at_call 77; refine (f77_calls _ _ hps2).mono ?_; rintro e w4 ⟨rfl, rfl⟩))
        all_goals (go_wp2_with fail; go_meet; exact ⟨_, HA.out⟩)
      case rest =>
        obtain ⟨wv', hS1⟩ := hcut
        have HS1 := Lib.hid hS1
        clear hS1
        go_wp2_with fail
        have HWL := Lib.hid (show (strs (smarks B s n k)).length = k by rw [strs_length, smarks_length])
        have hwz : w.heap.size ≤ wc.heap.size := HS1.out.mods.size
        have hc2 : wc.cell? ⟨w.heap.size + 1, 3, none⟩ = some sv := by rw [row_cell HS1.out.g]; rfl
        have hlen : (B.adds (pcs s n k)).len < 1125899906842624 := by have := B.len_adds (pcs s n k); have := HL.out; have := HK.out; rw [pcs_length] at *; omega
        have HLEN := Lib.hid hlen
        have HPS : Hid ((pc s k n).size ≤ 140737488351232) := by unfold Hid; omega
        clear hlen
        go_region_law (first
          | (refine step_app1 _ rfl _ _ 29 9 (.string ⟨#[]⟩) 16 rfl Try.underlying29 info9 rfl (by decide) sv (strs (smarks B s n k)) (.string ((B.adds (pcs s n k)).mark (pc s k n))) _ rfl rfl (by simp) rfl w.heap.size (by exact HSO.out.alloc _) (by simp; omega) (by rw [HWL.out]; omega) ?_; intro g cap w3 hown3 hg3 hat3
             have HG : Hid (w3.heap[w.heap.size + 1]? = some (.cells #[.int .i64 n, .int .i64 s.size, wv', sv] 31 (0, 0))) := grown_row hg3 (row_alloc HGG.out _) (own_ne_row HSO.out HGG.out (by decide))
             have hcc : w3.cell? ⟨w.heap.size + 1, 3, none⟩ = some sv := by rw [row_cell HG.out]; rfl
             have hff : w3.frozen? ⟨w.heap.size + 1, 3, none⟩ = false := row_frozen HG.out 3
             rw [HWL.out] at hown3 ⊢
             have HA := Lib.hid (HS1.out.addStrong HLT.out HM4.out HB4.out (((Mods.refl Nope w4).alloc _)) hg3 hown3))
          | (go_simp; go_at_call 78; refine (f78_calls b mb (B.adds (pcs s n k)) _ _ (by exact HS1.out.book) HLEN.out HPS.out).mono ?_; rintro e w4 ⟨rfl, hb4, hm4⟩
             have HB4 := Lib.hid hb4
             have HM4 : Hid (Mods (MB mb) wc w4) := ((Mods.refl _ wc).drew).trans hm4
             have hne : ¬ MB mb (w.heap.size + 1) := by have := HLT.out; unfold MB; omega
             have HGG : Hid (w4.heap[w.heap.size + 1]? = some (.cells #[.int .i64 n, .int .i64 s.size, wv', sv] 31 (0, 0))) := HM4.out.row HS1.out.g hne
             have HSO : Hid (w4.ownsRow w.heap.size 9 1 sv (strs (smarks B s n k)).length (strs (smarks B s n k))) := by rw [HWL.out]; exact HM4.out.owns HS1.out.strong (fun j hj e => by have := (HS1.out.strong.lt j hj).1; have := HLT.out; unfold MB at e; omega)
             have hz4 : w.heap.size ≤ w4.heap.size := Nat.le_trans hwz HM4.out.size
             have hc4 : w4.cell? ⟨w.heap.size + 1, 3, none⟩ = some sv := by rw [row_cell HGG.out]; rfl
             have ha4 : ∀ o, (w4.alloc o).cell? ⟨w.heap.size + 1, 3, none⟩ = some sv := fun o => ((Mods.refl Nope _).alloc o).cell hc4 (fun h => h)
             clear hb4 hm4 hne))
        all_goals
          go_wp2_with fail
          go_roundg (cnt s.size n - (k + 1))
          case measure => have := HK.out; omega
          case rel => exact ⟨k + 1, wv', _, HK.out, rfl, by go_num, HA.out⟩
    · obtain rfl : k = cnt s.size n := by omega
      obtain ⟨A, c, hA, _, _, hrd, _⟩ := Rd.of_owns hS.weak
      obtain ⟨A', c', hA', _, _, hrd', _⟩ := Rd.of_owns hS.strong
      subst hA
      subst hA'
      have g0 : wr.cell? ⟨w.heap.size + 1, 0, none⟩ = some (.int .i64 n) := by rw [row_cell hS.g]; rfl
      have g1 : wr.cell? ⟨w.heap.size + 1, 1, none⟩ = some (.int .i64 s.size) := by rw [row_cell hS.g]; rfl
      have g2 : wr.cell? ⟨w.heap.size + 1, 2, none⟩ = some (.slice A (cnt s.size n) c) := by rw [row_cell hS.g]; rfl
      have g3 : wr.cell? ⟨w.heap.size + 1, 3, none⟩ = some (.slice A' (cnt s.size n) c') := by rw [row_cell hS.g]; rfl
      have r0 : wr.cell? ⟨w.heap.size, 0, none⟩ = some (.int .i64 0) := by rw [row_cell hS.res]; rfl
      have r1 : wr.cell? ⟨w.heap.size, 1, none⟩ = some (.int .i64 0) := by rw [row_cell hS.res]; rfl
      have r2 : wr.cell? ⟨w.heap.size, 2, none⟩ = some (.slice none 0 0) := by rw [row_cell hS.res]; rfl
      have r3 : wr.cell? ⟨w.heap.size, 3, none⟩ = some (.slice none 0 0) := by rw [row_cell hS.res]; rfl
      have f0 : ∀ j, wr.frozen? ⟨w.heap.size, j, none⟩ = false := fun j => row_frozen hS.res j
      have HS := Lib.hid hS
      clear hS hrd hrd'
      go_wp2
      refine bodyPost_ret (v := .tuple #[sigV n s.size (.slice A (cnt s.size n) c) (.slice A' (cnt s.size n) c'), .int .i64 0]) (by simp [results, Try.results30, go_sem, r0, r1, r2, r3, sigV]) rfl ⟨_, _, rfl, ?_⟩
      have hM := Lib.hid (((((Mods.refl (fun j => j = w.heap.size) wr).setCell ⟨w.heap.size, 0, none⟩ (fun _ => rfl) (.int .i64 n)).setCell ⟨w.heap.size, 1, none⟩ (fun _ => rfl) (.int .i64 s.size)).setCell ⟨w.heap.size, 2, none⟩ (fun _ => rfl) (.slice A (cnt s.size n) c)).setCell ⟨w.heap.size, 3, none⟩ (fun _ => rfl) (.slice A' (cnt s.size n) c'))
      refine ⟨hM.out.owns HS.out.weak ?_, hM.out.owns HS.out.strong ?_, hM.out.book_at HS.out.book HLT.out, HS.out.mods.then hM.out (fun j hj e => by omega)⟩
      · exact own_ne_row HS.out.weak HS.out.res (by decide)
      · exact own_ne_row HS.out.strong HS.out.res (by decide)
end Go.Proofs.Ytblhbbgkkijkfaa
