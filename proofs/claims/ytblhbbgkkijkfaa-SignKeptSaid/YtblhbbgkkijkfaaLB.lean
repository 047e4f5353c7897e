/- barquelaw05.SignBack, walked. -/
import Derived.Test.YtblhbbgkkijkfaaL5
import Derived.Test.YtblhbbgkkijkfaaL9
import Derived.Test.YtblhbbgkkijkfaaBP
namespace Go.Proofs.Ytblhbbgkkijkfaa
open Go.RowKit Go.Maps
theorem sigOf_ms (s : ByteArray) : ∀ m ∈ (sigOf s).ms, m.size ≤ maxLen := by
  intro m hm
  unfold sigOf sigOf0 sigOf1 sigOf2 at hm
  (repeat' split at hm) <;> first | (simp [OfR.bad] at hm; done) | (have := rds_size s _ _ m hm; unfold maxLen; omega)
theorem sgS_size (blk size : Int) (ws : List Int) (ms : List ByteArray) : (sgS blk size ws ms).size ≤ maxLen := by
  unfold sgS
  split
  · rename_i h
    obtain ⟨h1, h2, h3, h4, h5, h6, h7, h8⟩ := sigB_true.1 h
    have a1 := numsL_len (blk :: size :: ws) (fun x hx => by
      rcases List.mem_cons.1 hx with rfl | hx
      · omega
      · rcases List.mem_cons.1 hx with rfl | hx
        · omega
        · exact h7 x hx)
    have a2 := marksL_len ms h8
    have a3 := cnt_le size.toNat blk.toNat (by omega)
    have e : (⟨(sigL blk size ws ms).toArray⟩ : ByteArray).size = (sigL blk size ws ms).length := by simp [ByteArray.size]
    rw [e, sigL, List.length_append]
    simp only [List.length_cons] at a1
    unfold maxLen
    omega
  · exact Nat.zero_le _
/-- What Bytes says of what Of has read, and the other way. -/
theorem back_there {blk size : Int} {ws : List Int} {ms : List ByteArray} (h : sigB blk size ws ms = true) : sigOf (sgS blk size ws ms) = ⟨blk, size, ws, ms, 0⟩ ∧ sgE blk size ws ms = 0 := by
  rw [sgS, if_pos h, sgE, if_pos h]
  exact ⟨sigOf_sigL (sigB_true.1 h), rfl⟩
theorem there_back {s : ByteArray} (h : (sigOf s).err = 0) : sgS (sigOf s).blk (sigOf s).size (sigOf s).ws (sigOf s).ms = s ∧ sgE (sigOf s).blk (sigOf s).size (sigOf s).ws (sigOf s).ms = 0 := by
  obtain ⟨h1, h2⟩ := sigOf_inv h
  have hb := sigB_true.2 h1
  rw [sgS, if_pos hb, sgE, if_pos hb, h2]
  exact ⟨by cases s; simp, rfl⟩
/-- A signature that was read, as the law holds it. -/
structure RdSig (w : World) (g : Nat) (blk size : Int) (A A' : Option Addr) (c c' : Nat) (ws : List Int) (ms : List ByteArray) (wr : World) : Prop where
  row : wr.heap[g]? = some (.cells #[.int .i64 blk, .int .i64 size, .slice A ws.length c, .slice A' ms.length c'] 31 (0, 0))
  hw : Rd wr A (ints ws)
  hs : Rd wr A' (strs ms)
theorem RdSig.nope {w : World} {g : Nat} {blk size : Int} {A A' : Option Addr} {c c' : Nat} {ws : List Int} {ms : List ByteArray} {wr wx : World} (h : RdSig w g blk size A A' c c' ws ms wr) (hm : Mods Nope wr wx) : RdSig w g blk size A A' c c' ws ms wx :=
  ⟨hm.row h.row (fun h => h), h.hw.below hm, h.hs.below hm⟩
set_option maxRecDepth 100000 in
set_option maxHeartbeats 4000000 in
theorem signBack_walk (blk size : Int) (A A' : Option Addr) (c c' l m : Nat) (ws : List Int) (ms : List ByteArray) (a1 : ByteArray) (w : World) (hl : ws.length = l) (hm : ms.length = m) (hw : Rd w A (ints ws)) (hs : Rd w A' (strs ms)) (hz : ∀ m ∈ ms, m.size ≤ maxLen) (hlc : l ≤ c) (hmc : m ≤ c') (hc : c ≤ maxLen) (hc' : c' ≤ maxLen) (w1 : a1.size ≤ maxLen) :
    Calls Try.prog 11 #[.agg #[.int .i64 blk, .int .i64 size, .slice A l c, .slice A' m c'], .string a1] w fun e w' => e = .returned (.bool true) ∧ Mods Nope w w' := by
  have HL := Lib.hid hl
  have HML := Lib.hid hm
  have HZ := Lib.hid hz
  have HW := Lib.hid hw
  have HS := Lib.hid hs
  have H1 := Lib.hid hlc
  have H2 := Lib.hid hmc
  have H3 := Lib.hid hc
  have H4 := Lib.hid hc'
  have HSS := Lib.hid w1
  clear hl hm hw hs hz hlc hmc hc hc' w1
  go_enter Try.func11, Try.ntmps11
  go_wp2_with fail
  refine (f36_calls blk size A A' c c' l m ws ms _ HL.out HML.out (HW.out.alloc _) (HS.out.alloc _) H1.out H2.out H3.out H4.out).mono ?_; rintro e w1 ⟨rfl, h1⟩
  have hG := h1.row (heap_alloc_new w (.cells #[.int .i64 blk, .int .i64 size, .slice A l c, .slice A' m c'] 31)) (fun h => h)
  have k0 : w1.cell? ⟨w.heap.size, 0, none⟩ = some (.int .i64 blk) := by rw [row_cell hG]; rfl
  have k1 : w1.cell? ⟨w.heap.size, 1, none⟩ = some (.int .i64 size) := by rw [row_cell hG]; rfl
  have k2 : w1.cell? ⟨w.heap.size, 2, none⟩ = some (.slice A l c) := by rw [row_cell hG]; rfl
  have k3 : w1.cell? ⟨w.heap.size, 3, none⟩ = some (.slice A' m c') := by rw [row_cell hG]; rfl
  have f0 : ∀ j, w1.frozen? ⟨w.heap.size, j, none⟩ = false := fun j => row_frozen hG j
  obtain ⟨l', hl'⟩ : ∃ l', l' = min l 300 := ⟨_, rfl⟩
  obtain ⟨m', hm'⟩ : ∃ m', m' = min m 300 := ⟨_, rfl⟩
  rw [← hl', ← hm']
  have HG := Lib.hid hG
  have HL' : Hid ((ws.take 300).length = l') := by unfold Hid; rw [List.length_take, HL.out, hl']; omega
  have HM' : Hid ((ms.take 300).length = m') := by unfold Hid; rw [List.length_take, HML.out, hm']; omega
  have HZ' : Hid (∀ m ∈ ms.take 300, m.size ≤ maxLen) := fun x hx => HZ.out x (List.mem_of_mem_take hx)
  have HM1 := Lib.hid (((Mods.refl Nope w).alloc _).trans h1)
  have HB1 : Hid (l' ≤ 9223372036854775807) := by unfold Hid; omega
  have HB2 : Hid (m' ≤ 9223372036854775807) := by unfold Hid; omega
  clear hG h1 hl' hm'
  go_upto_region 2 with fail
  have hF : FewAt w w.heap.size blk size A A' c c' l' m' (ws.take 300) (ms.take 300) ((((w1.setCell ⟨w.heap.size, 0, none⟩ (.int .i64 blk)).setCell ⟨w.heap.size, 1, none⟩ (.int .i64 size)).setCell ⟨w.heap.size, 2, none⟩ (.slice A l' c)).setCell ⟨w.heap.size, 3, none⟩ (.slice A' m' c')) := by
    have hM : Mods Nope w ((((w1.setCell ⟨w.heap.size, 0, none⟩ (.int .i64 blk)).setCell ⟨w.heap.size, 1, none⟩ (.int .i64 size)).setCell ⟨w.heap.size, 2, none⟩ (.slice A l' c)).setCell ⟨w.heap.size, 3, none⟩ (.slice A' m' c')) :=
      (((HM1.out.setCell ⟨w.heap.size, 0, none⟩ (fun h => absurd h (Nat.lt_irrefl _)) _).setCell ⟨w.heap.size, 1, none⟩ (fun h => absurd h (Nat.lt_irrefl _)) _).setCell ⟨w.heap.size, 2, none⟩ (fun h => absurd h (Nat.lt_irrefl _)) _).setCell ⟨w.heap.size, 3, none⟩ (fun h => absurd h (Nat.lt_irrefl _)) _
    refine ⟨?_, ?_, ?_, hM⟩
    · rw [row_set (row_set (row_set (row_set HG.out 0 _) 1 _) 2 _) 3 _]; rfl
    · rw [show ints (ws.take 300) = (ints ws).take 300 by simp [ints, List.map_take]]
      exact (HW.out.take 300).below hM
    · rw [show strs (ms.take 300) = (strs ms).take 300 by simp [strs, List.map_take]]
      exact (HS.out.take 300).below hM
  clear k0 k1 k2 k3 f0
  revert hF
  generalize (((w1.setCell ⟨w.heap.size, 0, none⟩ (.int .i64 blk)).setCell ⟨w.heap.size, 1, none⟩ (.int .i64 size)).setCell ⟨w.heap.size, 2, none⟩ (.slice A l' c)).setCell ⟨w.heap.size, 3, none⟩ (.slice A' m' c') = w2
  intro hF
  have HF := Lib.hid hF
  clear hF HW HS HL HML HZ H1 H2 H3 H4 HG HM1
  generalize ws.take 300 = us at *
  generalize ms.take 300 = ns at *
  obtain ⟨k0, k1, k2, k3⟩ := FewAtcells HF.out.row
  go_wp2_with fail
  refine (f28_calls a1 12000 _ HSS.out (by omega)).mono ?_; rintro e w2' ⟨rfl, rfl⟩
  have HT : Hid ((cutT a1 12000).size ≤ maxLen) := by have := cutT_size a1 12000; unfold Hid maxLen; omega
  generalize cutT a1 12000 = t at HT ⊢
  go_wp2_with fail
  refine (f37_calls blk size A A' c c' l' m' us ns _ HL'.out HM'.out HF.out.hw HF.out.hs HZ'.out).mono ?_; rintro e w3 ⟨rfl, h3⟩
  have HF3 := Lib.hid (HF.out.nope h3)
  clear h3 k0 k1 k2 k3
  have hx := sgS_size blk size us ns
  have hth := back_there (blk := blk) (size := size) (ws := us) (ms := ns)
  generalize sgS blk size us ns = S1 at hx hth ⊢
  have hC4 := fun wx => f52_calls S1 wx hx
  generalize sigOf S1 = X at hC4 hth
  obtain ⟨xb, xs, xw, xm, xe⟩ := X
  have hE1 : sigB blk size us ns = false → sgE blk size us ns = 1 := fun h => by rw [sgE, if_neg (by rw [h]; exact Bool.false_ne_true)]
  generalize sgE blk size us ns = E1 at hth hE1 ⊢
  unfold OfPost at hC4
  have HC4 := Lib.hid hC4
  have HTH := Lib.hid hth
  have HE1 := Lib.hid hE1
  clear hC4 hth hE1 hx
  go_wp2_with fail
  refine (HC4.out _).mono ?_; rintro e w4 ⟨wv, sv, rfl, hw4, hs4, hm4⟩
  obtain ⟨A3, d3, rfl, hlc, hc, hrw, _⟩ := Rd.of_owns hw4
  obtain ⟨A3', d3', rfl, hlc', hc', hrs, _⟩ := Rd.of_owns hs4
  simp only [sigV]
  have HF4 := Lib.hid (HF3.out.nope (hm4.trans ((Mods.refl Nope w4).alloc (.cells #[.int .i64 xb, .int .i64 xs, .slice A3 xw.length d3, .slice A3' xm.length d3'] 31))))
  have HR4 : Hid (RdSig w w4.heap.size xb xs A3 A3' d3 d3' xw xm (w4.alloc (.cells #[.int .i64 xb, .int .i64 xs, .slice A3 xw.length d3, .slice A3' xm.length d3'] 31))) := ⟨heap_alloc_new _ _, hrw.alloc _, hrs.alloc _⟩
  clear hw4 hs4 hm4 hrw hrs hlc hc hlc' hc' HF3 HF
  have hC5 := fun wx => f52_calls t wx HT.out
  have hbk := there_back (s := t)
  have hyz := sigOf_ms t
  generalize sigOf t = Y at hC5 hbk hyz
  obtain ⟨yb, ys, yw, ym, ye⟩ := Y
  unfold OfPost at hC5
  simp only at hC5 hbk hyz
  have HC5 := Lib.hid hC5
  have HBK := Lib.hid hbk
  have HYZ := Lib.hid hyz
  clear hC5 hbk hyz
  go_wp2_with fail
  refine (HC5.out _).mono ?_; rintro e w5 ⟨wv, sv, rfl, hw5, hs5, hm5⟩
  obtain ⟨A5, d5, rfl, hlc, hc, hrw, _⟩ := Rd.of_owns hw5
  obtain ⟨A5', d5', rfl, hlc', hc', hrs, _⟩ := Rd.of_owns hs5
  simp only [sigV]
  have hN := hm5.trans ((Mods.refl Nope w5).alloc (.cells #[.int .i64 yb, .int .i64 ys, .slice A5 yw.length d5, .slice A5' ym.length d5'] 31))
  have HF5 := Lib.hid (HF4.out.nope hN)
  have HR5 := Lib.hid (HR4.out.nope hN)
  have HR5' : Hid (RdSig w w5.heap.size yb ys A5 A5' d5 d5' yw ym (w5.alloc (.cells #[.int .i64 yb, .int .i64 ys, .slice A5 yw.length d5, .slice A5' ym.length d5'] 31))) := ⟨heap_alloc_new _ _, hrw.alloc _, hrs.alloc _⟩
  clear hw5 hs5 hm5 hrw hrs hlc hc hlc' hc' hN HF4 HR4
  go_wp2_with fail
  refine (f37_calls yb ys A5 A5' d5 d5' _ _ yw ym _ rfl rfl HR5'.out.hw HR5'.out.hs HYZ.out).mono ?_; rintro e w6 ⟨rfl, h6⟩
  have HF6 := Lib.hid (HF5.out.nope h6)
  have HR6 := Lib.hid (HR5.out.nope h6)
  clear h6 HF5 HR5 HR5'
  generalize sgS yb ys yw ym = S2 at HBK ⊢
  generalize sgE yb ys yw ym = E2 at HBK ⊢
  obtain ⟨k0, k1, k2, k3⟩ := FewAtcells HF6.out.row
  obtain ⟨j0, j1, j2, j3⟩ := FewAtcells HR6.out.row
  by_cases hb : sigB blk size us ns = true
  · obtain ⟨hX, rfl⟩ := HTH.out hb
    injection hX with x1 x2 x3 x4 x5
    subst x1 x2 x3 x4 x5
    obtain rfl := HL'.out
    obtain rfl := HM'.out
    by_cases hy : ye = 0
    · obtain ⟨hS, hE⟩ := HBK.out hy
      subst hy hS hE
      have hss : (S2.toList == S2.toList) = true := by simp
      go_wp2_with fail
      refine (f46_true xb xs A3 A3' A A' d3 d3' c c' _ _ xw xm _ rfl rfl HR6.out.hw HR6.out.hs HF6.out.hw HF6.out.hs HB1.out HB2.out).mono ?_; rintro e w8 ⟨rfl, h8⟩
      have HM8 := Lib.hid (HF6.out.mods.trans h8)
      clear h8 k0 k1 k2 k3 j0 j1 j2 j3
      go_wp2_with fail
      refine (f27_calls _).mono ?_; rintro e w9 ⟨rfl, h9⟩
      have HM9 := Lib.hid (HM8.out.trans h9)
      clear h9
      go_wp2
      go_ret
      exact ⟨rfl, HM9.out⟩
    · have hyn : (ye != 0) = true := by simpa using hy
      go_wp2_with fail
      refine (f46_true xb xs A3 A3' A A' d3 d3' c c' _ _ xw xm _ rfl rfl HR6.out.hw HR6.out.hs HF6.out.hw HF6.out.hs HB1.out HB2.out).mono ?_; rintro e w8 ⟨rfl, h8⟩
      have HM8 := Lib.hid (HF6.out.mods.trans h8)
      clear h8 k0 k1 k2 k3 j0 j1 j2 j3
      go_wp2_with fail
      refine (f27_calls _).mono ?_; rintro e w9 ⟨rfl, h9⟩
      have HM9 := Lib.hid (HM8.out.trans h9)
      clear h9
      go_wp2
      go_ret
      exact ⟨rfl, HM9.out⟩
  · have hE := HE1.out (by simpa using hb)
    subst hE
    have HM8 := Lib.hid HF6.out.mods
    by_cases hy : ye = 0
    · obtain ⟨hS, hE⟩ := HBK.out hy
      subst hy hS hE
      have hss : (S2.toList == S2.toList) = true := by simp
      go_wp2_with fail
      refine (f27_calls _).mono ?_; rintro e w9 ⟨rfl, h9⟩
      have HM9 := Lib.hid (HM8.out.trans h9)
      clear h9
      go_wp2
      go_ret
      exact ⟨rfl, HM9.out⟩
    · have hyn : (ye != 0) = true := by simpa using hy
      go_wp2_with fail
      refine (f27_calls _).mono ?_; rintro e w9 ⟨rfl, h9⟩
      have HM9 := Lib.hid (HM8.out.trans h9)
      clear h9
      go_wp2
      go_ret
      exact ⟨rfl, HM9.out⟩
end Go.Proofs.Ytblhbbgkkijkfaa
