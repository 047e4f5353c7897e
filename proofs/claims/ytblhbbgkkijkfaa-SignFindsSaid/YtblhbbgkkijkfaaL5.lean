/- barquelaw05.SignBytes, walked. -/
import Derived.Test.YtblhbbgkkijkfaaC5
import Derived.Test.YtblhbbgkkijkfaaSE
namespace Go.Proofs.Ytblhbbgkkijkfaa
open Go.RowKit Go.Maps
/-- A signature's bytes, and the error. -/
noncomputable def sgS (blk size : Int) (ws : List Int) (ms : List ByteArray) : ByteArray := if sigB blk size ws ms = true then ⟨(sigL blk size ws ms).toArray⟩ else ⟨#[]⟩
noncomputable def sgE (blk size : Int) (ws : List Int) (ms : List ByteArray) : Int := if sigB blk size ws ms = true then 0 else 1
theorem f37_calls (blk size : Int) (A A' : Option Addr) (c c' l m : Nat) (ws : List Int) (ms : List ByteArray) (w : World) (hl : ws.length = l) (hm : ms.length = m) (hw : Rd w A (ints ws)) (hs : Rd w A' (strs ms)) (hz : ∀ m ∈ ms, m.size ≤ maxLen) :
    Calls Try.prog 37 #[.agg #[.int .i64 blk, .int .i64 size, .slice A l c, .slice A' m c']] w fun e w' => e = .returned (.tuple #[.string (sgS blk size ws ms), .int .i64 (sgE blk size ws ms)]) ∧ Mods Nope w w' := by
  by_cases h : sigB blk size ws ms = true
  · simp only [sgS, sgE, if_pos h]
    exact f37_ok blk size A A' c c' l m ws ms w hl hm hw hs hz (sigB_true.1 h)
  · simp only [sgS, sgE, if_neg h]
    exact f37_bad blk size A A' c c' l m ws ms w hl hm hw hs hz (by simpa using h)
theorem f38_calls (blk size : Int) (A A' : Option Addr) (c c' l m : Nat) (ws : List Int) (ms : List ByteArray) (w : World) (hl : ws.length = l) (hm : ms.length = m) (hw : Rd w A (ints ws)) (hs : Rd w A' (strs ms)) (hz : ∀ m ∈ ms, m.size ≤ maxLen) (hlb : l ≤ maxLen) (hmb : m ≤ maxLen) :
    Calls Try.prog 38 #[.agg #[.int .i64 blk, .int .i64 size, .slice A l c, .slice A' m c']] w fun e w' => e = .returned (.tuple #[.string (sgS blk size ws ms), .int .i64 (sgE blk size ws ms)]) ∧ Mods Nope w w' := by
  by_cases h : sigB blk size ws ms = true
  · simp only [sgS, sgE, if_pos h]
    exact f38_ok blk size A A' c c' l m ws ms w hl hm hw hs hz (sigB_true.1 h)
  · simp only [sgS, sgE, if_neg h]
    exact f38_bad blk size A A' c c' l m ws ms w hl hm hw hs hz hlb hmb (by simpa using h)
theorem Rd.take {w : World} {A : Option Addr} {vs : List Value} (h : Rd w A vs) (n : Nat) : Rd w A (vs.take n) := by
  intro j u hu
  rw [List.getElem?_take] at hu
  split at hu
  · exact h j u hu
  · cases hu
theorem FewAtcells {w : World} {g : Nat} {a b c d : Value} (h : w.heap[g]? = some (.cells #[a, b, c, d] 31 (0, 0))) :
    w.cell? ⟨g, 0, none⟩ = some a ∧ w.cell? ⟨g, 1, none⟩ = some b ∧ w.cell? ⟨g, 2, none⟩ = some c ∧ w.cell? ⟨g, 3, none⟩ = some d :=
  ⟨by rw [row_cell h]; rfl, by rw [row_cell h]; rfl, by rw [row_cell h]; rfl, by rw [row_cell h]; rfl⟩
/-- The law's body behind few. -/
structure FewAt (w : World) (g : Nat) (blk size : Int) (A A' : Option Addr) (c c' l m : Nat) (ws : List Int) (ms : List ByteArray) (wr : World) : Prop where
  row : wr.heap[g]? = some (.cells #[.int .i64 blk, .int .i64 size, .slice A l c, .slice A' m c'] 31 (0, 0))
  hw : Rd wr A (ints ws)
  hs : Rd wr A' (strs ms)
  mods : Mods Nope w wr
theorem FewAt.nope {w : World} {g : Nat} {blk size : Int} {A A' : Option Addr} {c c' l m : Nat} {ws : List Int} {ms : List ByteArray} {wr wx : World} (h : FewAt w g blk size A A' c c' l m ws ms wr) (hm : Mods Nope wr wx) : FewAt w g blk size A A' c c' l m ws ms wx :=
  ⟨hm.row h.row (fun h => h), h.hw.below hm, h.hs.below hm, h.mods.trans hm⟩
set_option maxRecDepth 100000 in
set_option maxHeartbeats 1000000 in
theorem signBytes_walk (blk size : Int) (A A' : Option Addr) (c c' l m : Nat) (ws : List Int) (ms : List ByteArray) (w : World) (hl : ws.length = l) (hm : ms.length = m) (hw : Rd w A (ints ws)) (hs : Rd w A' (strs ms)) (hz : ∀ m ∈ ms, m.size ≤ maxLen) (hlc : l ≤ c) (hmc : m ≤ c') (hc : c ≤ maxLen) (hc' : c' ≤ maxLen) :
    Calls Try.prog 5 #[.agg #[.int .i64 blk, .int .i64 size, .slice A l c, .slice A' m c']] w fun e w' => e = .returned (.bool true) ∧ Mods Nope w w' := by
  have HL := Lib.hid hl
  have HML := Lib.hid hm
  have HZ := Lib.hid hz
  have HW := Lib.hid hw
  have HS := Lib.hid hs
  have H1 := Lib.hid hlc
  have H2 := Lib.hid hmc
  have H3 := Lib.hid hc
  have H4 := Lib.hid hc'
  clear hl hm hw hs hz hlc hmc hc hc'
  go_enter Try.func5, Try.ntmps5
  go_wp2_with fail
  refine (f36_calls blk size A A' c c' l m ws ms _ HL.out HML.out (HW.out.alloc _) (HS.out.alloc _) H1.out H2.out H3.out H4.out).mono ?_; rintro e w1 ⟨rfl, h1⟩
  have hG := h1.row (heap_alloc_new w (.cells #[.int .i64 blk, .int .i64 size, .slice A l c, .slice A' m c'] 31)) (fun h => h)
  have k0 : w1.cell? ⟨w.heap.size, 0, none⟩ = some (.int .i64 blk) := by rw [row_cell hG]; rfl
  have k1 : w1.cell? ⟨w.heap.size, 1, none⟩ = some (.int .i64 size) := by rw [row_cell hG]; rfl
  have k2 : w1.cell? ⟨w.heap.size, 2, none⟩ = some (.slice A l c) := by rw [row_cell hG]; rfl
  have k3 : w1.cell? ⟨w.heap.size, 3, none⟩ = some (.slice A' m c') := by rw [row_cell hG]; rfl
  have f0 : ∀ j, w1.frozen? ⟨w.heap.size, j, none⟩ = false := fun j => row_frozen hG j
  obtain ⟨l', hl'⟩ : ∃ l', l' = min l 300 := ⟨_, rfl⟩
  obtain ⟨m', hm'⟩ : ∃ m', m' = min m 300 := ⟨_, rfl⟩
  rw [← hl', ← hm']
  have HG := Lib.hid hG
  have HL' : Hid ((ws.take 300).length = l') := by unfold Hid; rw [List.length_take, HL.out, hl']; omega
  have HM' : Hid ((ms.take 300).length = m') := by unfold Hid; rw [List.length_take, HML.out, hm']; omega
  have HB1 : Hid (l' ≤ maxLen) := by unfold Hid maxLen; omega
  have HB2 : Hid (m' ≤ maxLen) := by unfold Hid maxLen; omega
  have HZ' : Hid (∀ m ∈ ms.take 300, m.size ≤ maxLen) := fun x hx => HZ.out x (List.mem_of_mem_take hx)
  have HM1 := Lib.hid (((Mods.refl Nope w).alloc _).trans h1)
  clear hG h1 hl' hm'
  go_upto_region 2 with fail
  have hF : FewAt w w.heap.size blk size A A' c c' l' m' (ws.take 300) (ms.take 300) ((((w1.setCell ⟨w.heap.size, 0, none⟩ (.int .i64 blk)).setCell ⟨w.heap.size, 1, none⟩ (.int .i64 size)).setCell ⟨w.heap.size, 2, none⟩ (.slice A l' c)).setCell ⟨w.heap.size, 3, none⟩ (.slice A' m' c')) := by
    have hM : Mods Nope w ((((w1.setCell ⟨w.heap.size, 0, none⟩ (.int .i64 blk)).setCell ⟨w.heap.size, 1, none⟩ (.int .i64 size)).setCell ⟨w.heap.size, 2, none⟩ (.slice A l' c)).setCell ⟨w.heap.size, 3, none⟩ (.slice A' m' c')) :=
      (((HM1.out.setCell ⟨w.heap.size, 0, none⟩ (fun h => absurd h (Nat.lt_irrefl _)) _).setCell ⟨w.heap.size, 1, none⟩ (fun h => absurd h (Nat.lt_irrefl _)) _).setCell ⟨w.heap.size, 2, none⟩ (fun h => absurd h (Nat.lt_irrefl _)) _).setCell ⟨w.heap.size, 3, none⟩ (fun h => absurd h (Nat.lt_irrefl _)) _
    refine ⟨?_, ?_, ?_, hM⟩
    · rw [row_set (row_set (row_set (row_set HG.out 0 _) 1 _) 2 _) 3 _]; rfl
    · rw [show ints (ws.take 300) = (ints ws).take 300 by simp [ints, List.map_take]]
      exact (HW.out.take 300).below hM
    · rw [show strs (ms.take 300) = (strs ms).take 300 by simp [strs, List.map_take]]
      exact (HS.out.take 300).below hM
  clear k0 k1 k2 k3 f0
  revert hF
  generalize (((w1.setCell ⟨w.heap.size, 0, none⟩ (.int .i64 blk)).setCell ⟨w.heap.size, 1, none⟩ (.int .i64 size)).setCell ⟨w.heap.size, 2, none⟩ (.slice A l' c)).setCell ⟨w.heap.size, 3, none⟩ (.slice A' m' c') = w2
  intro hF
  obtain ⟨k0, k1, k2, k3⟩ := FewAtcells hF.row
  have HF := Lib.hid hF
  clear hF
  go_wp2_with fail
  refine (f37_calls blk size A A' c c' l' m' _ _ _ HL'.out HM'.out HF.out.hw HF.out.hs HZ'.out).mono ?_; rintro e w3 ⟨rfl, h3⟩
  have HF3 := Lib.hid (HF.out.nope h3)
  obtain ⟨k0, k1, k2, k3⟩ := FewAtcells HF3.out.row
  clear h3
  go_wp2_with fail
  refine (f38_calls blk size A A' c c' l' m' _ _ _ HL'.out HM'.out HF3.out.hw HF3.out.hs HZ'.out HB1.out HB2.out).mono ?_; rintro e w4 ⟨rfl, h4⟩
  have HF := Lib.hid (HF3.out.nope h4)
  obtain ⟨k0, k1, k2, k3⟩ := FewAtcells HF.out.row
  clear h4
  generalize hS : sgS blk size (ws.take 300) (ms.take 300) = S
  generalize hE : sgE blk size (ws.take 300) (ms.take 300) = E
  generalize hB : sigB blk size (ws.take 300) (ms.take 300) = bb
  have HBB := Lib.hid hB
  clear hS hE hB
  go_upto_region 4 with fail
  go_region_with (first
    | (go_at_call 27; refine (f27_calls _).mono ?_; rintro e w5 ⟨rfl, h5⟩
       have HF5 := Lib.hid (show Mods Nope w w5 from HF.out.mods.trans h5))
    | (go_at_call 35; refine (f35_at _ _ A A' c c' _ _ _ _ _ HL'.out HM'.out (by exact HF.out.hw) (by exact HF.out.hs) HZ'.out).mono ?_; rintro e w5 ⟨rfl, h5⟩; rw [HBB.out]
       have HF := Lib.hid (show FewAt w w.heap.size blk size A A' c c' l' m' (ws.take 300) (ms.take 300) w5 by first | exact HF.out.nope h5 | exact (HF.out.nope ((Mods.refl Nope _).drew)).nope h5)
       obtain ⟨k0, k1, k2, k3⟩ := FewAtcells HF.out.row
       clear h5)
    | (go_at_call 39; refine (f39_calls _ _ A A' c c' _ _ _ _ _ HL'.out HM'.out (by exact HF.out.hw) (by exact HF.out.hs) HZ'.out HB1.out HB2.out).mono ?_; rintro e w5 ⟨rfl, h5⟩; rw [HBB.out]
       have HF := Lib.hid (show FewAt w w.heap.size blk size A A' c c' l' m' (ws.take 300) (ms.take 300) w5 by first | exact HF.out.nope h5 | exact (HF.out.nope ((Mods.refl Nope _).drew)).nope h5)
       obtain ⟨k0, k1, k2, k3⟩ := FewAtcells HF.out.row
       clear h5))
  all_goals (go_wp2; go_ret; exact ⟨rfl, HF5.out⟩)
end Go.Proofs.Ytblhbbgkkijkfaa
