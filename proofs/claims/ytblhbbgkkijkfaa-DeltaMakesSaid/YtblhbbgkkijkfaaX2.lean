/- barqueref05.Tail, walked. -/
import Derived.Test.YtblhbbgkkijkfaaX1
namespace Go.Proofs.Ytblhbbgkkijkfaa
open Go.RowKit Go.Maps
set_option maxRecDepth 100000 in
set_option maxHeartbeats 4000000 in
theorem f117_calls (base b blk n : Nat) (v : Value) (K : Bk) (A A' : Option Addr) (c c' l m : Nat) (ws : List Int) (ms : List ByteArray) (s : ByteArray) (w0 w : World)
    (hR : RSt base b v w0 w K) (hl : ws.length = l) (hm : ms.length = m) (hw : Rd w0 A (ints ws)) (hs : Rd w0 A' (strs ms)) (hA : ∀ a, A = some a → ¬ RB b v a.block) (hA' : ∀ a, A' = some a → ¬ RB b v a.block)
    (hL : K.len < 4398046511104) (hsz : s.size ≤ 524288) (hblk : 16 ≤ blk) (hn : n ≤ 524288) (hwl : ws.length = cnt n blk) (hml : ms.length = ws.length) :
    Calls Try.prog 117 #[.pointer (some ⟨b, 0, none⟩), .agg #[.int .i64 blk, .int .i64 n, .slice A l c, .slice A' m c'], .string s] w
      fun e w' => e = .returned (.bool (tl ws ms blk n K s)) ∧ RSt base b v w0 w' (tlB ws blk n K s) ∧ Keeps w w' := by
  have hwl2 : ws.length ≤ 524288 := by rw [hwl]; exact Nat.le_trans (cnt_le n blk (by omega)) hn
  have HNZ : Hid (0 < n % blk → 0 < ws.length) := by
    intro h0
    rw [hwl]
    rcases Nat.eq_zero_or_pos (cnt n blk) with h1 | h1
    · have := (cnt_spec n blk (by omega)).1
      rw [h1] at this
      have : n = 0 := by omega
      subst this
      simp at h0
    · exact h1
  have HMOD : Hid ((n : Int) % (blk : Int) = ((n % blk : Nat) : Int)) := by unfold Hid; exact (Int.natCast_emod n blk).symm
  have HR := Lib.hid hR
  have HWS := Lib.hid hw
  have HMS := Lib.hid hs
  have HAI := Lib.hid hA
  have HAS := Lib.hid hA'
  have HLN := Lib.hid hL
  have HML := Lib.hid hml
  subst hl
  subst hm
  obtain ⟨RV, hRV⟩ : ∃ RV, RV = tl ws ms blk n K s := ⟨_, rfl⟩
  obtain ⟨KB, hKB⟩ : ∃ KB, KB = tlB ws blk n K s := ⟨_, rfl⟩
  rw [← hRV, ← hKB]
  have HRV := Lib.hid hRV
  have HKB := Lib.hid hKB
  unfold tl at HRV
  unfold tlB at HKB
  have hmod : n % blk < blk := Nat.mod_lt _ (by omega)
  have hmi0 : 0 ≤ (n : Int) % (blk : Int) := by rw [HMOD.out]; exact Int.natCast_nonneg _
  clear hRV hKB hR hw hs hA hA' hL hwl hml
  go_enter Try.func117, Try.ntmps117
  go_upto_region 2 with fail
  have HBOX := Lib.hid (heap_alloc_new w (.cells #[.int .i64 blk, .int .i64 n, .slice A ws.length c, .slice A' ms.length c'] 31))
  have HRa := Lib.hid (HR.out.nope ((Mods.refl _ _).alloc (.cells #[.int .i64 blk, .int .i64 n, .slice A ws.length c, .slice A' ms.length c'] 31)))
  have HKa : Hid (Keeps w (w.alloc (.cells #[.int .i64 blk, .int .i64 n, .slice A ws.length c, .slice A' ms.length c'] 31))) := Keeps.nope ((Mods.refl _ _).alloc _)
  generalize w.alloc (.cells #[.int .i64 blk, .int .i64 n, .slice A ws.length c, .slice A' ms.length c'] 31) = w1 at *
  rw [HMOD.out]
  generalize n % blk = r at *
  generalize w.heap.size = gb at *
  clear hmi0 HMOD
  by_cases c1 : 0 < r
  rotate_left
  · have HR1 : Hid (RV = false) := by unfold Hid; rw [HRV.out, decide_eq_false_iff_not]; exact fun h => c1 h.1
    have HKB1 : Hid (KB = K) := by unfold Hid; rw [HKB.out, if_neg (fun h => c1 h.1)]
    have hd : ((r : Int) == 0) = true := by simp; omega
    go_wp2
    go_ret
    obtain rfl := HR1.out; obtain rfl := HKB1.out
    exact ⟨rfl, HRa.out, HKa.out⟩
  have hd1 : ((r : Int) == 0) = false := by simp; omega
  have hw0 := HNZ.out c1
  by_cases c2 : s.size = r
  rotate_left
  · have HR1 : Hid (RV = false) := by unfold Hid; rw [HRV.out, decide_eq_false_iff_not]; exact fun h => c2 h.2.1
    have HKB1 : Hid (KB = K) := by unfold Hid; rw [HKB.out, if_neg (fun h => c2 h.2.1)]
    have hd : (((s.size : Nat) : Int) != ((r : Nat) : Int)) = true := by simp; omega
    clear c2
    go_wp2
    go_ret
    obtain rfl := HR1.out; obtain rfl := HKB1.out
    exact ⟨rfl, HRa.out, HKa.out⟩
  have hd2 : (((s.size : Nat) : Int) != ((r : Nat) : Int)) = false := by simp; omega
  obtain ⟨q, hq⟩ : ∃ q, q = ws.length - 1 := ⟨_, rfl⟩
  have HQL : Hid ((ws.length : Int) - 1 = (q : Nat)) := by unfold Hid; omega
  have hqw : q < ws.length := by omega
  have hqm : q < ms.length := by have := HML.out; omega
  obtain ⟨g1, o1, hA1, hc1⟩ := (HRa.out.rd HWS.out HAI.out).int q hqw
  obtain ⟨g2, o2, hA2, hc2⟩ := (HRa.out.rd HMS.out HAS.out).str q hqm
  have hv1 : ws[q] = lastW ws := by unfold lastW; rw [← hq, getD_int hqw]
  have hv2 : ms[q] = lastM ms := by
    unfold lastM
    have h2 := HML.out
    rw [h2, ← hq, List.getD_eq_getElem?_getD, List.getElem?_eq_getElem hqm, Option.getD_some]
  rw [hv1] at hc1
  rw [hv2] at hc2
  have HCW : Hid (∀ wx, RSt base b v w0 wx (K.add s) → wx.cell? ⟨g1, o1 + q, none⟩ = some (.int .i64 (lastW ws)) ∧ wx.cell? ⟨g2, o2 + q, none⟩ = some (.string (lastM ms))) := fun wx h => by
    obtain ⟨b1, p1, e1, k1⟩ := (h.rd HWS.out HAI.out).int q hqw
    obtain ⟨b2, p2, e2, k2⟩ := (h.rd HMS.out HAS.out).str q hqm
    rw [hA1] at e1
    rw [hA2] at e2
    cases e1
    cases e2
    rw [hv1] at k1
    rw [hv2] at k2
    exact ⟨k1, k2⟩
  have hi0 : (0 : Int) ≤ (q : Int) := by omega
  have hi1 : (q : Int) < (ws.length : Int) := by omega
  have hi2 : (q : Int) < (ms.length : Int) := by omega
  subst hA1
  subst hA2
  clear hv1 hv2 hq hw0
  have hb2 := (box_cells HBOX.out).1
  have hb3 := (box_cells HBOX.out).2
  have HC2' := Lib.hid c2
  clear c2
  go_upto_region 5 with fail
  rw [HQL.out]
  by_cases c3 : wk s = lastW ws
  rotate_left
  · have HR1 : Hid (RV = false) := by unfold Hid; rw [HRV.out, decide_eq_false_iff_not]; exact fun h => c3 h.2.2.1
    have HKB1 : Hid (KB = K) := by unfold Hid; rw [HKB.out, if_neg (fun h => c3 h.2.2)]
    have hd : (wk s == lastW ws) = false := by simpa using c3
    clear c3
    go_quiet ((go_at_call 59; exact Calls.quiet_of_same (f59_calls _ _ hsz)))
    go_wp2
    go_ret
    obtain rfl := HR1.out; obtain rfl := HKB1.out
    exact ⟨rfl, HRa.out.nope ((Mods.refl _ _).drewN _), HKa.out.trans (Keeps.nope ((Mods.refl _ _).drewN _))⟩
  · have hd3 : (wk s == lastW ws) = true := by simp [c3]
    have HKB1 : Hid (KB = K.add s) := by unfold Hid; rw [HKB.out, if_pos ⟨c1, HC2'.out, c3⟩]
    have HR1 : Hid (RV = decide (K.mark s = lastM ms)) := by
      unfold Hid
      rw [HRV.out]
      by_cases he : K.mark s = lastM ms
      · rw [decide_eq_true ⟨c1, HC2'.out, c3, he⟩, decide_eq_true he]
      · rw [decide_eq_false (fun h => he h.2.2.2), decide_eq_false he]
    have HSE : Hid (((K.mark s).toList == (lastM ms).toList) = decide (K.mark s = lastM ms)) := by
      unfold Hid
      by_cases he : K.mark s = lastM ms
      · rw [str_eq he, decide_eq_true he]
      · rw [str_ne he, decide_eq_false he]
    have HMK := Lib.hid (fun (wx : World) (h : RSt base b v w0 wx K) => h.mark s HLN.out (by omega))
    generalize K.mark s = mk at *
    have HC3 := Lib.hid c3
    clear c3
    go_region_held3 (fun w' => w'.cell? ⟨gb, 2, none⟩ = some (.slice (some ⟨g1, o1, none⟩) ws.length c) ∧ w'.cell? ⟨gb, 3, none⟩ = some (.slice (some ⟨g2, o2, none⟩) ms.length c') ∧ w'.cell? ⟨g1, o1 + q, none⟩ = some (.int .i64 (lastW ws)) ∧ w'.cell? ⟨g2, o2 + q, none⟩ = some (.string (lastM ms))) (go_keep)
      (first
        | (go_at_call 59; refine (f59_calls _ _ hsz).mono ?_; rintro e w2 ⟨rfl, rfl⟩)
        | (go_at_call 79; refine (HMK.out _ (HRa.out.nope (by repeat (with_reducible first | exact Mods.refl _ _ | apply Mods.drew | apply Mods.drewN)))).mono ?_; rintro e w3 ⟨rfl, hb3, hk3⟩
           have HR3 := Lib.hid hb3
           have HK3 : Hid (Keeps w1 w3) := Keeps.trans (Keeps.nope (by repeat (with_reducible first | exact Mods.refl _ _ | apply Mods.drew | apply Mods.drewN))) hk3
           have hx1 := (box_cells (HK3.out.row _ _ _ _ (by decide) (by decide) HBOX.out)).1
           have hx2 := (box_cells (HK3.out.row _ _ _ _ (by decide) (by decide) HBOX.out)).2
           have hx3 := (HCW.out _ HR3.out).1
           have hx4 := (HCW.out _ HR3.out).2
           clear hb3 hk3))
    all_goals
      go_wp2
      go_ret
      obtain rfl := HR1.out; obtain rfl := HKB1.out
      exact ⟨ret_bool HSE.out, HR3.out, HKa.out.trans HK3.out⟩
end Go.Proofs.Ytblhbbgkkijkfaa
