/- (*sign.Table).Tail, walked. -/
import Derived.Test.YtblhbbgkkijkfaaM1
import Derived.Deep.RegionHeld3
namespace Go.Proofs.Ytblhbbgkkijkfaa
open Go.RowKit Go.Maps
def lastW (ws : List Int) : Int := ws.getD (ws.length - 1) 0
def lastM (ms : List ByteArray) : ByteArray := ms.getD (ms.length - 1) ⟨#[]⟩
/-- Is a text the last block, which is not whole? -/
def tl (ws : List Int) (ms : List ByteArray) (blk size : Nat) (B : Bk) (s : ByteArray) : Bool := decide (0 < size % blk ∧ s.size = size % blk ∧ wk s = lastW ws ∧ B.mark s = lastM ms)
def tlB (ws : List Int) (blk size : Nat) (B : Bk) (s : ByteArray) : Bk := if 0 < size % blk ∧ s.size = size % blk ∧ wk s = lastW ws then B.add s else B
def TlPost (ws : List Int) (ms : List ByteArray) (blk size : Nat) (B : Bk) (b mb : Nat) (s : ByteArray) (w : World) (e : Ending) (w' : World) : Prop :=
  e = .returned (.bool (tl ws ms blk size B s)) ∧ IsBook w' b mb (tlB ws blk size B s) ∧ Mods (MK B mb) w w'
set_option maxRecDepth 100000 in
set_option maxHeartbeats 4000000 in
theorem f42_calls (B T b mb blk n : Nat) (K : Bk) (ws : List Int) (ms : List ByteArray) (bs : List Int) (wv sv kv bv : Value) (s : ByteArray) (w : World)
    (h : Tbl w B T blk n ws ms bs wv sv kv bv) (hb : IsBook w b mb K) (hL : K.len < 1125899906842624) (hs : s.size ≤ 524288) (hblk : 16 ≤ blk) (hn : n ≤ 524288) (hwl : ws.length = cnt n blk) (hml : ms.length = ws.length) :
    Calls Try.prog 42 #[.pointer (some ⟨T, 0, none⟩), .pointer (some ⟨b, 0, none⟩), .string s] w (TlPost ws ms blk n K b mb s w) := by
  have hwl2 : ws.length ≤ 524288 := by rw [hwl]; exact Nat.le_trans (cnt_le n blk (by omega)) hn
  have HNZ : Hid (0 < n % blk → 0 < ws.length) := by
    intro h0
    rw [hwl]
    rcases Nat.eq_zero_or_pos (cnt n blk) with h1 | h1
    · have := (cnt_spec n blk (by omega)).1
      rw [h1] at this
      have : n = 0 := by omega
      subst this
      simp at h0
    · exact h1
  have HMOD : Hid ((n : Int) % (blk : Int) = ((n % blk : Nat) : Int)) := by unfold Hid; exact (Int.natCast_emod n blk).symm
  have HT := Lib.hid h
  have HB := Lib.hid hb
  have HL := Lib.hid hL
  have HML := Lib.hid hml
  have hs63 : s.size ≤ 140737488351232 := by omega
  obtain ⟨R, hR⟩ : ∃ R, R = tl ws ms blk n K s := ⟨_, rfl⟩
  obtain ⟨KB, hKB⟩ : ∃ KB, KB = tlB ws blk n K s := ⟨_, rfl⟩
  unfold TlPost
  rw [← hR, ← hKB]
  have HR := Lib.hid hR
  have HKB := Lib.hid hKB
  unfold tl at HR
  unfold tlB at HKB
  obtain ⟨t0, t1, _, _, _, _, _⟩ := cells6 h.row
  have hmod : n % blk < blk := Nat.mod_lt _ (by omega)
  have hmi0 : 0 ≤ (n : Int) % (blk : Int) := by rw [HMOD.out]; exact Int.natCast_nonneg _
  clear hR hKB h hb hL hwl hml
  go_enter Try.func42, Try.ntmps42
  go_upto_region 3 with fail
  go_quiet (fail)
  have HMQ : Hid (Mods Nope w (w.drewN nq)) := (Mods.refl _ _).drewN _
  revert HMQ
  generalize w.drewN nq = w1
  intro HMQ
  have HT1 := Lib.hid (HT.out.nope HMQ.out)
  have HB1 := Lib.hid (HB.out.nope HMQ.out)
  obtain ⟨Aw, cw, hwv, _, _, hrw, _⟩ := Rd.of_owns HT1.out.weak
  obtain ⟨As, cs, hsv, _, _, hrs, _⟩ := Rd.of_owns HT1.out.strong
  subst hwv
  subst hsv
  clear t0 t1
  obtain ⟨_, _, t2, t3, _, _, _⟩ := cells6 HT1.out.row
  go_upto_region 5 with fail
  rw [HMOD.out]
  generalize n % blk = r at *
  clear hmi0 HMOD
  by_cases c1 : 0 < r
  rotate_left
  · have HR1 : Hid (R = false) := by unfold Hid; rw [HR.out, decide_eq_false_iff_not]; exact fun h => c1 h.1
    have HKB1 : Hid (KB = K) := by unfold Hid; rw [HKB.out, if_neg (fun h => c1 h.1)]
    have hd : decide ((0 : Int) < (r : Int)) = false := by simp; omega
    go_quiet (fail)
    go_wp2
    go_ret
    obtain rfl := HR1.out; obtain rfl := HKB1.out; exact ⟨rfl, HB1.out, (HMQ.out.drewN _).any _⟩
  have hw0 := HNZ.out c1
  have HW0 := Lib.hid hw0
  by_cases c2 : s.size = r
  rotate_left
  · have HR1 : Hid (R = false) := by unfold Hid; rw [HR.out, decide_eq_false_iff_not]; exact fun h => c2 h.2.1
    have HKB1 : Hid (KB = K) := by unfold Hid; rw [HKB.out, if_neg (fun h => c2 h.2.1)]
    have hd : (((s.size : Nat) : Int) == ((r : Nat) : Int)) = false := by simp; omega
    clear c2
    go_quiet (fail)
    go_wp2
    go_ret
    obtain rfl := HR1.out; obtain rfl := HKB1.out; exact ⟨rfl, HB1.out, (HMQ.out.drewN _).any _⟩
  have hd2 : (((s.size : Nat) : Int) == ((r : Nat) : Int)) = true := by simp; omega
  obtain ⟨q, hq⟩ : ∃ q, q = ws.length - 1 := ⟨_, rfl⟩
  have HQL : Hid ((ws.length : Int) - 1 = (q : Nat)) := by unfold Hid; omega
  rw [HQL.out]
  have hqw : q < ws.length := by omega
  have hqm : q < ms.length := by have := HML.out; omega
  obtain ⟨g1, o1, hA1, hc1⟩ := hrw.int q hqw
  obtain ⟨g2, o2, hA2, hc2⟩ := hrs.str q hqm
  have hv1 : ws[q] = lastW ws := by unfold lastW; rw [← hq, getD_int hqw]
  have hv2 : ms[q] = lastM ms := by
    unfold lastM
    have h2 := HML.out
    rw [h2, ← hq, List.getD_eq_getElem?_getD, List.getElem?_eq_getElem hqm, Option.getD_some]
  rw [hv1] at hc1
  rw [hv2] at hc2
  have hi0 : (0 : Int) ≤ (q : Int) := by omega
  have hi1 : (q : Int) < (ws.length : Int) := by omega
  have hi2 : (q : Int) < (ms.length : Int) := by omega
  subst hA1
  subst hA2
  clear hrw hrs hv1 hv2 hq hw0
  by_cases c3 : wk s = lastW ws
  rotate_left
  · have HR1 : Hid (R = false) := by unfold Hid; rw [HR.out, decide_eq_false_iff_not]; exact fun h => c3 h.2.2.1
    have HKB1 : Hid (KB = K) := by unfold Hid; rw [HKB.out, if_neg (fun h => c3 h.2.2)]
    have hd : (wk s == lastW ws) = false := by simpa using c3
    clear c3 c2
    go_quiet ((go_at_call 77; exact Calls.quiet_of_same (f77_calls _ _ hs)))
    go_wp2
    go_ret
    obtain rfl := HR1.out; obtain rfl := HKB1.out; exact ⟨rfl, HB1.out, (HMQ.out.drewN _).any _⟩
  · have hd3 : (wk s == lastW ws) = true := by simp [c3]
    have HKB1 : Hid (KB = K.add s) := by unfold Hid; rw [HKB.out, if_pos ⟨c1, c2, c3⟩]
    have HR1 : Hid (R = decide (K.mark s = lastM ms)) := by
      unfold Hid
      rw [HR.out]
      by_cases he : K.mark s = lastM ms
      · rw [decide_eq_true ⟨c1, c2, c3, he⟩, decide_eq_true he]
      · rw [decide_eq_false (fun h => he h.2.2.2), decide_eq_false he]
    have HSE : Hid (((K.mark s).toList == (lastM ms).toList) = decide (K.mark s = lastM ms)) := by
      unfold Hid
      by_cases he : K.mark s = lastM ms
      · rw [str_eq he, decide_eq_true he]
      · rw [str_ne he, decide_eq_false he]
    have HMK := Lib.hid (fun (wx : World) h => f78_mk b mb K s wx h HL.out hs63)
    have HC1 := Lib.hid hc1
    have HC2 := Lib.hid hc2
    generalize K.mark s = mk at *
    have HC3 := Lib.hid c3
    have HC2' := Lib.hid c2
    clear c3 c2
    go_region_held3 (fun w' => w'.cell? ⟨T, 2, none⟩ = some (.slice (some ⟨g1, o1, none⟩) ws.length cw) ∧ w'.cell? ⟨T, 3, none⟩ = some (.slice (some ⟨g2, o2, none⟩) ms.length cs) ∧ w'.cell? ⟨g1, o1 + q, none⟩ = some (.int .i64 (lastW ws)) ∧ w'.cell? ⟨g2, o2 + q, none⟩ = some (.string (lastM ms))) (go_keep)
      (first
        | (go_at_call 77; refine (f77_calls _ _ hs).mono ?_; rintro e w2 ⟨rfl, rfl⟩)
        | (go_at_call 78; refine (HMK.out _ (HB1.out.nope (by repeat (with_reducible first | exact Mods.refl _ _ | apply Mods.drew | apply Mods.drewN)))).mono ?_; rintro e w3 ⟨rfl, hb3, hm3⟩
           have HB3 := Lib.hid hb3
           have HM3 : Hid (Mods (MK K mb) w1 w3) := Mods.trans (Mods.any (by repeat (with_reducible first | exact Mods.refl _ _ | apply Mods.drew | apply Mods.drewN)) (MK K mb)) hm3
           have HT3 := Lib.hid (HT1.out.marked HB1.out HM3.out)
           have hcc1 : w3.cell? ⟨g1, o1 + q, none⟩ = some (.int .i64 (lastW ws)) := HM3.out.cell HC1.out (book_own HB1.out HT1.out.weak _ rfl)
           have hcc2 : w3.cell? ⟨g2, o2 + q, none⟩ = some (.string (lastM ms)) := HM3.out.cell HC2.out (book_own HB1.out HT1.out.strong _ rfl)
           obtain ⟨_, _, t2, t3, _, _, _⟩ := cells6 HT3.out.row
           clear hb3 hm3))
    all_goals
      go_wp2
      go_ret
      obtain rfl := HR1.out; obtain rfl := HKB1.out; exact ⟨ret_bool HSE.out, HB3.out, HMQ.out.any _ |>.trans HM3.out⟩
end Go.Proofs.Ytblhbbgkkijkfaa
