/- delta.Right, walked. -/
import Derived.Test.YtblhbbgkkijkfaaQ2
namespace Go.Proofs.Ytblhbbgkkijkfaa
open Go.RowKit Go.Maps
/-- Do steps make so many bytes? -/
def rgo (size : Int) : List Stp → Int → Bool
  | [], n => decide (n = size)
  | x :: l, n => if okS x (-1) = true then (if size < n + (x.len + x.text.size) then false else rgo size l (n + (x.len + x.text.size))) else false
/-- May a delta be? -/
def rightP (x y : ByteArray) (size : Int) (l : List Stp) : Bool := if x.size = 32 ∧ y.size = 32 ∧ 0 ≤ size ∧ size ≤ 524288 ∧ l.length ≤ 524288 then rgo size l 0 else false
theorem okS_any {x : Stp} (h : okS x (-1) = true) : 0 ≤ x.pos ∧ 0 ≤ x.len ∧ x.len ≤ 524288 ∧ x.pos ≤ 524288 ∧ x.text.size ≤ 4096 := by
  unfold okS at h
  split at h
  · rw [decide_eq_true_eq] at h
    exact ⟨h.2.1, by omega, h.2.2.1, by omega, by omega⟩
  · rw [decide_eq_true_eq] at h
    omega
set_option maxRecDepth 100000 in
set_option maxHeartbeats 4000000 in
theorem f67_calls (x y : ByteArray) (size : Int) (A : Option Addr) (n c : Nat) (l : List Stp) (w : World) (hn : l.length = n) (h : Rd w A (stps l)) (ht : ∀ x ∈ l, x.text.size ≤ maxLen) (hl : l.length ≤ maxLen) (hx : x.size ≤ maxLen) (hy : y.size ≤ maxLen) :
    Calls Try.prog 67 #[dltV x y size (.slice A n c)] w fun e w' => e = .returned (.bool (rightP x y size l)) ∧ Mods Nope w w' := by
  subst hn
  unfold dltV
  have HR := Lib.hid h
  have HT := Lib.hid ht
  have HX := Lib.hid hx
  have HY := Lib.hid hy
  have HL := Lib.hid hl
  obtain ⟨R, hRR⟩ : ∃ R, R = rightP x y size l := ⟨_, rfl⟩
  have HRR := Lib.hid hRR.symm
  rw [← hRR]
  unfold rightP at HRR
  clear h ht hx hy hl hRR
  by_cases q0 : x.size = 32
  rotate_left
  · have d0 : ((x.size : Int) != 32) = true := by simp; omega
    have HF : Hid (R = false) := by unfold Hid; rw [← HRR.out, if_neg (fun h => q0 h.1)]
    have HQ := Lib.hid q0
    clear q0
    go_enter Try.func67, Try.ntmps67
    go_wp2
    go_ret
    exact ⟨ret_bool HF.out.symm, (Mods.refl _ _).alloc _⟩
  have d0 : ((x.size : Int) != 32) = false := by simp; omega
  by_cases q1 : y.size = 32
  rotate_left
  · have d1 : ((y.size : Int) != 32) = true := by simp; omega
    have HF : Hid (R = false) := by unfold Hid; rw [← HRR.out, if_neg (fun h => q1 h.2.1)]
    have HQ := Lib.hid q1
    clear q1
    go_enter Try.func67, Try.ntmps67
    go_wp2
    go_ret
    exact ⟨ret_bool HF.out.symm, (Mods.refl _ _).alloc _⟩
  have d1 : ((y.size : Int) != 32) = false := by simp; omega
  by_cases q2 : 0 ≤ size
  rotate_left
  · have d2 : decide (size < 0) = true := by rw [decide_eq_true_eq]; omega
    have HF : Hid (R = false) := by unfold Hid; rw [← HRR.out, if_neg (fun h => q2 h.2.2.1)]
    have HQ := Lib.hid q2
    clear q2
    go_enter Try.func67, Try.ntmps67
    go_wp2
    go_ret
    exact ⟨ret_bool HF.out.symm, (Mods.refl _ _).alloc _⟩
  have d2 : decide (size < 0) = false := by rw [decide_eq_false_iff_not]; omega
  by_cases q3 : size ≤ 524288
  rotate_left
  · have d3 : decide (524288 < size) = true := by rw [decide_eq_true_eq]; omega
    have HF : Hid (R = false) := by unfold Hid; rw [← HRR.out, if_neg (fun h => q3 h.2.2.2.1)]
    have HQ := Lib.hid q3
    clear q3
    go_enter Try.func67, Try.ntmps67
    go_wp2
    go_ret
    exact ⟨ret_bool HF.out.symm, (Mods.refl _ _).alloc _⟩
  have d3 : decide (524288 < size) = false := by rw [decide_eq_false_iff_not]; omega
  by_cases q4 : l.length ≤ 524288
  rotate_left
  · have d4 : decide ((524288 : Int) < (l.length : Int)) = true := by simp; omega
    have HF : Hid (R = false) := by unfold Hid; rw [← HRR.out, if_neg (fun h => q4 h.2.2.2.2)]
    have HQ := Lib.hid q4
    clear q4
    go_enter Try.func67, Try.ntmps67
    go_wp2
    go_ret
    exact ⟨ret_bool HF.out.symm, (Mods.refl _ _).alloc _⟩
  have d4 : decide ((524288 : Int) < (l.length : Int)) = false := by simp; omega
  rw [if_pos ⟨q0, q1, q2, q3, q4⟩] at HRR
  obtain ⟨N, rfl⟩ := Int.eq_ofNat_of_zero_le q2
  have hN : N ≤ 524288 := by omega
  clear q0 q1
  go_enter Try.func67, Try.ntmps67
  go_wp2_with fail
  have HB0 := Lib.hid (heap_alloc_new w (.cells #[.string x, .string y, .int .i64 N, .slice A l.length c] 56))
  have HM0 : Hid (Mods Nope w (w.alloc (.cells #[.string x, .string y, .int .i64 N, .slice A l.length c] 56))) := (Mods.refl _ _).alloc _
  generalize w.alloc (.cells #[.string x, .string y, .int .i64 N, .slice A l.length c] 56) = w1 at *
  go_loopg [3, 35] l.length (fun gk nv iv wr => ∃ (k m : Nat), k ≤ l.length ∧ gk = l.length - k ∧ nv = .int .i64 m ∧ iv = .int .i64 k ∧ m ≤ N ∧ rgo N (l.drop k) m = R ∧ Mods Nope w1 wr)
  case atStart => exact ⟨0, 0, Nat.zero_le _, rfl, rfl, rfl, Nat.zero_le _, HRR.out, Mods.refl _ _⟩
  case round =>
    clear HRR
    obtain ⟨k, m, hk, hgk, rfl, rfl, hmN, hR, hm⟩ := hrel
    have HM := Lib.hid hm
    have HRD := Lib.hid hR
    have HBX := Lib.hid (hm.row HB0.out (fun h => h))
    clear hm hR
    obtain ⟨_, _, g2, _⟩ := cells4 HBX.out
    by_cases hlt : k < l.length
    · obtain ⟨g, off, e, c0, c1, c2⟩ := stp_at ((HR.out.below HM0.out).below HM.out) hlt
      subst e
      have HX2 : Hid ((if okS l[k] (-1) = true then (if (N : Int) < (m : Int) + (l[k].len + l[k].text.size) then false else rgo N (l.drop (k + 1)) ((m : Int) + (l[k].len + l[k].text.size))) else false) = R) := by
        unfold Hid
        rw [← HRD.out, List.drop_eq_getElem_cons hlt]
        rfl
      have HTX := Lib.hid (HT.out l[k] (List.getElem_mem hlt))
      generalize l[k] = z at *
      clear HRD
      have H101 := Lib.hid (fun wx => f101_calls z (-1) wx HTX.out)
      by_cases hok : okS z (-1) = true
      · rw [if_pos hok] at HX2
        rw [hok] at H101
        obtain ⟨b0, b1, b2, b3, b4⟩ := okS_any hok
        obtain ⟨zp, zn, zt⟩ := z
        dsimp only at *
        obtain ⟨q, rfl⟩ := Int.eq_ofNat_of_zero_le b1
        clear hok b1
        obtain ⟨e1, he1⟩ : ∃ e1, e1 = q + zt.size := ⟨_, rfl⟩
        have hei : (q : Int) + (zt.size : Int) = (e1 : Int) := by omega
        have he1b : e1 ≤ 600000 := by omega
        rw [hei] at HX2
        obtain ⟨m2, hm2⟩ : ∃ m2, m2 = m + e1 := ⟨_, rfl⟩
        have hmi : (m : Int) + (e1 : Int) = (m2 : Int) := by omega
        rw [hmi] at HX2
        have hm2b : m2 ≤ 1200000 := by omega
        clear he1 hm2
        go_wp2_with fail
        refine (H101.out _).mono ?_; rintro e w2 ⟨rfl, h2⟩
        have HROW := Lib.hid (h2.row (heap_alloc_new wr (.cells #[.int .i64 zp, .int .i64 q, .string zt] 117)) (fun h => h))
        have HM2 : Hid (Mods Nope w1 w2) := (HM.out.alloc _).trans h2
        have HBX2 := Lib.hid (HM2.out.row HB0.out (fun h => h))
        clear h2 g2
        obtain ⟨_, _, g2, _⟩ := cells4 HBX2.out
        have t1 : w2.cell? ⟨wr.heap.size, 1, none⟩ = some (.int .i64 q) := by rw [row_cell HROW.out]; rfl
        have t2 : w2.cell? ⟨wr.heap.size, 2, none⟩ = some (.string zt) := by rw [row_cell HROW.out]; rfl
        by_cases hbig : N < m2
        · rw [if_pos (by omega)] at HX2
          have hq : decide ((N : Int) < (m2 : Int)) = true := by simp; omega
          go_wp2
          go_ret
          exact ⟨ret_bool HX2.out, HM0.out.trans HM2.out⟩
        · rw [if_neg (by omega)] at HX2
          have hq : decide ((N : Int) < (m2 : Int)) = false := by simp; omega
          go_wp2_with fail
          go_roundg (l.length - (k + 1))
          case measure => omega
          case rel => exact ⟨k + 1, m2, hlt, rfl, rfl, by go_num, by omega, HX2.out, HM2.out⟩
      · rw [if_neg hok] at HX2
        have hok2 : okS z (-1) = false := by simpa using hok
        rw [hok2] at H101
        obtain ⟨zp, zn, zt⟩ := z
        dsimp only at *
        clear hok hok2
        go_wp2_with fail
        refine (H101.out _).mono ?_; rintro e w2 ⟨rfl, h2⟩
        have HM2 : Hid (Mods Nope w1 w2) := (HM.out.alloc _).trans h2
        clear h2
        go_wp2
        go_ret
        exact ⟨ret_bool HX2.out, HM0.out.trans HM2.out⟩
    · have HE : Hid (decide ((m : Int) = (N : Int)) = R) := by
        unfold Hid
        rw [← HRD.out, List.drop_eq_nil_of_le (by omega)]
        rfl
      have HEB : Hid (((m : Int) == (N : Int)) = R) := by
        unfold Hid
        rw [← HE.out]
        rw [Bool.eq_iff_iff, beq_iff_eq, decide_eq_true_eq]
      go_wp2
      go_ret
      exact ⟨ret_bool HEB.out, HM0.out.trans HM.out⟩
end Go.Proofs.Ytblhbbgkkijkfaa
