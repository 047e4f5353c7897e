/- barqueref06.step, Run, walked. -/
import Derived.Test.YtblhbbgkkijkfaaQ2
namespace Go.Proofs.Ytblhbbgkkijkfaa
open Go.RowKit Go.Maps
theorem okS_any' {x : Stp} (h : okS x (-1) = true) : 0 ≤ x.pos ∧ 0 ≤ x.len ∧ x.len ≤ 524288 ∧ x.pos ≤ 524288 ∧ x.text.size ≤ 4096 := by
  unfold okS at h
  split at h
  · rw [decide_eq_true_eq] at h
    exact ⟨h.2.1, by omega, h.2.2.1, by omega, by omega⟩
  · rw [decide_eq_true_eq] at h
    omega
theorem okS_split (x : Stp) (n : Nat) : okS x (n : Int) = (okS x (-1) && decide (x.pos + x.len ≤ n)) := by
  unfold okS
  split
  · rw [Bool.eq_iff_iff, Bool.and_eq_true, decide_eq_true_eq, decide_eq_true_eq, decide_eq_true_eq]
    constructor
    · rintro ⟨h1, h2, h3, h4, h5⟩
      exact ⟨⟨h1, h2, h3, h4, .inl (by omega)⟩, h5.elim (fun h => by omega) id⟩
    · rintro ⟨⟨h1, h2, h3, h4, _⟩, h6⟩
      exact ⟨h1, h2, h3, h4, .inr h6⟩
  · rw [Bool.eq_iff_iff, Bool.and_eq_true, decide_eq_true_eq, decide_eq_true_eq]
    constructor
    · rintro ⟨h1, h2, h3⟩
      exact ⟨⟨h1, h2, h3⟩, by omega⟩
    · rintro ⟨h, _⟩
      exact h
set_option maxRecDepth 100000 in
set_option maxHeartbeats 4000000 in
theorem f107_calls (x : Stp) (w : World) (hx : x.text.size ≤ maxLen) :
    Calls Try.prog 107 #[.agg #[.int .i64 x.pos, .int .i64 x.len, .string x.text]] w fun e w' => e = .returned (.bool (okS x (-1))) ∧ Mods Nope w w' := by
  obtain ⟨p, n, t⟩ := x
  dsimp only at hx ⊢
  obtain ⟨R, hR⟩ : ∃ R, R = okS ⟨p, n, t⟩ (-1) := ⟨_, rfl⟩
  rw [← hR]
  unfold okS at hR
  dsimp only at hR
  by_cases h0 : t.size = 0
  · rw [if_pos h0] at hR
    have ht := empty_of_size h0
    subst ht
    have he : ((⟨#[]⟩ : ByteArray).toList == (⟨#[]⟩ : ByteArray).toList) = true := str_eq rfl
    have HR := Lib.hid hR
    clear hR h0 hx
    by_cases c1 : 0 < n
    rotate_left
    · have d1 : decide (0 < n) = false := decide_eq_false c1
      have HF : Hid (R = false) := by unfold Hid; rw [HR.out, decide_eq_false (fun h => c1 h.1)]
      go_enter Try.func107, Try.ntmps107
      go_wp2
      all_goals (go_ret; exact ⟨ret_bool HF.out.symm, (Mods.refl _ _).alloc _⟩)
    have d1 : decide (0 < n) = true := decide_eq_true c1
    by_cases c2 : 0 ≤ p
    rotate_left
    · have d2 : decide (0 ≤ p) = false := decide_eq_false c2
      have HF : Hid (R = false) := by unfold Hid; rw [HR.out, decide_eq_false (fun h => c2 h.2.1)]
      go_enter Try.func107, Try.ntmps107
      go_wp2
      all_goals (go_ret; exact ⟨ret_bool HF.out.symm, (Mods.refl _ _).alloc _⟩)
    have d2 : decide (0 ≤ p) = true := decide_eq_true c2
    by_cases c3 : n ≤ 524288
    rotate_left
    · have d3 : decide (n ≤ 524288) = false := decide_eq_false c3
      have HF : Hid (R = false) := by unfold Hid; rw [HR.out, decide_eq_false (fun h => c3 h.2.2.1)]
      go_enter Try.func107, Try.ntmps107
      go_wp2
      all_goals (go_ret; exact ⟨ret_bool HF.out.symm, (Mods.refl _ _).alloc _⟩)
    have d3 : decide (n ≤ 524288) = true := decide_eq_true c3
    by_cases c4 : p ≤ 524288 - n
    rotate_left
    · have d4 : decide (p ≤ 524288 - n) = false := decide_eq_false c4
      have HF : Hid (R = false) := by unfold Hid; rw [HR.out, decide_eq_false (fun h => c4 h.2.2.2.1)]
      go_enter Try.func107, Try.ntmps107
      go_wp2
      all_goals (go_ret; exact ⟨ret_bool HF.out.symm, (Mods.refl _ _).alloc _⟩)
    have d4 : decide (p ≤ 524288 - n) = true := decide_eq_true c4
    have HF : Hid (R = true) := by unfold Hid; rw [HR.out, decide_eq_true ⟨c1, c2, c3, c4, .inl (by omega)⟩]
    go_enter Try.func107, Try.ntmps107
    go_wp2
    all_goals (go_ret; exact ⟨ret_bool HF.out.symm, (Mods.refl _ _).alloc _⟩)
  · rw [if_neg h0] at hR
    have he : t.toList.isEmpty = false := toList_empty h0
    have HR := Lib.hid hR
    have HX := Lib.hid hx
    clear hR h0
    by_cases c1 : p = 0
    rotate_left
    · have d1 : (p == 0) = false := by simpa using c1
      have HF : Hid (R = false) := by unfold Hid; rw [HR.out, decide_eq_false (fun h => c1 h.1)]
      clear c1
      go_enter Try.func107, Try.ntmps107
      go_wp2
      all_goals (go_ret; exact ⟨ret_bool HF.out.symm, (Mods.refl _ _).alloc _⟩)
    have d1 : (p == 0) = true := by simpa using c1
    by_cases c2 : n = 0
    rotate_left
    · have d2 : (n == 0) = false := by simpa using c2
      have HF : Hid (R = false) := by unfold Hid; rw [HR.out, decide_eq_false (fun h => c2 h.2.1)]
      clear c1 c2
      go_enter Try.func107, Try.ntmps107
      go_wp2
      all_goals (go_ret; exact ⟨ret_bool HF.out.symm, (Mods.refl _ _).alloc _⟩)
    have d2 : (n == 0) = true := by simpa using c2
    have HF : Hid (R = decide ((t.size : Int) ≤ 4096)) := by
      unfold Hid
      rw [HR.out]
      apply decide_eq_decide.2
      exact ⟨fun h => by have := h.2.2; omega, fun h => ⟨c1, c2, by omega⟩⟩
    clear c1 c2
    go_enter Try.func107, Try.ntmps107
    go_wp2
    go_ret
    exact ⟨ret_bool (by rw [HF.out]), (Mods.refl _ _).alloc _⟩
set_option maxRecDepth 100000 in
set_option maxHeartbeats 4000000 in
theorem f65_calls (basis : ByteArray) (A : Option Addr) (n c : Nat) (l : List Stp) (w : World) (hn : l.length = n) (h : Rd w A (stps l)) (ht : ∀ x ∈ l, x.text.size ≤ maxLen) (hl : l.length ≤ 1000000000) (hbs : basis.size ≤ 524288) :
    Calls Try.prog 65 #[.string basis, .slice A n c] w fun e w' => e = .returned (.tuple #[.string ⟨(runP basis l).1.toArray⟩, .int .i64 (runP basis l).2]) ∧ Mods Nope w w' := by
  subst hn
  have HR := Lib.hid h
  have HT := Lib.hid ht
  obtain ⟨R, hRR⟩ : ∃ R, R = runP basis l := ⟨_, rfl⟩
  have HRR := Lib.hid hRR.symm
  rw [← hRR]
  unfold runP at HRR
  clear h ht hRR
  go_enter Try.func65, Try.ntmps65
  go_wp2_with fail
  go_loopg [6, 7] l.length (fun gk ov iv wr => ∃ (k : Nat) (o : ByteArray), k ≤ l.length ∧ gk = l.length - k ∧ ov = .string o ∧ iv = .int .i64 k ∧ o.size ≤ 524288 ∧ runGo basis (l.drop k) o.data.toList = R ∧ Mods Nope w wr)
  case atStart => exact ⟨0, ⟨#[]⟩, Nat.zero_le _, rfl, rfl, rfl, by decide, HRR.out, Mods.refl _ _⟩
  case round =>
    clear HRR
    obtain ⟨k, o, hk, hgk, rfl, rfl, hac, hR, hm⟩ := hrel
    have HM := Lib.hid hm
    have HRD := Lib.hid hR
    have hol : o.data.toList.length = o.size := by rw [Array.length_toList]; rfl
    clear hm hR
    by_cases hlt : k < l.length
    · obtain ⟨g, off, e, c0, c1, c2⟩ := stp_at (HR.out.below HM.out) hlt
      subst e
      have HX : Hid ((if okS l[k] basis.size = true then (if 524288 < o.data.toList.length + (l[k].len.toNat + l[k].text.size) then ([], 4) else runGo basis (l.drop (k + 1)) (o.data.toList ++ (basis.extract l[k].pos.toNat (l[k].pos.toNat + l[k].len.toNat)).data.toList ++ l[k].text.data.toList)) else ([], 2)) = R) := by
        unfold Hid
        rw [← HRD.out, List.drop_eq_getElem_cons hlt]
        rfl
      rw [hol] at HX
      have HTX := Lib.hid (HT.out l[k] (List.getElem_mem hlt))
      generalize l[k] = x at *
      clear HRD
      have H107 := Lib.hid (fun wx => f107_calls x wx HTX.out)
      have HSP := Lib.hid (okS_split x basis.size)
      by_cases hok : okS x (-1) = true
      · rw [hok] at H107
        obtain ⟨b0, b1, b2, b3, b4⟩ := okS_any' hok
        rw [HSP.out, hok, Bool.true_and] at HX
        obtain ⟨xp, xn, xt⟩ := x
        dsimp only at *
        obtain ⟨p, rfl⟩ := Int.eq_ofNat_of_zero_le b0
        obtain ⟨q, rfl⟩ := Int.eq_ofNat_of_zero_le b1
        simp only [Int.toNat_natCast] at HX
        obtain ⟨pe, hpe⟩ : ∃ pe, pe = p + q := ⟨_, rfl⟩
        have hpi : (p : Int) + (q : Int) = (pe : Int) := by omega
        have hpeb : pe ≤ 1048576 := by omega
        have hpp : p ≤ pe := by omega
        rw [hpi, ← hpe] at HX
        have HPE := Lib.hid hpe
        clear hok hpe b0 b1
        go_wp2_with fail
        refine (H107.out _).mono ?_; rintro e w2 ⟨rfl, h2⟩
        have HROW := Lib.hid (h2.row (heap_alloc_new wr (.cells #[.int .i64 p, .int .i64 q, .string xt] 117)) (fun h => h))
        have HM2 : Hid (Mods Nope w w2) := (HM.out.alloc _).trans h2
        clear h2
        have t0 : w2.cell? ⟨wr.heap.size, 0, none⟩ = some (.int .i64 p) := by rw [row_cell HROW.out]; rfl
        have t1 : w2.cell? ⟨wr.heap.size, 1, none⟩ = some (.int .i64 q) := by rw [row_cell HROW.out]; rfl
        have t2 : w2.cell? ⟨wr.heap.size, 2, none⟩ = some (.string xt) := by rw [row_cell HROW.out]; rfl
        by_cases hin : pe ≤ basis.size
        · rw [if_pos (by rw [decide_eq_true_eq]; omega)] at HX
          have hq : decide ((basis.size : Int) < (pe : Int)) = false := by simp; omega
          have hxz : (basis.extract p pe).size = q := by rw [ByteArray.size_extract]; have := HPE.out; omega
          have HXZ := Lib.hid hxz
          go_upto_region 8 with fail
          have hb1 : (o ++ basis.extract p pe).size ≤ 1048576 := by rw [ByteArray.size_append, hxz]; omega
          have hb2 : (o ++ basis.extract p pe ++ xt).size ≤ 1100000 := by rw [ByteArray.size_append, ByteArray.size_append, hxz]; omega
          have HOZ : Hid ((o ++ basis.extract p pe ++ xt).size = o.size + (q + xt.size)) := by unfold Hid; rw [ByteArray.size_append, ByteArray.size_append, hxz]; omega
          have HOL : Hid ((o ++ basis.extract p pe ++ xt).data.toList = o.data.toList ++ (basis.extract p pe).data.toList ++ xt.data.toList) := by unfold Hid; simp
          clear hxz
          go_quiet (fail)
          have HM3 : Hid (Mods Nope w (w2.drewN nq)) := HM2.out.drewN _
          rw [← HOL.out] at HX
          have HSZ := HOZ.out
          clear t0 t1 t2 HM2 HROW HOL HOZ hb1
          generalize w2.drewN nq = w3 at *
          generalize o ++ basis.extract p pe ++ xt = o2 at *
          by_cases hbig : 524288 < o2.size
          · have hd : decide ((524288 : Int) < (o2.size : Int)) = true := by simp; omega
            have hd2 : decide (524288 < o2.size) = true := by simp; omega
            rw [if_pos (by omega)] at HX
            go_wp2
            go_ret2
            rw [← HX.out]
            exact ⟨rfl, HM3.out⟩
          · have hd : decide ((524288 : Int) < (o2.size : Int)) = false := by simp; omega
            have hd2 : decide (524288 < o2.size) = false := by simp; omega
            rw [if_neg (by omega)] at HX
            go_wp2_with fail
            go_roundg (l.length - (k + 1))
            case measure => omega
            case rel => exact ⟨k + 1, o2, hlt, rfl, rfl, by go_num, by omega, HX.out, HM3.out⟩
        · rw [if_neg (by rw [decide_eq_true_eq]; omega)] at HX
          have hq : decide ((basis.size : Int) < (pe : Int)) = true := by simp; omega
          go_wp2
          go_ret2
          rw [← HX.out]
          exact ⟨rfl, HM2.out⟩
      · have hok2 : okS x (-1) = false := by simpa using hok
        rw [hok2] at H107
        rw [HSP.out, hok2, Bool.false_and, if_neg (by simp)] at HX
        obtain ⟨xp, xn, xt⟩ := x
        dsimp only at *
        clear hok hok2 HSP
        go_wp2_with fail
        refine (H107.out _).mono ?_; rintro e w2 ⟨rfl, h2⟩
        have HM2 : Hid (Mods Nope w w2) := (HM.out.alloc _).trans h2
        clear h2
        go_wp2
        go_ret2
        rw [← HX.out]
        exact ⟨rfl, HM2.out⟩
    · have HE : Hid ((o.data.toList, (0 : Int)) = R) := by
        unfold Hid
        rw [← HRD.out, List.drop_eq_nil_of_le (by omega)]
        rfl
      go_wp2
      go_ret2
      rw [← HE.out]
      exact ⟨by simp, HM.out⟩
end Go.Proofs.Ytblhbbgkkijkfaa
