/- delta.right, Builder.Len, String of an empty builder, walked. delta.Run, walked. delta.Right, walked. delta.Apply, walked. -/
import Derived.Test.YtblhbbgkkijkfaaK5
import Derived.Test.YtblhbbgkkijkfaaBL
import Derived.Test.YtblhbbgkkijkfaaKA
import Derived.Test.YtblhbbgkkijkfaaSB
namespace Go.Proofs.Ytblhbbgkkijkfaa
open Go.RowKit Go.Maps
/-- May a step be, for a basis so long (below 0: of any)? -/
def okS (x : Stp) (basis : Int) : Bool :=
  if x.text.size = 0 then decide (0 < x.len ∧ 0 ≤ x.pos ∧ x.len ≤ 524288 ∧ x.pos ≤ 524288 - x.len ∧ (basis < 0 ∨ x.pos + x.len ≤ basis))
  else decide (x.pos = 0 ∧ x.len = 0 ∧ x.text.size ≤ 4096)
theorem toList_empty {t : ByteArray} (h : t.size ≠ 0) : t.toList.isEmpty = false := by
  cases hq : t.toList.isEmpty
  · rfl
  · exfalso
    have h1 := List.isEmpty_iff.1 hq
    have h2 : (t.toList == (⟨#[]⟩ : ByteArray).toList) = false := str_ne (fun e => h (by rw [e]; rfl))
    have h3 : (⟨#[]⟩ : ByteArray).toList = [] := by kernel_rfl
    rw [h1, h3] at h2
    simp at h2
theorem empty_of_size {t : ByteArray} (h : t.size = 0) : t = ⟨#[]⟩ := ByteArray.ext (Array.eq_empty_of_size_eq_zero h)
set_option maxRecDepth 100000 in
set_option maxHeartbeats 4000000 in
theorem f101_calls (x : Stp) (basis : Int) (w : World) (hx : x.text.size ≤ maxLen) :
    Calls Try.prog 101 #[.agg #[.int .i64 x.pos, .int .i64 x.len, .string x.text], .int .i64 basis] w fun e w' => e = .returned (.bool (okS x basis)) ∧ Mods Nope w w' := by
  obtain ⟨p, n, t⟩ := x
  dsimp only at hx ⊢
  obtain ⟨R, hR⟩ : ∃ R, R = okS ⟨p, n, t⟩ basis := ⟨_, rfl⟩
  rw [← hR]
  unfold okS at hR
  dsimp only at hR
  by_cases h0 : t.size = 0
  · rw [if_pos h0] at hR
    have ht := empty_of_size h0
    subst ht
    have he : ((⟨#[]⟩ : ByteArray).toList == (⟨#[]⟩ : ByteArray).toList) = true := str_eq rfl
    have HR := Lib.hid hR
    clear hR h0 hx
    by_cases c1 : 0 < n
    rotate_left
    · have d1 : decide (0 < n) = false := decide_eq_false c1
      have HF : Hid (R = false) := by unfold Hid; rw [HR.out, decide_eq_false (fun h => c1 h.1)]
      go_enter Try.func101, Try.ntmps101
      go_wp2
      go_ret
      exact ⟨ret_bool HF.out.symm, (Mods.refl _ _).alloc _⟩
    have d1 : decide (0 < n) = true := decide_eq_true c1
    by_cases c2 : 0 ≤ p
    rotate_left
    · have d2 : decide (0 ≤ p) = false := decide_eq_false c2
      have HF : Hid (R = false) := by unfold Hid; rw [HR.out, decide_eq_false (fun h => c2 h.2.1)]
      go_enter Try.func101, Try.ntmps101
      go_wp2
      go_ret
      exact ⟨ret_bool HF.out.symm, (Mods.refl _ _).alloc _⟩
    have d2 : decide (0 ≤ p) = true := decide_eq_true c2
    by_cases c3 : n ≤ 524288
    rotate_left
    · have d3 : decide (n ≤ 524288) = false := decide_eq_false c3
      have HF : Hid (R = false) := by unfold Hid; rw [HR.out, decide_eq_false (fun h => c3 h.2.2.1)]
      go_enter Try.func101, Try.ntmps101
      go_wp2
      go_ret
      exact ⟨ret_bool HF.out.symm, (Mods.refl _ _).alloc _⟩
    have d3 : decide (n ≤ 524288) = true := decide_eq_true c3
    by_cases c4 : p ≤ 524288 - n
    rotate_left
    · have d4 : decide (p ≤ 524288 - n) = false := decide_eq_false c4
      have HF : Hid (R = false) := by unfold Hid; rw [HR.out, decide_eq_false (fun h => c4 h.2.2.2.1)]
      go_enter Try.func101, Try.ntmps101
      go_wp2
      go_ret
      exact ⟨ret_bool HF.out.symm, (Mods.refl _ _).alloc _⟩
    have d4 : decide (p ≤ 524288 - n) = true := decide_eq_true c4
    by_cases c5 : basis < 0
    · have d5 : decide (basis < 0) = true := decide_eq_true c5
      have HF : Hid (R = true) := by unfold Hid; rw [HR.out, decide_eq_true ⟨c1, c2, c3, c4, .inl c5⟩]
      go_enter Try.func101, Try.ntmps101
      go_wp2
      go_ret
      exact ⟨ret_bool HF.out.symm, (Mods.refl _ _).alloc _⟩
    have d5 : decide (basis < 0) = false := decide_eq_false c5
    by_cases c6 : p + n ≤ basis
    · have d6 : decide (p + n ≤ basis) = true := decide_eq_true c6
      have HF : Hid (R = true) := by unfold Hid; rw [HR.out, decide_eq_true ⟨c1, c2, c3, c4, .inr c6⟩]
      go_enter Try.func101, Try.ntmps101
      go_wp2
      go_ret
      exact ⟨ret_bool HF.out.symm, (Mods.refl _ _).alloc _⟩
    · have d6 : decide (p + n ≤ basis) = false := decide_eq_false c6
      have HF : Hid (R = false) := by unfold Hid; rw [HR.out, decide_eq_false (fun h => h.2.2.2.2.elim c5 c6)]
      go_enter Try.func101, Try.ntmps101
      go_wp2
      go_ret
      exact ⟨ret_bool HF.out.symm, (Mods.refl _ _).alloc _⟩
  · rw [if_neg h0] at hR
    have he : t.toList.isEmpty = false := toList_empty h0
    have HR := Lib.hid hR
    have HX := Lib.hid hx
    clear hR h0
    by_cases c1 : p = 0
    rotate_left
    · have d1 : (p == 0) = false := by simpa using c1
      have HF : Hid (R = false) := by unfold Hid; rw [HR.out, decide_eq_false (fun h => c1 h.1)]
      clear c1
      go_enter Try.func101, Try.ntmps101
      go_wp2
      go_ret
      exact ⟨ret_bool HF.out.symm, (Mods.refl _ _).alloc _⟩
    have d1 : (p == 0) = true := by simpa using c1
    by_cases c2 : n = 0
    rotate_left
    · have d2 : (n == 0) = false := by simpa using c2
      have HF : Hid (R = false) := by unfold Hid; rw [HR.out, decide_eq_false (fun h => c2 h.2.1)]
      clear c1 c2
      go_enter Try.func101, Try.ntmps101
      go_wp2
      go_ret
      exact ⟨ret_bool HF.out.symm, (Mods.refl _ _).alloc _⟩
    have d2 : (n == 0) = true := by simpa using c2
    have HF : Hid (R = decide ((t.size : Int) ≤ 4096)) := by
      unfold Hid
      rw [HR.out]
      apply decide_eq_decide.2
      exact ⟨fun h => by have := h.2.2; omega, fun h => ⟨c1, c2, by omega⟩⟩
    clear c1 c2
    go_enter Try.func101, Try.ntmps101
    go_wp2
    go_ret
    exact ⟨ret_bool (by rw [HF.out]), (Mods.refl _ _).alloc _⟩
set_option maxRecDepth 100000 in
theorem f106_calls (B b : Nat) (v : Value) (bs : List Value) (w : World) (h : Bld w B b v bs) :
    Calls Try.prog 106 #[.pointer (some ⟨b, 0, none⟩)] w fun e w' => e = .returned (.int .i64 bs.length) ∧ w' = w := by
  obtain ⟨p, _, hr⟩ := h.row
  obtain ⟨A, c, rfl, _, _, _, _⟩ := Rd.of_owns h.own
  have c1 : w.cell? ⟨b, 1, none⟩ = some (.slice A bs.length c) := by rw [row_cell hr]; rfl
  clear h hr
  go_enter Try.func106, Try.ntmps106
  go_wp2
  go_ret
  exact ⟨rfl, rfl⟩
end Go.Proofs.Ytblhbbgkkijkfaa
namespace Go.Proofs.Ytblhbbgkkijkfaa
open Go.RowKit Go.Maps
/-- What steps make of a basis. -/
def runGo (basis : ByteArray) : List Stp → List UInt8 → List UInt8 × Int
  | [], acc => (acc, 0)
  | x :: l, acc =>
    if okS x basis.size = true then
      (if 524288 < acc.length + (x.len.toNat + x.text.size) then ([], 4)
       else runGo basis l (acc ++ (basis.extract x.pos.toNat (x.pos.toNat + x.len.toNat)).data.toList ++ x.text.data.toList))
    else ([], 2)
def runP (basis : ByteArray) (l : List Stp) : List UInt8 × Int := runGo basis l []
theorem okS_bounds {x : Stp} {n : Nat} (h : okS x (n : Int) = true) : 0 ≤ x.pos ∧ 0 ≤ x.len ∧ x.len ≤ 524288 ∧ x.pos + x.len ≤ n ∧ x.text.size ≤ 4096 := by
  unfold okS at h
  split at h
  · rw [decide_eq_true_eq] at h
    refine ⟨h.2.1, by omega, h.2.2.1, ?_, by omega⟩
    rcases h.2.2.2.2 with h1 | h1 <;> omega
  · rw [decide_eq_true_eq] at h
    omega
theorem okS_pos {x : Stp} {n : Nat} (h : okS x (n : Int) = true) : 0 < x.len + x.text.size := by
  unfold okS at h
  split at h
  · rw [decide_eq_true_eq] at h
    omega
  · rw [decide_eq_true_eq] at h
    omega
set_option maxHeartbeats 1000000 in
set_option maxRecDepth 100000 in
theorem f85_nil (B b : Nat) (w : World) (h : Bld w B b (.slice none 0 0) []) :
    Calls Try.prog 85 #[.pointer (some ⟨b, 0, none⟩)] w fun e w' => e = .returned (.string ⟨#[]⟩) ∧ Mods Nope w w' := by
  obtain ⟨p, hp, hbk⟩ := h.row
  have c1 : w.cell? ⟨b, 1, none⟩ = some (.slice none 0 0) := by rw [row_cell hbk]; rfl
  have hSD : (Builtin.unsafeSliceData_ #[89] 147 #[.slice none 0 0]).run Try.prog w.drew = .ok (.pointer none) w.drew := rfl
  have hUS : (Builtin.unsafeString_ #[147, 3] 9 #[.pointer none, .int .i64 0]).run Try.prog w.drew = .ok (.string ⟨#[]⟩) w.drew := rfl
  go_enter Try.func85, Try.ntmps85
  go_wp2
  go_region
  all_goals (go_wp2; go_ret; exact ⟨rfl, (Mods.refl _ _).drew⟩)
set_option maxRecDepth 100000 in
set_option maxHeartbeats 4000000 in
theorem f64_calls (basis : ByteArray) (A : Option Addr) (n c : Nat) (l : List Stp) (w : World) (hn : l.length = n) (h : Rd w A (stps l)) (ht : ∀ x ∈ l, x.text.size ≤ maxLen) (hl : l.length ≤ 1000000000) (hbs : basis.size ≤ 524288) :
    Calls Try.prog 64 #[.string basis, .slice A n c] w fun e w' => e = .returned (.tuple #[.string ⟨(runP basis l).1.toArray⟩, .int .i64 (runP basis l).2]) ∧ Mods Nope w w' := by
  subst hn
  have HR := Lib.hid h
  have HT := Lib.hid ht
  obtain ⟨R, hRR⟩ : ∃ R, R = runP basis l := ⟨_, rfl⟩
  have HRR := Lib.hid hRR.symm
  rw [← hRR]
  unfold runP at HRR
  clear h ht hRR
  go_enter Try.func64, Try.ntmps64
  go_wp2_with fail
  go_loopg [11] l.length (fun gk iv wr => ∃ (k : Nat) (v : Value) (acc : List UInt8), k ≤ l.length ∧ gk = l.length - k ∧ iv = .int .i64 k ∧ Bld wr w.heap.size w.heap.size v (Lib.byteCells acc) ∧ acc.length ≤ 524288 ∧ runGo basis (l.drop k) acc = R ∧ Mods Nope w wr ∧ (acc = [] → v = .slice none 0 0))
  case atStart => exact ⟨0, .slice none 0 0, [], Nat.zero_le _, rfl, rfl, ⟨Nat.le_refl _, ⟨_, .inl rfl, heap_alloc_new w _⟩, World.ownsRow_nil _ _ _ _⟩, by simp, HRR.out, (Mods.refl _ _).alloc _, fun _ => rfl⟩
  case round =>
    clear HRR
    obtain ⟨k, v, acc, hk, hgk, rfl, hB, hac, hR, hm, hnil⟩ := hrel
    have HNIL := Lib.hid hnil
    have HB := Lib.hid hB
    have HM := Lib.hid hm
    have HRD := Lib.hid hR
    clear hB hm hR hnil
    by_cases hlt : k < l.length
    · obtain ⟨g, off, e, c0, c1, c2⟩ := stp_at (HR.out.below HM.out) hlt
      subst e
      have HX : Hid ((if okS l[k] basis.size = true then (if 524288 < acc.length + (l[k].len.toNat + l[k].text.size) then ([], 4) else runGo basis (l.drop (k + 1)) (acc ++ (basis.extract l[k].pos.toNat (l[k].pos.toNat + l[k].len.toNat)).data.toList ++ l[k].text.data.toList)) else ([], 2)) = R) := by
        unfold Hid
        rw [← HRD.out, List.drop_eq_getElem_cons hlt]
        rfl
      have HTX := Lib.hid (HT.out l[k] (List.getElem_mem hlt))
      generalize l[k] = x at *
      clear HRD
      have H101 := Lib.hid (fun wx => f101_calls x basis.size wx HTX.out)
      by_cases hok : okS x basis.size = true
      · rw [if_pos hok] at HX
        rw [hok] at H101
        obtain ⟨b0, b1, b2, b3, b4⟩ := okS_bounds hok
        have HNE0 := okS_pos hok
        obtain ⟨xp, xn, xt⟩ := x
        dsimp only at *
        obtain ⟨p, rfl⟩ := Int.eq_ofNat_of_zero_le b0
        obtain ⟨q, rfl⟩ := Int.eq_ofNat_of_zero_le b1
        simp only [Int.toNat_natCast] at HX
        have HNE : Hid (0 < q + xt.size) := by unfold Hid; omega
        clear hok HNE0
        go_wp2_with fail
        refine (H101.out _).mono ?_; rintro e w2 ⟨rfl, h2⟩
        have HROW := Lib.hid (h2.row (heap_alloc_new wr (.cells #[.int .i64 p, .int .i64 q, .string xt] 117)) (fun h => h))
        have HM2 : Hid (Mods Nope w w2) := (HM.out.alloc _).trans h2
        have HB2 := Lib.hid ((HB.out.nope ((Mods.refl _ _).alloc _)).nope h2)
        clear h2
        have t0 : w2.cell? ⟨wr.heap.size, 0, none⟩ = some (.int .i64 p) := by rw [row_cell HROW.out]; rfl
        have t1 : w2.cell? ⟨wr.heap.size, 1, none⟩ = some (.int .i64 q) := by rw [row_cell HROW.out]; rfl
        have t2 : w2.cell? ⟨wr.heap.size, 2, none⟩ = some (.string xt) := by rw [row_cell HROW.out]; rfl
        obtain ⟨e1, he1⟩ : ∃ e1, e1 = q + xt.size := ⟨_, rfl⟩
        have hei : (q : Int) + (xt.size : Int) = (e1 : Int) := by omega
        have he1b : e1 ≤ 600000 := by omega
        obtain ⟨d, hd⟩ : ∃ d, d = 524288 - acc.length := ⟨_, rfl⟩
        have hdi : (524288 : Int) - (acc.length : Int) = (d : Int) := by omega
        have hdb : d ≤ 524288 := by omega
        have hiff : (524288 < acc.length + (q + xt.size)) ↔ d < e1 := by omega
        have HI := Lib.hid hiff
        have H106 := Lib.hid (fun wx (h : Bld wx w.heap.size w.heap.size v (Lib.byteCells acc)) => by have h1 := f106_calls _ _ _ _ _ h; rwa [Lib.byteCells_length] at h1)
        clear he1 hd hiff
        by_cases hbig : d < e1
        · rw [if_pos (HI.out.2 hbig)] at HX
          have hq : decide ((d : Int) < (e1 : Int)) = true := by simp; omega
          have hq2 : decide (d < e1) = true := by simp; omega
          go_upto_region 7 with fail
          go_quiet ((go_at_call 106; exact Calls.quiet_of_same (H106.out _ (HB2.out.nope (by repeat (with_reducible first | exact Mods.refl _ _ | apply Mods.drew | apply Mods.drewN))))))
          go_wp2
          go_ret2
          rw [← HX.out]
          exact ⟨rfl, HM2.out.drewN _⟩
        · rw [if_neg (fun h => hbig (HI.out.1 h))] at HX
          have hq : decide ((d : Int) < (e1 : Int)) = false := by simp; omega
          have hq2 : decide (d < e1) = false := by simp; omega
          have HACC := Lib.hid (HI.out)
          go_upto_region 7 with fail
          go_quiet ((go_at_call 106; exact Calls.quiet_of_same (H106.out _ (HB2.out.nope (by repeat (with_reducible first | exact Mods.refl _ _ | apply Mods.drew | apply Mods.drewN))))))
          have HNQ : Hid (Mods Nope w2 (w2.drewN nq)) := (Mods.refl _ _).drewN _
          have HB3 := Lib.hid (HB2.out.nope HNQ.out)
          have HM3 := Lib.hid (HM2.out.trans HNQ.out)
          have HROW3 := Lib.hid (HNQ.out.row HROW.out (fun h => h))
          clear t0 t1 t2 HNQ HB2 HM2 HROW
          generalize w2.drewN nq = w3 at *
          have t0 : w3.cell? ⟨wr.heap.size, 0, none⟩ = some (.int .i64 p) := by rw [row_cell HROW3.out]; rfl
          have t1 : w3.cell? ⟨wr.heap.size, 1, none⟩ = some (.int .i64 q) := by rw [row_cell HROW3.out]; rfl
          have t2 : w3.cell? ⟨wr.heap.size, 2, none⟩ = some (.string xt) := by rw [row_cell HROW3.out]; rfl
          obtain ⟨pe, hpe⟩ : ∃ pe, pe = p + q := ⟨_, rfl⟩
          have hpi : (p : Int) + (q : Int) = (pe : Int) := by omega
          have hpb : pe ≤ basis.size := by omega
          have hpp : p ≤ pe := by omega
          rw [← hpe] at HX
          have hxz : (basis.extract p pe).size = q := by rw [ByteArray.size_extract]; omega
          have HXZ := Lib.hid hxz
          have HPE := Lib.hid hpe
          clear hpe hxz
          have hB3w := HM3.out.size
          have HL3 := Lib.hid HB3.out.lt
          go_wp2_with fail
          refine (f84_calls w.heap.size w.heap.size v acc (basis.extract p pe) _ HB3.out (by rw [HXZ.out]; omega) hB3w).mono ?_; rintro e w4 ⟨v4, rfl, hB4, hm4⟩
          have HB4 := Lib.hid hB4
          have HROW4 := Lib.hid (hm4.row HROW3.out (fun e => e.elim (fun e => by have := HB.out.lt; omega) (fun e => own_ne_row HB3.out.own HROW3.out (by decide) _ e rfl)))
          have HM4 : Hid (Mods Nope w w4) := HM3.out.then hm4 (fun i hi e => e.elim (fun e => by omega) (fun e => by have := (HB3.out.own.lt i e).1; omega))
          clear hB4 hm4 t0 t1 t2 HROW3
          have t2 : w4.cell? ⟨wr.heap.size, 2, none⟩ = some (.string xt) := by rw [row_cell HROW4.out]; rfl
          have hB4w := HM4.out.size
          have HLEN : Hid ((acc ++ (basis.extract p pe).data.toList).length = acc.length + q) := by
            unfold Hid
            rw [List.length_append, ← HXZ.out]
            rfl
          go_wp2_with fail
          refine (f84_calls w.heap.size w.heap.size v4 (acc ++ (basis.extract p pe).data.toList) xt _ HB4.out (by rw [HLEN.out]; omega) hB4w).mono ?_; rintro e w5 ⟨v5, rfl, hB5, hm5⟩
          have HB5 := Lib.hid hB5
          have HM5 : Hid (Mods Nope w w5) := HM4.out.then hm5 (fun i hi e => e.elim (fun e => by omega) (fun e => by have := (HB4.out.own.lt i e).1; omega))
          clear hB5 hm5 t2
          have HLEN2 : Hid ((acc ++ (basis.extract p pe).data.toList ++ xt.data.toList).length = acc.length + q + xt.size) := by
            unfold Hid
            rw [List.length_append, HLEN.out]
            rfl
          go_wp2_with fail
          go_roundg (l.length - (k + 1))
          case measure => omega
          case rel => exact ⟨k + 1, v5, _, hlt, rfl, by go_num, HB5.out, by rw [HLEN2.out]; have := HI.out; omega, HX.out, HM5.out, fun e => by
            exfalso
            have h0 := HLEN2.out
            rw [e] at h0
            have h1 := HNE.out
            simp at h0
            omega⟩
      · rw [if_neg hok] at HX
        have hok2 : okS x basis.size = false := by simpa using hok
        rw [hok2] at H101
        obtain ⟨xp, xn, xt⟩ := x
        dsimp only at *
        clear hok hok2
        go_wp2_with fail
        refine (H101.out _).mono ?_; rintro e w2 ⟨rfl, h2⟩
        have HM2 : Hid (Mods Nope w w2) := (HM.out.alloc _).trans h2
        clear h2
        go_wp2
        go_ret2
        rw [← HX.out]
        exact ⟨rfl, HM2.out⟩
    · have HE : Hid ((acc, (0 : Int)) = R) := by
        unfold Hid
        rw [← HRD.out, List.drop_eq_nil_of_le (by omega)]
        rfl
      by_cases hz : acc = []
      · have hv := HNIL.out hz
        subst hz
        subst hv
        go_wp2_with fail
        refine (f85_nil _ _ _ HB.out).mono ?_; rintro e w2 ⟨rfl, h2⟩
        have HM2 := Lib.hid (HM.out.trans h2)
        clear h2
        go_wp2
        go_ret2
        rw [← HE.out]
        exact ⟨rfl, HM2.out⟩
      · have HZ := Lib.hid hz
        clear hz
        go_wp2_with fail
        refine (f85_calls _ _ _ _ _ HB.out HZ.out).mono ?_; rintro e w2 ⟨rfl, h2⟩
        have HM2 : Hid (Mods Nope w w2) := HM.out.then (Mods.of_below_at h2) (fun i hi e => absurd hi (Nat.not_lt.2 e))
        clear h2
        go_wp2
        go_ret2
        rw [← HE.out]
        exact ⟨rfl, HM2.out⟩
end Go.Proofs.Ytblhbbgkkijkfaa
namespace Go.Proofs.Ytblhbbgkkijkfaa
open Go.RowKit Go.Maps
/-- Do steps make so many bytes? -/
def rgo (size : Int) : List Stp → Int → Bool
  | [], n => decide (n = size)
  | x :: l, n => if okS x (-1) = true then (if size < n + (x.len + x.text.size) then false else rgo size l (n + (x.len + x.text.size))) else false
/-- May a delta be? -/
def rightP (x y : ByteArray) (size : Int) (l : List Stp) : Bool := if x.size = 32 ∧ y.size = 32 ∧ 0 ≤ size ∧ size ≤ 524288 ∧ l.length ≤ 524288 then rgo size l 0 else false
theorem okS_any {x : Stp} (h : okS x (-1) = true) : 0 ≤ x.pos ∧ 0 ≤ x.len ∧ x.len ≤ 524288 ∧ x.pos ≤ 524288 ∧ x.text.size ≤ 4096 := by
  unfold okS at h
  split at h
  · rw [decide_eq_true_eq] at h
    exact ⟨h.2.1, by omega, h.2.2.1, by omega, by omega⟩
  · rw [decide_eq_true_eq] at h
    omega
set_option maxRecDepth 100000 in
set_option maxHeartbeats 4000000 in
theorem f67_calls (x y : ByteArray) (size : Int) (A : Option Addr) (n c : Nat) (l : List Stp) (w : World) (hn : l.length = n) (h : Rd w A (stps l)) (ht : ∀ x ∈ l, x.text.size ≤ maxLen) (hl : l.length ≤ maxLen) (hx : x.size ≤ maxLen) (hy : y.size ≤ maxLen) :
    Calls Try.prog 67 #[dltV x y size (.slice A n c)] w fun e w' => e = .returned (.bool (rightP x y size l)) ∧ Mods Nope w w' := by
  subst hn
  unfold dltV
  have HR := Lib.hid h
  have HT := Lib.hid ht
  have HX := Lib.hid hx
  have HY := Lib.hid hy
  have HL := Lib.hid hl
  obtain ⟨R, hRR⟩ : ∃ R, R = rightP x y size l := ⟨_, rfl⟩
  have HRR := Lib.hid hRR.symm
  rw [← hRR]
  unfold rightP at HRR
  clear h ht hx hy hl hRR
  by_cases q0 : x.size = 32
  rotate_left
  · have d0 : ((x.size : Int) != 32) = true := by simp; omega
    have HF : Hid (R = false) := by unfold Hid; rw [← HRR.out, if_neg (fun h => q0 h.1)]
    have HQ := Lib.hid q0
    clear q0
    go_enter Try.func67, Try.ntmps67
    go_wp2
    go_ret
    exact ⟨ret_bool HF.out.symm, (Mods.refl _ _).alloc _⟩
  have d0 : ((x.size : Int) != 32) = false := by simp; omega
  by_cases q1 : y.size = 32
  rotate_left
  · have d1 : ((y.size : Int) != 32) = true := by simp; omega
    have HF : Hid (R = false) := by unfold Hid; rw [← HRR.out, if_neg (fun h => q1 h.2.1)]
    have HQ := Lib.hid q1
    clear q1
    go_enter Try.func67, Try.ntmps67
    go_wp2
    go_ret
    exact ⟨ret_bool HF.out.symm, (Mods.refl _ _).alloc _⟩
  have d1 : ((y.size : Int) != 32) = false := by simp; omega
  by_cases q2 : 0 ≤ size
  rotate_left
  · have d2 : decide (size < 0) = true := by rw [decide_eq_true_eq]; omega
    have HF : Hid (R = false) := by unfold Hid; rw [← HRR.out, if_neg (fun h => q2 h.2.2.1)]
    have HQ := Lib.hid q2
    clear q2
    go_enter Try.func67, Try.ntmps67
    go_wp2
    go_ret
    exact ⟨ret_bool HF.out.symm, (Mods.refl _ _).alloc _⟩
  have d2 : decide (size < 0) = false := by rw [decide_eq_false_iff_not]; omega
  by_cases q3 : size ≤ 524288
  rotate_left
  · have d3 : decide (524288 < size) = true := by rw [decide_eq_true_eq]; omega
    have HF : Hid (R = false) := by unfold Hid; rw [← HRR.out, if_neg (fun h => q3 h.2.2.2.1)]
    have HQ := Lib.hid q3
    clear q3
    go_enter Try.func67, Try.ntmps67
    go_wp2
    go_ret
    exact ⟨ret_bool HF.out.symm, (Mods.refl _ _).alloc _⟩
  have d3 : decide (524288 < size) = false := by rw [decide_eq_false_iff_not]; omega
  by_cases q4 : l.length ≤ 524288
  rotate_left
  · have d4 : decide ((524288 : Int) < (l.length : Int)) = true := by simp; omega
    have HF : Hid (R = false) := by unfold Hid; rw [← HRR.out, if_neg (fun h => q4 h.2.2.2.2)]
    have HQ := Lib.hid q4
    clear q4
    go_enter Try.func67, Try.ntmps67
    go_wp2
    go_ret
    exact ⟨ret_bool HF.out.symm, (Mods.refl _ _).alloc _⟩
  have d4 : decide ((524288 : Int) < (l.length : Int)) = false := by simp; omega
  rw [if_pos ⟨q0, q1, q2, q3, q4⟩] at HRR
  obtain ⟨N, rfl⟩ := Int.eq_ofNat_of_zero_le q2
  have hN : N ≤ 524288 := by omega
  clear q0 q1
  go_enter Try.func67, Try.ntmps67
  go_wp2_with fail
  have HB0 := Lib.hid (heap_alloc_new w (.cells #[.string x, .string y, .int .i64 N, .slice A l.length c] 56))
  have HM0 : Hid (Mods Nope w (w.alloc (.cells #[.string x, .string y, .int .i64 N, .slice A l.length c] 56))) := (Mods.refl _ _).alloc _
  generalize w.alloc (.cells #[.string x, .string y, .int .i64 N, .slice A l.length c] 56) = w1 at *
  go_loopg [3, 35] l.length (fun gk nv iv wr => ∃ (k m : Nat), k ≤ l.length ∧ gk = l.length - k ∧ nv = .int .i64 m ∧ iv = .int .i64 k ∧ m ≤ N ∧ rgo N (l.drop k) m = R ∧ Mods Nope w1 wr)
  case atStart => exact ⟨0, 0, Nat.zero_le _, rfl, rfl, rfl, Nat.zero_le _, HRR.out, Mods.refl _ _⟩
  case round =>
    clear HRR
    obtain ⟨k, m, hk, hgk, rfl, rfl, hmN, hR, hm⟩ := hrel
    have HM := Lib.hid hm
    have HRD := Lib.hid hR
    have HBX := Lib.hid (hm.row HB0.out (fun h => h))
    clear hm hR
    obtain ⟨_, _, g2, _⟩ := cells4 HBX.out
    by_cases hlt : k < l.length
    · obtain ⟨g, off, e, c0, c1, c2⟩ := stp_at ((HR.out.below HM0.out).below HM.out) hlt
      subst e
      have HX2 : Hid ((if okS l[k] (-1) = true then (if (N : Int) < (m : Int) + (l[k].len + l[k].text.size) then false else rgo N (l.drop (k + 1)) ((m : Int) + (l[k].len + l[k].text.size))) else false) = R) := by
        unfold Hid
        rw [← HRD.out, List.drop_eq_getElem_cons hlt]
        rfl
      have HTX := Lib.hid (HT.out l[k] (List.getElem_mem hlt))
      generalize l[k] = z at *
      clear HRD
      have H101 := Lib.hid (fun wx => f101_calls z (-1) wx HTX.out)
      by_cases hok : okS z (-1) = true
      · rw [if_pos hok] at HX2
        rw [hok] at H101
        obtain ⟨b0, b1, b2, b3, b4⟩ := okS_any hok
        obtain ⟨zp, zn, zt⟩ := z
        dsimp only at *
        obtain ⟨q, rfl⟩ := Int.eq_ofNat_of_zero_le b1
        clear hok b1
        obtain ⟨e1, he1⟩ : ∃ e1, e1 = q + zt.size := ⟨_, rfl⟩
        have hei : (q : Int) + (zt.size : Int) = (e1 : Int) := by omega
        have he1b : e1 ≤ 600000 := by omega
        rw [hei] at HX2
        obtain ⟨m2, hm2⟩ : ∃ m2, m2 = m + e1 := ⟨_, rfl⟩
        have hmi : (m : Int) + (e1 : Int) = (m2 : Int) := by omega
        rw [hmi] at HX2
        have hm2b : m2 ≤ 1200000 := by omega
        clear he1 hm2
        go_wp2_with fail
        refine (H101.out _).mono ?_; rintro e w2 ⟨rfl, h2⟩
        have HROW := Lib.hid (h2.row (heap_alloc_new wr (.cells #[.int .i64 zp, .int .i64 q, .string zt] 117)) (fun h => h))
        have HM2 : Hid (Mods Nope w1 w2) := (HM.out.alloc _).trans h2
        have HBX2 := Lib.hid (HM2.out.row HB0.out (fun h => h))
        clear h2 g2
        obtain ⟨_, _, g2, _⟩ := cells4 HBX2.out
        have t1 : w2.cell? ⟨wr.heap.size, 1, none⟩ = some (.int .i64 q) := by rw [row_cell HROW.out]; rfl
        have t2 : w2.cell? ⟨wr.heap.size, 2, none⟩ = some (.string zt) := by rw [row_cell HROW.out]; rfl
        by_cases hbig : N < m2
        · rw [if_pos (by omega)] at HX2
          have hq : decide ((N : Int) < (m2 : Int)) = true := by simp; omega
          go_wp2
          go_ret
          exact ⟨ret_bool HX2.out, HM0.out.trans HM2.out⟩
        · rw [if_neg (by omega)] at HX2
          have hq : decide ((N : Int) < (m2 : Int)) = false := by simp; omega
          go_wp2_with fail
          go_roundg (l.length - (k + 1))
          case measure => omega
          case rel => exact ⟨k + 1, m2, hlt, rfl, rfl, by go_num, by omega, HX2.out, HM2.out⟩
      · rw [if_neg hok] at HX2
        have hok2 : okS z (-1) = false := by simpa using hok
        rw [hok2] at H101
        obtain ⟨zp, zn, zt⟩ := z
        dsimp only at *
        clear hok hok2
        go_wp2_with fail
        refine (H101.out _).mono ?_; rintro e w2 ⟨rfl, h2⟩
        have HM2 : Hid (Mods Nope w1 w2) := (HM.out.alloc _).trans h2
        clear h2
        go_wp2
        go_ret
        exact ⟨ret_bool HX2.out, HM0.out.trans HM2.out⟩
    · have HE : Hid (decide ((m : Int) = (N : Int)) = R) := by
        unfold Hid
        rw [← HRD.out, List.drop_eq_nil_of_le (by omega)]
        rfl
      have HEB : Hid (((m : Int) == (N : Int)) = R) := by
        unfold Hid
        rw [← HE.out]
        rw [Bool.eq_iff_iff, beq_iff_eq, decide_eq_true_eq]
      go_wp2
      go_ret
      exact ⟨ret_bool HEB.out, HM0.out.trans HM.out⟩
end Go.Proofs.Ytblhbbgkkijkfaa
namespace Go.Proofs.Ytblhbbgkkijkfaa
open Go.RowKit Go.Maps
/-- What a delta makes of a basis, under a book. -/
noncomputable def aplP (K : Bk) (basis x y : ByteArray) (size : Int) (l : List Stp) : ByteArray × Int :=
  if rightP x y size l = true then
    (if K.mark basis = x then
      (if (runP basis l).2 = 0 then
        (if (K.add basis).mark ⟨(runP basis l).1.toArray⟩ = y then (⟨(runP basis l).1.toArray⟩, 0) else (⟨#[]⟩, 6))
      else (⟨#[]⟩, (runP basis l).2))
    else (⟨#[]⟩, 13))
  else (⟨#[]⟩, 1)
/-- What Apply leaves. -/
structure AplPost (b mb : Nat) (K : Bk) (basis x y : ByteArray) (size : Int) (l : List Stp) (w : World) (e : Ending) (w' : World) : Prop where
  ans : e = .returned (.tuple #[.string (aplP K basis x y size l).1, .int .i64 (aplP K basis x y size l).2])
  mods : Mods (MK K mb) w w'
theorem runGo_len (basis : ByteArray) : ∀ (l : List Stp) (acc : List UInt8), acc.length ≤ 524288 → (∀ x ∈ l, True) → (runGo basis l acc).1.length ≤ 600000 := by
  intro l
  induction l with
  | nil => intro acc h _; simp only [runGo]; omega
  | cons x l ih =>
    intro acc h _
    unfold runGo
    split
    · rename_i hok
      split
      · simp
      · rename_i hb
        refine ih _ ?_ (fun _ _ => trivial)
        obtain ⟨b0, b1, b2, b3, b4⟩ := okS_bounds hok
        have h1 : (basis.extract x.pos.toNat (x.pos.toNat + x.len.toNat)).data.toList.length ≤ x.len.toNat := by
          have : (basis.extract x.pos.toNat (x.pos.toNat + x.len.toNat)).data.toList.length = (basis.extract x.pos.toNat (x.pos.toNat + x.len.toNat)).size := by rw [Array.length_toList]; rfl
          rw [this, ByteArray.size_extract]
          omega
        have h2 : x.text.data.toList.length = x.text.size := by rw [Array.length_toList]; rfl
        rw [List.length_append, List.length_append, h2]
        omega
    · simp
set_option maxRecDepth 100000 in
set_option maxHeartbeats 4000000 in
theorem f49_calls (b mb : Nat) (K : Bk) (basis x y : ByteArray) (size : Int) (A : Option Addr) (n c : Nat) (l : List Stp) (w : World) (hb : IsBook w b mb K) (hK : K.len + 2 < 1125899906842624) (hbs : basis.size ≤ 524288) (hn : l.length = n) (h : Rd w A (stps l)) (hnm : ∀ a, A = some a → ¬ MK K mb a.block) (ht : ∀ x ∈ l, x.text.size ≤ maxLen) (hl : l.length ≤ maxLen) (hx : x.size ≤ maxLen) (hy : y.size ≤ maxLen) :
    Calls Try.prog 49 #[.pointer (some ⟨b, 0, none⟩), .string basis, dltV x y size (.slice A n c)] w (AplPost b mb K basis x y size l w) := by
  subst hn
  obtain ⟨R, hRR⟩ : ∃ R, R = aplP K basis x y size l := ⟨_, rfl⟩
  have HRR := Lib.hid hRR.symm
  have HC := Lib.hid (fun wx (h : Rd wx A (stps l)) => f67_calls x y size A l.length c l wx rfl h ht hl hx hy)
  have HRN := Lib.hid (fun wx (h : Rd wx A (stps l)) (hlen : l.length ≤ 524288) => f64_calls basis A l.length c l wx rfl h ht (by omega) hbs)
  have HMK := Lib.hid (fun wx (h : IsBook wx b mb K) => f78_mk b mb K basis wx h (by omega) (by omega))
  have HMK2 := Lib.hid (fun wx (s : ByteArray) (hs : s.size ≤ 600000) (h : IsBook wx b mb (K.add basis)) => f78_mk b mb (K.add basis) s wx h (by have := Bk.len_add K basis; omega) (by omega))
  have HOUT : Hid ((⟨(runP basis l).1.toArray⟩ : ByteArray).size ≤ 600000) := by
    have := runGo_len basis l [] (by simp) (fun _ _ => trivial)
    show (runP basis l).1.toArray.size ≤ 600000
    rw [List.size_toArray]
    exact this
  have HRD := Lib.hid h
  have HB := Lib.hid hb
  have HNM := Lib.hid hnm
  have hlen : rightP x y size l = true → l.length ≤ 524288 := by
    intro h
    unfold rightP at h
    split at h
    · rename_i hc; exact hc.2.2.2.2
    · cases h
  unfold aplP at HRR
  suffices H : Calls Try.prog 49 #[.pointer (some ⟨b, 0, none⟩), .string basis, dltV x y size (.slice A l.length c)] w (fun e w' => e = .returned (.tuple #[.string R.1, .int .i64 R.2]) ∧ Mods (MK K mb) w w') from
    H.mono fun e w' ⟨h1, h2⟩ => ⟨by rw [← hRR]; exact h1, h2⟩
  clear hRR hb h hnm ht hl hx hy
  by_cases q0 : rightP x y size l = true
  rotate_left
  · rw [if_neg q0] at HRR
    have q0' : rightP x y size l = false := by simpa using q0
    rw [q0'] at HC
    unfold dltV at HC ⊢
    clear q0 q0'
    go_enter Try.func49, Try.ntmps49
    go_wp2_with fail
    refine (HC.out _ (HRD.out.alloc _)).mono ?_; rintro e w1 ⟨rfl, h1⟩
    have HM := Lib.hid (((Mods.refl Nope w).alloc _).trans h1)
    clear h1
    go_wp2
    go_ret2
    rw [← HRR.out]
    exact ⟨rfl, HM.out.any _⟩
  rw [if_pos q0] at HRR
  have hlen' := hlen q0
  rw [q0] at HC
  unfold dltV at HC ⊢
  clear q0 hlen
  go_enter Try.func49, Try.ntmps49
  go_wp2_with fail
  refine (HC.out _ (HRD.out.alloc _)).mono ?_; rintro e w1 ⟨rfl, h1⟩
  have HM1 := Lib.hid (((Mods.refl Nope w).alloc (.cells #[.string x, .string y, .int .i64 size, .slice A l.length c] 56)).trans h1)
  have HBX1 := Lib.hid (h1.row (heap_alloc_new w (.cells #[.string x, .string y, .int .i64 size, .slice A l.length c] 56)) (fun h => h))
  have HB1 := Lib.hid (HB.out.nope HM1.out)
  clear h1 HC
  obtain ⟨g0, g1, g2, g3⟩ := cells4 HBX1.out
  go_upto_region 3 with fail
  by_cases q1 : K.mark basis = x
  rotate_left
  · have he : ((K.mark basis).toList == x.toList) = false := str_ne q1
    rw [if_neg q1] at HRR
    generalize K.mark basis = mk at *
    clear q1
    go_region_held3 (fun w' => w'.cell? ⟨w.heap.size, 0, none⟩ = some (.string x)) (go_keep)
      (first
        | (go_at_call 78; refine (HMK.out _ (HB1.out.nope (by repeat (with_reducible first | exact Mods.refl _ _ | apply Mods.drew | apply Mods.drewN)))).mono ?_; rintro e w2 ⟨rfl, hb2, hm2⟩
           have HM2 : Hid (Mods (MK K mb) w w2) := Mods.trans (Mods.any (by repeat (with_reducible first | exact HM1.out | apply Mods.drew | apply Mods.drewN)) (MK K mb)) hm2
           have g0 : w2.cell? ⟨w.heap.size, 0, none⟩ = some (.string x) := by rw [row_cell (hm2.row (show _ from HBX1.out) (book_row HB1.out HBX1.out))]; rfl
           clear hb2 hm2))
    all_goals
      go_wp2
      go_ret2
      rw [← HRR.out]
      exact ⟨rfl, HM2.out⟩
  have he : ((K.mark basis).toList == x.toList) = true := str_eq q1
  rw [if_pos q1] at HRR
  clear q1
  go_cut [18] (fun t wx => t = .bool false ∧ ∃ w2, IsBook w2 b mb (K.add basis) ∧ Mods (MK K mb) w1 w2 ∧ Mods Nope w2 wx)
  case first =>
    generalize K.mark basis = mk at *
    go_region_held3 (fun w' => w'.cell? ⟨w.heap.size, 0, none⟩ = some (.string x)) (go_keep)
      (first
        | (go_at_call 78; refine (HMK.out _ (HB1.out.nope (by repeat (with_reducible first | exact Mods.refl _ _ | apply Mods.drew | apply Mods.drewN)))).mono ?_; rintro e w2 ⟨rfl, hb2, hm2⟩
           have HM2 : Hid (Mods (MK K mb) w1 w2) := Mods.trans (Mods.any (by repeat (with_reducible first | exact Mods.refl _ _ | apply Mods.drew | apply Mods.drewN)) (MK K mb)) hm2
           have HB2 := Lib.hid hb2
           have g0 : w2.cell? ⟨w.heap.size, 0, none⟩ = some (.string x) := by rw [row_cell (hm2.row (show _ from HBX1.out) (book_row HB1.out HBX1.out))]; rfl
           clear hb2 hm2))
    all_goals go_wp2_with fail
    all_goals
      go_meet
      exact ⟨rfl, _, HB2.out, HM2.out, by repeat (with_reducible first | exact Mods.refl _ _ | apply Mods.drew | apply Mods.drewN)⟩
  case rest =>
    obtain ⟨rfl, w2, hb2, hm2, hn2⟩ := hcut
    have HB2 := Lib.hid (hb2.nope hn2)
    have HM2 := Lib.hid (hm2.trans (hn2.any (MK K mb)))
    obtain ⟨w3, rfl⟩ : ∃ w3 : World, w3 = wc := ⟨_, rfl⟩
    have HBX2 := Lib.hid (HM2.out.row HBX1.out (book_row HB1.out HBX1.out))
    have HRD2 : Hid (Rd w3 A (stps l)) := (HRD.out.below HM1.out).mods HM2.out (fun a ha => HNM.out a ha)
    clear hb2 hm2 hn2 g0 g1 g2 g3
    obtain ⟨g0, g1, g2, g3⟩ := cells4 HBX2.out
    have H64 := Lib.hid (HRN.out _ HRD2.out hlen')
    have hout := HOUT.out
    generalize runP basis l = rp at *
    obtain ⟨out, er⟩ := rp
    dsimp only at *
    go_wp2_with fail
    refine H64.out.mono ?_; rintro e w4 ⟨rfl, h4⟩
    have HB4 := Lib.hid (HB2.out.nope h4)
    have HM4 := Lib.hid (HM2.out.trans (h4.any (MK K mb)))
    have HBX4 := Lib.hid (h4.row HBX2.out (fun h => h))
    clear h4 g0 g1 g2 g3 H64 HRN
    obtain ⟨g0, g1, g2, g3⟩ := cells4 HBX4.out
    by_cases q2 : er = 0
    rotate_left
    · rw [if_neg q2] at HRR
      have he2 : (er != 0) = true := by simpa using q2
      clear q2
      go_wp2
      go_ret2
      rw [← HRR.out]
      exact ⟨rfl, (HM1.out.any _).trans HM4.out⟩
    · rw [if_pos q2] at HRR
      subst q2
      by_cases q3 : (K.add basis).mark ⟨out.toArray⟩ = y
      · have he3 : (((K.add basis).mark ⟨out.toArray⟩).toList == y.toList) = true := str_eq q3
        rw [if_pos q3] at HRR
        clear q3
        generalize HO : (⟨out.toArray⟩ : ByteArray) = o at *
        have H78 := Lib.hid (fun wx h => HMK2.out wx o hout h)
        generalize (K.add basis).mark o = mk2 at *
        go_upto_region 8 with fail
        go_region_held3 (fun w' => w'.cell? ⟨w.heap.size, 1, none⟩ = some (.string y)) (go_keep)
          (first
            | (go_at_call 78; refine (H78.out _ (HB4.out.nope (by repeat (with_reducible first | exact Mods.refl _ _ | apply Mods.drew | apply Mods.drewN)))).mono ?_; rintro e w5 ⟨rfl, hb5, hm5⟩
               have HM5 : Hid (Mods (MK K mb) w1 w5) := Mods.trans (by repeat (with_reducible first | exact HM4.out | apply Mods.drew | apply Mods.drewN)) (hm5.mono (fun _ _ e => by rw [MK.add] at e; exact e))
               have g1 : w5.cell? ⟨w.heap.size, 1, none⟩ = some (.string y) := by rw [row_cell (hm5.row (show _ from HBX4.out) (book_row HB4.out HBX4.out))]; rfl
               clear hb5 hm5))
        all_goals
          go_wp2
          go_ret2
          rw [← HRR.out]
          exact ⟨rfl, (HM1.out.any _).trans HM5.out⟩
      · have he3 : (((K.add basis).mark ⟨out.toArray⟩).toList == y.toList) = false := str_ne q3
        rw [if_neg q3] at HRR
        clear q3
        generalize HO : (⟨out.toArray⟩ : ByteArray) = o at *
        have H78 := Lib.hid (fun wx h => HMK2.out wx o hout h)
        generalize (K.add basis).mark o = mk2 at *
        go_upto_region 8 with fail
        go_region_held3 (fun w' => w'.cell? ⟨w.heap.size, 1, none⟩ = some (.string y)) (go_keep)
          (first
            | (go_at_call 78; refine (H78.out _ (HB4.out.nope (by repeat (with_reducible first | exact Mods.refl _ _ | apply Mods.drew | apply Mods.drewN)))).mono ?_; rintro e w5 ⟨rfl, hb5, hm5⟩
               have HM5 : Hid (Mods (MK K mb) w1 w5) := Mods.trans (by repeat (with_reducible first | exact HM4.out | apply Mods.drew | apply Mods.drewN)) (hm5.mono (fun _ _ e => by rw [MK.add] at e; exact e))
               have g1 : w5.cell? ⟨w.heap.size, 1, none⟩ = some (.string y) := by rw [row_cell (hm5.row (show _ from HBX4.out) (book_row HB4.out HBX4.out))]; rfl
               clear hb5 hm5))
        all_goals
          go_wp2
          go_ret2
          rw [← HRR.out]
          exact ⟨rfl, (HM1.out.any _).trans HM5.out⟩
end Go.Proofs.Ytblhbbgkkijkfaa
