/- delta.Run, walked. -/
import Derived.Test.YtblhbbgkkijkfaaQ1
import Derived.Test.YtblhbbgkkijkfaaKA
import Derived.Test.YtblhbbgkkijkfaaSB
namespace Go.Proofs.Ytblhbbgkkijkfaa
open Go.RowKit Go.Maps
/-- What steps make of a basis. -/
def runGo (basis : ByteArray) : List Stp → List UInt8 → List UInt8 × Int
  | [], acc => (acc, 0)
  | x :: l, acc =>
    if okS x basis.size = true then
      (if 524288 < acc.length + (x.len.toNat + x.text.size) then ([], 4)
       else runGo basis l (acc ++ (basis.extract x.pos.toNat (x.pos.toNat + x.len.toNat)).data.toList ++ x.text.data.toList))
    else ([], 2)
def runP (basis : ByteArray) (l : List Stp) : List UInt8 × Int := runGo basis l []
theorem okS_bounds {x : Stp} {n : Nat} (h : okS x (n : Int) = true) : 0 ≤ x.pos ∧ 0 ≤ x.len ∧ x.len ≤ 524288 ∧ x.pos + x.len ≤ n ∧ x.text.size ≤ 4096 := by
  unfold okS at h
  split at h
  · rw [decide_eq_true_eq] at h
    refine ⟨h.2.1, by omega, h.2.2.1, ?_, by omega⟩
    rcases h.2.2.2.2 with h1 | h1 <;> omega
  · rw [decide_eq_true_eq] at h
    omega
theorem okS_pos {x : Stp} {n : Nat} (h : okS x (n : Int) = true) : 0 < x.len + x.text.size := by
  unfold okS at h
  split at h
  · rw [decide_eq_true_eq] at h
    omega
  · rw [decide_eq_true_eq] at h
    omega
set_option maxHeartbeats 1000000 in
set_option maxRecDepth 100000 in
theorem f85_nil (B b : Nat) (w : World) (h : Bld w B b (.slice none 0 0) []) :
    Calls Try.prog 85 #[.pointer (some ⟨b, 0, none⟩)] w fun e w' => e = .returned (.string ⟨#[]⟩) ∧ Mods Nope w w' := by
  obtain ⟨p, hp, hbk⟩ := h.row
  have c1 : w.cell? ⟨b, 1, none⟩ = some (.slice none 0 0) := by rw [row_cell hbk]; rfl
  have hSD : (Builtin.unsafeSliceData_ #[89] 147 #[.slice none 0 0]).run Try.prog w.drew = .ok (.pointer none) w.drew := rfl
  have hUS : (Builtin.unsafeString_ #[147, 3] 9 #[.pointer none, .int .i64 0]).run Try.prog w.drew = .ok (.string ⟨#[]⟩) w.drew := rfl
  go_enter Try.func85, Try.ntmps85
  go_wp2
  go_region
  all_goals (go_wp2; go_ret; exact ⟨rfl, (Mods.refl _ _).drew⟩)
set_option maxRecDepth 100000 in
set_option maxHeartbeats 4000000 in
theorem f64_calls (basis : ByteArray) (A : Option Addr) (n c : Nat) (l : List Stp) (w : World) (hn : l.length = n) (h : Rd w A (stps l)) (ht : ∀ x ∈ l, x.text.size ≤ maxLen) (hl : l.length ≤ 1000000000) (hbs : basis.size ≤ 524288) :
    Calls Try.prog 64 #[.string basis, .slice A n c] w fun e w' => e = .returned (.tuple #[.string ⟨(runP basis l).1.toArray⟩, .int .i64 (runP basis l).2]) ∧ Mods Nope w w' := by
  subst hn
  have HR := Lib.hid h
  have HT := Lib.hid ht
  obtain ⟨R, hRR⟩ : ∃ R, R = runP basis l := ⟨_, rfl⟩
  have HRR := Lib.hid hRR.symm
  rw [← hRR]
  unfold runP at HRR
  clear h ht hRR
  go_enter Try.func64, Try.ntmps64
  go_wp2_with fail
  go_loopg [11] l.length (fun gk iv wr => ∃ (k : Nat) (v : Value) (acc : List UInt8), k ≤ l.length ∧ gk = l.length - k ∧ iv = .int .i64 k ∧ Bld wr w.heap.size w.heap.size v (Lib.byteCells acc) ∧ acc.length ≤ 524288 ∧ runGo basis (l.drop k) acc = R ∧ Mods Nope w wr ∧ (acc = [] → v = .slice none 0 0))
  case atStart => exact ⟨0, .slice none 0 0, [], Nat.zero_le _, rfl, rfl, ⟨Nat.le_refl _, ⟨_, .inl rfl, heap_alloc_new w _⟩, World.ownsRow_nil _ _ _ _⟩, by simp, HRR.out, (Mods.refl _ _).alloc _, fun _ => rfl⟩
  case round =>
    clear HRR
    obtain ⟨k, v, acc, hk, hgk, rfl, hB, hac, hR, hm, hnil⟩ := hrel
    have HNIL := Lib.hid hnil
    have HB := Lib.hid hB
    have HM := Lib.hid hm
    have HRD := Lib.hid hR
    clear hB hm hR hnil
    by_cases hlt : k < l.length
    · obtain ⟨g, off, e, c0, c1, c2⟩ := stp_at (HR.out.below HM.out) hlt
      subst e
      have HX : Hid ((if okS l[k] basis.size = true then (if 524288 < acc.length + (l[k].len.toNat + l[k].text.size) then ([], 4) else runGo basis (l.drop (k + 1)) (acc ++ (basis.extract l[k].pos.toNat (l[k].pos.toNat + l[k].len.toNat)).data.toList ++ l[k].text.data.toList)) else ([], 2)) = R) := by
        unfold Hid
        rw [← HRD.out, List.drop_eq_getElem_cons hlt]
        rfl
      have HTX := Lib.hid (HT.out l[k] (List.getElem_mem hlt))
      generalize l[k] = x at *
      clear HRD
      have H101 := Lib.hid (fun wx => f101_calls x basis.size wx HTX.out)
      by_cases hok : okS x basis.size = true
      · rw [if_pos hok] at HX
        rw [hok] at H101
        obtain ⟨b0, b1, b2, b3, b4⟩ := okS_bounds hok
        have HNE0 := okS_pos hok
        obtain ⟨xp, xn, xt⟩ := x
        dsimp only at *
        obtain ⟨p, rfl⟩ := Int.eq_ofNat_of_zero_le b0
        obtain ⟨q, rfl⟩ := Int.eq_ofNat_of_zero_le b1
        simp only [Int.toNat_natCast] at HX
        have HNE : Hid (0 < q + xt.size) := by unfold Hid; omega
        clear hok HNE0
        go_wp2_with fail
        refine (H101.out _).mono ?_; rintro e w2 ⟨rfl, h2⟩
        have HROW := Lib.hid (h2.row (heap_alloc_new wr (.cells #[.int .i64 p, .int .i64 q, .string xt] 117)) (fun h => h))
        have HM2 : Hid (Mods Nope w w2) := (HM.out.alloc _).trans h2
        have HB2 := Lib.hid ((HB.out.nope ((Mods.refl _ _).alloc _)).nope h2)
        clear h2
        have t0 : w2.cell? ⟨wr.heap.size, 0, none⟩ = some (.int .i64 p) := by rw [row_cell HROW.out]; rfl
        have t1 : w2.cell? ⟨wr.heap.size, 1, none⟩ = some (.int .i64 q) := by rw [row_cell HROW.out]; rfl
        have t2 : w2.cell? ⟨wr.heap.size, 2, none⟩ = some (.string xt) := by rw [row_cell HROW.out]; rfl
        obtain ⟨e1, he1⟩ : ∃ e1, e1 = q + xt.size := ⟨_, rfl⟩
        have hei : (q : Int) + (xt.size : Int) = (e1 : Int) := by omega
        have he1b : e1 ≤ 600000 := by omega
        obtain ⟨d, hd⟩ : ∃ d, d = 524288 - acc.length := ⟨_, rfl⟩
        have hdi : (524288 : Int) - (acc.length : Int) = (d : Int) := by omega
        have hdb : d ≤ 524288 := by omega
        have hiff : (524288 < acc.length + (q + xt.size)) ↔ d < e1 := by omega
        have HI := Lib.hid hiff
        have H106 := Lib.hid (fun wx (h : Bld wx w.heap.size w.heap.size v (Lib.byteCells acc)) => by have h1 := f106_calls _ _ _ _ _ h; rwa [Lib.byteCells_length] at h1)
        clear he1 hd hiff
        by_cases hbig : d < e1
        · rw [if_pos (HI.out.2 hbig)] at HX
          have hq : decide ((d : Int) < (e1 : Int)) = true := by simp; omega
          have hq2 : decide (d < e1) = true := by simp; omega
          go_upto_region 7 with fail
          go_quiet ((go_at_call 106; exact Calls.quiet_of_same (H106.out _ (HB2.out.nope (by repeat (with_reducible first | exact Mods.refl _ _ | apply Mods.drew | apply Mods.drewN))))))
          go_wp2
          go_ret2
          rw [← HX.out]
          exact ⟨rfl, HM2.out.drewN _⟩
        · rw [if_neg (fun h => hbig (HI.out.1 h))] at HX
          have hq : decide ((d : Int) < (e1 : Int)) = false := by simp; omega
          have hq2 : decide (d < e1) = false := by simp; omega
          have HACC := Lib.hid (HI.out)
          go_upto_region 7 with fail
          go_quiet ((go_at_call 106; exact Calls.quiet_of_same (H106.out _ (HB2.out.nope (by repeat (with_reducible first | exact Mods.refl _ _ | apply Mods.drew | apply Mods.drewN))))))
          have HNQ : Hid (Mods Nope w2 (w2.drewN nq)) := (Mods.refl _ _).drewN _
          have HB3 := Lib.hid (HB2.out.nope HNQ.out)
          have HM3 := Lib.hid (HM2.out.trans HNQ.out)
          have HROW3 := Lib.hid (HNQ.out.row HROW.out (fun h => h))
          clear t0 t1 t2 HNQ HB2 HM2 HROW
          generalize w2.drewN nq = w3 at *
          have t0 : w3.cell? ⟨wr.heap.size, 0, none⟩ = some (.int .i64 p) := by rw [row_cell HROW3.out]; rfl
          have t1 : w3.cell? ⟨wr.heap.size, 1, none⟩ = some (.int .i64 q) := by rw [row_cell HROW3.out]; rfl
          have t2 : w3.cell? ⟨wr.heap.size, 2, none⟩ = some (.string xt) := by rw [row_cell HROW3.out]; rfl
          obtain ⟨pe, hpe⟩ : ∃ pe, pe = p + q := ⟨_, rfl⟩
          have hpi : (p : Int) + (q : Int) = (pe : Int) := by omega
          have hpb : pe ≤ basis.size := by omega
          have hpp : p ≤ pe := by omega
          rw [← hpe] at HX
          have hxz : (basis.extract p pe).size = q := by rw [ByteArray.size_extract]; omega
          have HXZ := Lib.hid hxz
          have HPE := Lib.hid hpe
          clear hpe hxz
          have hB3w := HM3.out.size
          have HL3 := Lib.hid HB3.out.lt
          go_wp2_with fail
          refine (f84_calls w.heap.size w.heap.size v acc (basis.extract p pe) _ HB3.out (by rw [HXZ.out]; omega) hB3w).mono ?_; rintro e w4 ⟨v4, rfl, hB4, hm4⟩
          have HB4 := Lib.hid hB4
          have HROW4 := Lib.hid (hm4.row HROW3.out (fun e => e.elim (fun e => by have := HB.out.lt; omega) (fun e => own_ne_row HB3.out.own HROW3.out (by decide) _ e rfl)))
          have HM4 : Hid (Mods Nope w w4) := HM3.out.then hm4 (fun i hi e => e.elim (fun e => by omega) (fun e => by have := (HB3.out.own.lt i e).1; omega))
          clear hB4 hm4 t0 t1 t2 HROW3
          have t2 : w4.cell? ⟨wr.heap.size, 2, none⟩ = some (.string xt) := by rw [row_cell HROW4.out]; rfl
          have hB4w := HM4.out.size
          have HLEN : Hid ((acc ++ (basis.extract p pe).data.toList).length = acc.length + q) := by
            unfold Hid
            rw [List.length_append, ← HXZ.out]
            rfl
          go_wp2_with fail
          refine (f84_calls w.heap.size w.heap.size v4 (acc ++ (basis.extract p pe).data.toList) xt _ HB4.out (by rw [HLEN.out]; omega) hB4w).mono ?_; rintro e w5 ⟨v5, rfl, hB5, hm5⟩
          have HB5 := Lib.hid hB5
          have HM5 : Hid (Mods Nope w w5) := HM4.out.then hm5 (fun i hi e => e.elim (fun e => by omega) (fun e => by have := (HB4.out.own.lt i e).1; omega))
          clear hB5 hm5 t2
          have HLEN2 : Hid ((acc ++ (basis.extract p pe).data.toList ++ xt.data.toList).length = acc.length + q + xt.size) := by
            unfold Hid
            rw [List.length_append, HLEN.out]
            rfl
          go_wp2_with fail
          go_roundg (l.length - (k + 1))
          case measure => omega
          case rel => exact ⟨k + 1, v5, _, hlt, rfl, by go_num, HB5.out, by rw [HLEN2.out]; have := HI.out; omega, HX.out, HM5.out, fun e => by
            exfalso
            have h0 := HLEN2.out
            rw [e] at h0
            have h1 := HNE.out
            simp at h0
            omega⟩
      · rw [if_neg hok] at HX
        have hok2 : okS x basis.size = false := by simpa using hok
        rw [hok2] at H101
        obtain ⟨xp, xn, xt⟩ := x
        dsimp only at *
        clear hok hok2
        go_wp2_with fail
        refine (H101.out _).mono ?_; rintro e w2 ⟨rfl, h2⟩
        have HM2 : Hid (Mods Nope w w2) := (HM.out.alloc _).trans h2
        clear h2
        go_wp2
        go_ret2
        rw [← HX.out]
        exact ⟨rfl, HM2.out⟩
    · have HE : Hid ((acc, (0 : Int)) = R) := by
        unfold Hid
        rw [← HRD.out, List.drop_eq_nil_of_le (by omega)]
        rfl
      by_cases hz : acc = []
      · have hv := HNIL.out hz
        subst hz
        subst hv
        go_wp2_with fail
        refine (f85_nil _ _ _ HB.out).mono ?_; rintro e w2 ⟨rfl, h2⟩
        have HM2 := Lib.hid (HM.out.trans h2)
        clear h2
        go_wp2
        go_ret2
        rw [← HE.out]
        exact ⟨rfl, HM2.out⟩
      · have HZ := Lib.hid hz
        clear hz
        go_wp2_with fail
        refine (f85_calls _ _ _ _ _ HB.out HZ.out).mono ?_; rintro e w2 ⟨rfl, h2⟩
        have HM2 : Hid (Mods Nope w w2) := HM.out.then (Mods.of_below_at h2) (fun i hi e => absurd hi (Nat.not_lt.2 e))
        clear h2
        go_wp2
        go_ret2
        rw [← HE.out]
        exact ⟨rfl, HM2.out⟩
end Go.Proofs.Ytblhbbgkkijkfaa
