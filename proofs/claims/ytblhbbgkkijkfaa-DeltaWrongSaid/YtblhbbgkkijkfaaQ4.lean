/- delta.Apply, walked. -/
import Derived.Test.YtblhbbgkkijkfaaQ3
namespace Go.Proofs.Ytblhbbgkkijkfaa
open Go.RowKit Go.Maps
/-- What a delta makes of a basis, under a book. -/
noncomputable def aplP (K : Bk) (basis x y : ByteArray) (size : Int) (l : List Stp) : ByteArray × Int :=
  if rightP x y size l = true then
    (if K.mark basis = x then
      (if (runP basis l).2 = 0 then
        (if (K.add basis).mark ⟨(runP basis l).1.toArray⟩ = y then (⟨(runP basis l).1.toArray⟩, 0) else (⟨#[]⟩, 6))
      else (⟨#[]⟩, (runP basis l).2))
    else (⟨#[]⟩, 13))
  else (⟨#[]⟩, 1)
/-- What Apply leaves. -/
structure AplPost (b mb : Nat) (K : Bk) (basis x y : ByteArray) (size : Int) (l : List Stp) (w : World) (e : Ending) (w' : World) : Prop where
  ans : e = .returned (.tuple #[.string (aplP K basis x y size l).1, .int .i64 (aplP K basis x y size l).2])
  mods : Mods (MK K mb) w w'
theorem runGo_len (basis : ByteArray) : ∀ (l : List Stp) (acc : List UInt8), acc.length ≤ 524288 → (∀ x ∈ l, True) → (runGo basis l acc).1.length ≤ 600000 := by
  intro l
  induction l with
  | nil => intro acc h _; simp only [runGo]; omega
  | cons x l ih =>
    intro acc h _
    unfold runGo
    split
    · rename_i hok
      split
      · simp
      · rename_i hb
        refine ih _ ?_ (fun _ _ => trivial)
        obtain ⟨b0, b1, b2, b3, b4⟩ := okS_bounds hok
        have h1 : (basis.extract x.pos.toNat (x.pos.toNat + x.len.toNat)).data.toList.length ≤ x.len.toNat := by
          have : (basis.extract x.pos.toNat (x.pos.toNat + x.len.toNat)).data.toList.length = (basis.extract x.pos.toNat (x.pos.toNat + x.len.toNat)).size := by rw [Array.length_toList]; rfl
          rw [this, ByteArray.size_extract]
          omega
        have h2 : x.text.data.toList.length = x.text.size := by rw [Array.length_toList]; rfl
        rw [List.length_append, List.length_append, h2]
        omega
    · simp
set_option maxRecDepth 100000 in
set_option maxHeartbeats 4000000 in
theorem f49_calls (b mb : Nat) (K : Bk) (basis x y : ByteArray) (size : Int) (A : Option Addr) (n c : Nat) (l : List Stp) (w : World) (hb : IsBook w b mb K) (hK : K.len + 2 < 1125899906842624) (hbs : basis.size ≤ 524288) (hn : l.length = n) (h : Rd w A (stps l)) (hnm : ∀ a, A = some a → ¬ MK K mb a.block) (ht : ∀ x ∈ l, x.text.size ≤ maxLen) (hl : l.length ≤ maxLen) (hx : x.size ≤ maxLen) (hy : y.size ≤ maxLen) :
    Calls Try.prog 49 #[.pointer (some ⟨b, 0, none⟩), .string basis, dltV x y size (.slice A n c)] w (AplPost b mb K basis x y size l w) := by
  subst hn
  obtain ⟨R, hRR⟩ : ∃ R, R = aplP K basis x y size l := ⟨_, rfl⟩
  have HRR := Lib.hid hRR.symm
  have HC := Lib.hid (fun wx (h : Rd wx A (stps l)) => f67_calls x y size A l.length c l wx rfl h ht hl hx hy)
  have HRN := Lib.hid (fun wx (h : Rd wx A (stps l)) (hlen : l.length ≤ 524288) => f64_calls basis A l.length c l wx rfl h ht (by omega) hbs)
  have HMK := Lib.hid (fun wx (h : IsBook wx b mb K) => f78_mk b mb K basis wx h (by omega) (by omega))
  have HMK2 := Lib.hid (fun wx (s : ByteArray) (hs : s.size ≤ 600000) (h : IsBook wx b mb (K.add basis)) => f78_mk b mb (K.add basis) s wx h (by have := Bk.len_add K basis; omega) (by omega))
  have HOUT : Hid ((⟨(runP basis l).1.toArray⟩ : ByteArray).size ≤ 600000) := by
    have := runGo_len basis l [] (by simp) (fun _ _ => trivial)
    show (runP basis l).1.toArray.size ≤ 600000
    rw [List.size_toArray]
    exact this
  have HRD := Lib.hid h
  have HB := Lib.hid hb
  have HNM := Lib.hid hnm
  have hlen : rightP x y size l = true → l.length ≤ 524288 := by
    intro h
    unfold rightP at h
    split at h
    · rename_i hc; exact hc.2.2.2.2
    · cases h
  unfold aplP at HRR
  suffices H : Calls Try.prog 49 #[.pointer (some ⟨b, 0, none⟩), .string basis, dltV x y size (.slice A l.length c)] w (fun e w' => e = .returned (.tuple #[.string R.1, .int .i64 R.2]) ∧ Mods (MK K mb) w w') from
    H.mono fun e w' ⟨h1, h2⟩ => ⟨by rw [← hRR]; exact h1, h2⟩
  clear hRR hb h hnm ht hl hx hy
  by_cases q0 : rightP x y size l = true
  rotate_left
  · rw [if_neg q0] at HRR
    have q0' : rightP x y size l = false := by simpa using q0
    rw [q0'] at HC
    unfold dltV at HC ⊢
    clear q0 q0'
    go_enter Try.func49, Try.ntmps49
    go_wp2_with fail
    refine (HC.out _ (HRD.out.alloc _)).mono ?_; rintro e w1 ⟨rfl, h1⟩
    have HM := Lib.hid (((Mods.refl Nope w).alloc _).trans h1)
    clear h1
    go_wp2
    go_ret2
    rw [← HRR.out]
    exact ⟨rfl, HM.out.any _⟩
  rw [if_pos q0] at HRR
  have hlen' := hlen q0
  rw [q0] at HC
  unfold dltV at HC ⊢
  clear q0 hlen
  go_enter Try.func49, Try.ntmps49
  go_wp2_with fail
  refine (HC.out _ (HRD.out.alloc _)).mono ?_; rintro e w1 ⟨rfl, h1⟩
  have HM1 := Lib.hid (((Mods.refl Nope w).alloc (.cells #[.string x, .string y, .int .i64 size, .slice A l.length c] 56)).trans h1)
  have HBX1 := Lib.hid (h1.row (heap_alloc_new w (.cells #[.string x, .string y, .int .i64 size, .slice A l.length c] 56)) (fun h => h))
  have HB1 := Lib.hid (HB.out.nope HM1.out)
  clear h1 HC
  obtain ⟨g0, g1, g2, g3⟩ := cells4 HBX1.out
  go_upto_region 3 with fail
  by_cases q1 : K.mark basis = x
  rotate_left
  · have he : ((K.mark basis).toList == x.toList) = false := str_ne q1
    rw [if_neg q1] at HRR
    generalize K.mark basis = mk at *
    clear q1
    go_region_held3 (fun w' => w'.cell? ⟨w.heap.size, 0, none⟩ = some (.string x)) (go_keep)
      (first
        | (go_at_call 78; refine (HMK.out _ (HB1.out.nope (by repeat (with_reducible first | exact Mods.refl _ _ | apply Mods.drew | apply Mods.drewN)))).mono ?_; rintro e w2 ⟨rfl, hb2, hm2⟩
           have HM2 : Hid (Mods (MK K mb) w w2) := Mods.trans (Mods.any (by repeat (with_reducible first | exact HM1.out | apply Mods.drew | apply Mods.drewN)) (MK K mb)) hm2
           have g0 : w2.cell? ⟨w.heap.size, 0, none⟩ = some (.string x) := by rw [row_cell (hm2.row (show _ from HBX1.out) (book_row HB1.out HBX1.out))]; rfl
           clear hb2 hm2))
    all_goals
      go_wp2
      go_ret2
      rw [← HRR.out]
      exact ⟨rfl, HM2.out⟩
  have he : ((K.mark basis).toList == x.toList) = true := str_eq q1
  rw [if_pos q1] at HRR
  clear q1
  go_cut [18] (fun t wx => t = .bool false ∧ ∃ w2, IsBook w2 b mb (K.add basis) ∧ Mods (MK K mb) w1 w2 ∧ Mods Nope w2 wx)
  case first =>
    generalize K.mark basis = mk at *
    go_region_held3 (fun w' => w'.cell? ⟨w.heap.size, 0, none⟩ = some (.string x)) (go_keep)
      (first
        | (go_at_call 78; refine (HMK.out _ (HB1.out.nope (by repeat (with_reducible first | exact Mods.refl _ _ | apply Mods.drew | apply Mods.drewN)))).mono ?_; rintro e w2 ⟨rfl, hb2, hm2⟩
           have HM2 : Hid (Mods (MK K mb) w1 w2) := Mods.trans (Mods.any (by repeat (with_reducible first | exact Mods.refl _ _ | apply Mods.drew | apply Mods.drewN)) (MK K mb)) hm2
           have HB2 := Lib.hid hb2
           have g0 : w2.cell? ⟨w.heap.size, 0, none⟩ = some (.string x) := by rw [row_cell (hm2.row (show _ from HBX1.out) (book_row HB1.out HBX1.out))]; rfl
           clear hb2 hm2))
    all_goals go_wp2_with fail
    all_goals
      go_meet
      exact ⟨rfl, _, HB2.out, HM2.out, by repeat (with_reducible first | exact Mods.refl _ _ | apply Mods.drew | apply Mods.drewN)⟩
  case rest =>
    obtain ⟨rfl, w2, hb2, hm2, hn2⟩ := hcut
    have HB2 := Lib.hid (hb2.nope hn2)
    have HM2 := Lib.hid (hm2.trans (hn2.any (MK K mb)))
    obtain ⟨w3, rfl⟩ : ∃ w3 : World, w3 = wc := ⟨_, rfl⟩
    have HBX2 := Lib.hid (HM2.out.row HBX1.out (book_row HB1.out HBX1.out))
    have HRD2 : Hid (Rd w3 A (stps l)) := (HRD.out.below HM1.out).mods HM2.out (fun a ha => HNM.out a ha)
    clear hb2 hm2 hn2 g0 g1 g2 g3
    obtain ⟨g0, g1, g2, g3⟩ := cells4 HBX2.out
    have H64 := Lib.hid (HRN.out _ HRD2.out hlen')
    have hout := HOUT.out
    generalize runP basis l = rp at *
    obtain ⟨out, er⟩ := rp
    dsimp only at *
    go_wp2_with fail
    refine H64.out.mono ?_; rintro e w4 ⟨rfl, h4⟩
    have HB4 := Lib.hid (HB2.out.nope h4)
    have HM4 := Lib.hid (HM2.out.trans (h4.any (MK K mb)))
    have HBX4 := Lib.hid (h4.row HBX2.out (fun h => h))
    clear h4 g0 g1 g2 g3 H64 HRN
    obtain ⟨g0, g1, g2, g3⟩ := cells4 HBX4.out
    by_cases q2 : er = 0
    rotate_left
    · rw [if_neg q2] at HRR
      have he2 : (er != 0) = true := by simpa using q2
      clear q2
      go_wp2
      go_ret2
      rw [← HRR.out]
      exact ⟨rfl, (HM1.out.any _).trans HM4.out⟩
    · rw [if_pos q2] at HRR
      subst q2
      by_cases q3 : (K.add basis).mark ⟨out.toArray⟩ = y
      · have he3 : (((K.add basis).mark ⟨out.toArray⟩).toList == y.toList) = true := str_eq q3
        rw [if_pos q3] at HRR
        clear q3
        generalize HO : (⟨out.toArray⟩ : ByteArray) = o at *
        have H78 := Lib.hid (fun wx h => HMK2.out wx o hout h)
        generalize (K.add basis).mark o = mk2 at *
        go_upto_region 8 with fail
        go_region_held3 (fun w' => w'.cell? ⟨w.heap.size, 1, none⟩ = some (.string y)) (go_keep)
          (first
            | (go_at_call 78; refine (H78.out _ (HB4.out.nope (by repeat (with_reducible first | exact Mods.refl _ _ | apply Mods.drew | apply Mods.drewN)))).mono ?_; rintro e w5 ⟨rfl, hb5, hm5⟩
               have HM5 : Hid (Mods (MK K mb) w1 w5) := Mods.trans (by repeat (with_reducible first | exact HM4.out | apply Mods.drew | apply Mods.drewN)) (hm5.mono (fun _ _ e => by rw [MK.add] at e; exact e))
               have g1 : w5.cell? ⟨w.heap.size, 1, none⟩ = some (.string y) := by rw [row_cell (hm5.row (show _ from HBX4.out) (book_row HB4.out HBX4.out))]; rfl
               clear hb5 hm5))
        all_goals
          go_wp2
          go_ret2
          rw [← HRR.out]
          exact ⟨rfl, (HM1.out.any _).trans HM5.out⟩
      · have he3 : (((K.add basis).mark ⟨out.toArray⟩).toList == y.toList) = false := str_ne q3
        rw [if_neg q3] at HRR
        clear q3
        generalize HO : (⟨out.toArray⟩ : ByteArray) = o at *
        have H78 := Lib.hid (fun wx h => HMK2.out wx o hout h)
        generalize (K.add basis).mark o = mk2 at *
        go_upto_region 8 with fail
        go_region_held3 (fun w' => w'.cell? ⟨w.heap.size, 1, none⟩ = some (.string y)) (go_keep)
          (first
            | (go_at_call 78; refine (H78.out _ (HB4.out.nope (by repeat (with_reducible first | exact Mods.refl _ _ | apply Mods.drew | apply Mods.drewN)))).mono ?_; rintro e w5 ⟨rfl, hb5, hm5⟩
               have HM5 : Hid (Mods (MK K mb) w1 w5) := Mods.trans (by repeat (with_reducible first | exact HM4.out | apply Mods.drew | apply Mods.drewN)) (hm5.mono (fun _ _ e => by rw [MK.add] at e; exact e))
               have g1 : w5.cell? ⟨w.heap.size, 1, none⟩ = some (.string y) := by rw [row_cell (hm5.row (show _ from HBX4.out) (book_row HB4.out HBX4.out))]; rfl
               clear hb5 hm5))
        all_goals
          go_wp2
          go_ret2
          rw [← HRR.out]
          exact ⟨rfl, (HM1.out.any _).trans HM5.out⟩
end Go.Proofs.Ytblhbbgkkijkfaa
