/- barquelaw06.DeltaWrong, walked. -/
import Derived.Test.YtblhbbgkkijkfaaL22
namespace Go.Proofs.Ytblhbbgkkijkfaa
open Go.RowKit Go.Maps
set_option maxRecDepth 100000 in
set_option maxHeartbeats 4000000 in
/-- Apply to a basis that has another mark. -/
theorem f49_wrong (b mb : Nat) (M : List ByteArray) (basis x y : ByteArray) (size : Int) (A : Option Addr) (n c : Nat) (l : List Stp) (w : World) (hb : IsBook w b mb (.ideal M)) (hK : M.length + 2 < 1125899906842624) (hbs : basis.size ≤ maxLen) (hn : l.length = n) (h : Rd w A (stps l)) (ht : ∀ x ∈ l, x.text.size ≤ maxLen) (hl : l.length ≤ maxLen) (hx : x.size ≤ maxLen) (hy : y.size ≤ maxLen)
    (hr : rightP x y size l = true) (hq : (Bk.ideal M).mark basis ≠ x) :
    Calls Try.prog 49 #[.pointer (some ⟨b, 0, none⟩), .string basis, dltV x y size (.slice A n c)] w fun e w' => e = .returned (.tuple #[.string ⟨#[]⟩, .int .i64 13]) ∧ Mods (MK (.ideal M) mb) w w' := by
  subst hn
  have HC := Lib.hid (fun wx (h : Rd wx A (stps l)) => f67_calls x y size A l.length c l wx rfl h ht hl hx hy)
  have HMK := Lib.hid (fun wx (h : IsBook wx b mb (.ideal M)) => f78_ideal b mb M basis wx h (by show M.length < _; omega) hbs)
  have HRD := Lib.hid h
  have HB := Lib.hid hb
  have HBS := Lib.hid hbs
  rw [hr] at HC
  have he : (((Bk.ideal M).mark basis).toList == x.toList) = false := str_ne hq
  clear hb h ht hl hx hy hr hq hbs
  unfold dltV at HC ⊢
  go_enter Try.func49, Try.ntmps49
  go_wp2_with fail
  refine (HC.out _ (HRD.out.alloc _)).mono ?_; rintro e w1 ⟨rfl, h1⟩
  have HM1 := Lib.hid (((Mods.refl Nope w).alloc (.cells #[.string x, .string y, .int .i64 size, .slice A l.length c] 56)).trans h1)
  have HBX1 := Lib.hid (h1.row (heap_alloc_new w (.cells #[.string x, .string y, .int .i64 size, .slice A l.length c] 56)) (fun h => h))
  have HB1 := Lib.hid (HB.out.nope HM1.out)
  clear h1 HC
  obtain ⟨g0, g1, g2, g3⟩ := cells4 HBX1.out
  go_upto_region 3 with fail
  generalize (Bk.ideal M).mark basis = mk at *
  go_region_held3 (fun w' => w'.cell? ⟨w.heap.size, 0, none⟩ = some (.string x)) (go_keep)
    (first
      | (go_at_call 78; refine (HMK.out _ (HB1.out.nope (by repeat (with_reducible first | exact Mods.refl _ _ | apply Mods.drew | apply Mods.drewN)))).mono ?_; rintro e w2 ⟨rfl, hb2, hm2⟩
         have HM2 : Hid (Mods (MK (.ideal M) mb) w w2) := Mods.trans (Mods.any (by repeat (with_reducible first | exact HM1.out | apply Mods.drew | apply Mods.drewN)) (MK (.ideal M) mb)) hm2
         have g0 : w2.cell? ⟨w.heap.size, 0, none⟩ = some (.string x) := by rw [row_cell (hm2.row (show _ from HBX1.out) (book_row HB1.out HBX1.out))]; rfl
         clear hb2 hm2))
  all_goals
    go_wp2
    go_ret2
    exact ⟨rfl, HM2.out⟩
set_option maxRecDepth 100000 in
set_option maxHeartbeats 4000000 in
theorem deltaWrong_err (basis s : ByteArray) (y : Int) (other : ByteArray) (hbs : basis.size ≤ maxLen) (hs : s.size ≤ maxLen) (hf : fitsB y = false) (w : World) :
    Calls Try.prog 19 #[.string basis, .string s, .int .i64 y, .string other] w fun e w' => e = .returned (.bool true) ∧ Mods Nope w w' := by
  have HF := Lib.hid hf
  have HS := Lib.hid hs
  have HBS := Lib.hid hbs
  clear hf hs hbs
  go_enter Try.func19, Try.ntmps19
  go_wp2_with fail
  refine (f47_calls basis 2000 _ HBS.out (by omega)).mono ?_; rintro e w1 ⟨rfl, rfl⟩
  go_wp2_with fail
  refine (f47_calls s 2000 _ HS.out (by omega)).mono ?_; rintro e w1 ⟨rfl, rfl⟩
  generalize cutT s 2000 = s'
  generalize cutT basis 2000 = b'
  go_wp2_with fail
  refine (f29_calls _).mono ?_; rintro e w2 ⟨b, mb, rfl, _, _, _, hm⟩
  go_wp2_with fail
  refine (f60_err _ b' s' y _ HF.out).mono ?_; rintro e w3 ⟨rfl, h3⟩
  have HM3 := Lib.hid (hm.trans h3)
  clear hm h3
  simp only [dltV]
  go_wp2_with fail
  refine (f51_calls _).mono ?_; rintro e w4 ⟨rfl, h4⟩
  have HM4 := Lib.hid ((HM3.out.alloc _).trans h4)
  clear h4
  go_wp2
  go_ret
  exact ⟨rfl, HM4.out⟩
set_option maxRecDepth 100000 in
set_option maxHeartbeats 4000000 in
theorem deltaWrong_ok (basis s : ByteArray) (n : Nat) (other : ByteArray) (ho : other.size ≤ maxLen) (hbs : basis.size ≤ maxLen) (hs : s.size ≤ maxLen) (h1 : 16 ≤ n) (h2 : n ≤ 1024) (w : World) :
    Calls Try.prog 19 #[.string basis, .string s, .int .i64 n, .string other] w fun e w' => e = .returned (.bool true) ∧ Mods Nope w w' := by
  have HO := Lib.hid ho
  have HS := Lib.hid hs
  have HBS := Lib.hid hbs
  clear hs hbs ho
  go_enter Try.func19, Try.ntmps19
  go_wp2_with fail
  refine (f47_calls basis 2000 _ HBS.out (by omega)).mono ?_; rintro e w1 ⟨rfl, rfl⟩
  go_wp2_with fail
  refine (f47_calls s 2000 _ HS.out (by omega)).mono ?_; rintro e w1 ⟨rfl, rfl⟩
  have hcz := cutT_size s 2000
  have hcb := cutT_size basis 2000
  generalize cutT s 2000 = s' at hcz ⊢
  generalize cutT basis 2000 = b' at hcb ⊢
  go_wp2_with fail
  refine (f29_calls _).mono ?_; rintro e w2 ⟨b, mb, rfl, hb1, hmb1, hbk, hm⟩
  obtain ⟨L, hL, _, hc⟩ := f60_ideal b mb n b' s' w2 hbk (by omega) (by omega) h1 h2
  obtain ⟨hok, hex⟩ := mkP_law (basis := b') (s := s') (n := n) (by omega) (by omega)
  have HAB := Lib.hid (fun k K (hG : Grown L k K) => apl_back (basis := b') (s := s') (n := n) hG (by omega) (by omega) (by omega))
  have HZ := Lib.hid (sumT_ex _ hok)
  have HZL := Lib.hid (len_ex _ hok)
  have HTX : Hid (∀ x ∈ mkP b'.size n (mI b' n) (tI b' n) s', x.text.size ≤ maxLen) := fun x hx => by have := (okS_bounds (hok x hx)).2.2.2.2; unfold maxLen; omega
  rw [hex, bl_length] at HZ HZL
  clear hok hex
  generalize mkP b'.size n (mI b' n) (tI b' n) s' = R at *
  have HC := Lib.hid hc
  have HM := Lib.hid hm
  have HLB := Lib.hid hL
  clear hc hm hbk hL
  go_wp2_with fail
  refine HC.out.mono ?_; rintro e w3 hP
  obtain ⟨⟨k, K, v, rfl, hkk, hG, hB3, hv⟩, hm3⟩ := hP
  obtain ⟨a1, a2, a3⟩ := HAB.out k K hG
  have HM3 : Hid (Mods Nope w1 w3) := HM.out.then hm3 (fun i hi e => by omega)
  obtain ⟨A, c, rfl, _, _, hrd, hAb⟩ := Rd.of_owns hv
  have hkl : (((K.add b').add s').len) + 2 < 1125899906842624 := by
    have h5 := Bk.len_add (K.add b') s'
    have h6 := Bk.len_add K b'
    obtain ⟨M, rfl, h7, _⟩ := hG
    have h8 : (Bk.ideal M).len = M.length := rfl
    have h9 := HLB.out
    omega
  have HNM : Hid (∀ a, A = some a → ¬ MK ((K.add b').add s') mb a.block) := fun a ha => book_own hB3 hv a.block (by subst ha; rfl)
  have hx32 : (K.mark b').size ≤ maxLen := by
    unfold rightP at a1
    split at a1
    · rename_i hcc; unfold maxLen; omega
    · cases a1
  have hy32 : ((K.add b').mark s').size ≤ maxLen := by
    unfold rightP at a1
    split at a1
    · rename_i hcc; unfold maxLen; omega
    · cases a1
  have H49 := Lib.hid (fun wx (h : IsBook wx b mb ((K.add b').add s')) (hr : Rd wx A (stps R)) => f49_calls b mb ((K.add b').add s') b' (K.mark b') ((K.add b').mark s') s'.size A R.length c R wx h hkl (by omega) rfl hr HNM.out HTX.out (by have := HZL.out; unfold maxLen; omega) hx32 hy32)
  have HWR : Hid (other ≠ b' → ∀ wx, IsBook wx b mb ((K.add b').add s') → Rd wx A (stps R) → Calls Try.prog 49 #[.pointer (some ⟨b, 0, none⟩), .string other, dltV (K.mark b') ((K.add b').mark s') s'.size (.slice A R.length c)] wx fun e w' => e = .returned (.tuple #[.string ⟨#[]⟩, .int .i64 13]) ∧ Mods (MK ((K.add b').add s') mb) wx w') := by
    intro hne wx hbx hrx
    obtain ⟨M2, e2, _, _⟩ := (hG.add b').add s'
    have hin : b' ∈ M2 := by
      have h1 : ((K.add b').add s').knows b' := Bk.knows_mono (Bk.knows_add K b') s'
      rw [e2] at h1
      exact h1
    rw [e2] at hbx hkl a2 ⊢
    exact f49_wrong b mb M2 other _ _ _ A R.length c R wx hbx hkl HO.out rfl hrx HTX.out (by have := HZL.out; unfold maxLen; omega) hx32 hy32 a1 (fun e => hne ((ideal_mark_eq (t := other) hin (by have : (Bk.ideal M2).len = M2.length := rfl; omega)).1 (by rw [a2, e])).symm)
  have HB3 := Lib.hid hB3
  have HRD := Lib.hid hrd
  have HA3 := Lib.hid a3
  clear hv hm3 HC hG a1 a2 a3 hx32 hy32 hrd hB3 HAB hAb hkk hkl
  generalize K.mark b' = x at *
  generalize (K.add b').mark s' = y at *
  generalize (K.add b').add s' = K2 at *
  simp only [dltV]
  go_wp2_with fail
  have HAL : Hid (Mods Nope w3 (w3.alloc (.cells #[.string x, .string y, .int .i64 s'.size, .slice A R.length c] 56))) := (Mods.refl _ _).alloc _
  have HROW := Lib.hid (heap_alloc_new w3 (.cells #[.string x, .string y, .int .i64 s'.size, .slice A R.length c] 56))
  generalize hBLK : w3.heap.size = BB at *
  generalize w3.alloc (.cells #[.string x, .string y, .int .i64 s'.size, .slice A R.length c] 56) = w4 at *
  have hse : (s'.toList == s'.toList) = true := str_eq rfl
  by_cases q : other = b'
  · have hoe : (other.toList == b'.toList) = true := str_eq q
    have H49' := H49.out w4 (HB3.out.nope HAL.out) (HRD.out.below HAL.out)
    unfold dltV at H49'
    rw [← q] at H49'
    have H49h := Lib.hid H49'
    clear H49' H49
    refine H49h.out.mono ?_; rintro e w5 ⟨hans, hm5⟩
    rw [q] at hans
    rw [HA3.out] at hans
    subst hans
    dsimp only
    have HM5 : Hid (Mods Nope w1 w5) := (HM3.out.trans HAL.out).then hm5 (fun i hi e => by have := MK.eq e; omega)
    clear hm5 q
    go_wp2_with fail
    refine (f51_calls _).mono ?_; rintro e w8 ⟨rfl, h8⟩
    have HM8 := Lib.hid (HM5.out.trans h8)
    clear h8
    go_wp2
    go_ret
    exact ⟨rfl, HM8.out⟩
  · have hoe : (other.toList == b'.toList) = false := str_ne q
    have H49' := HWR.out q w4 (HB3.out.nope HAL.out) (HRD.out.below HAL.out)
    unfold dltV at H49'
    have H49h := Lib.hid H49'
    clear H49' H49
    refine H49h.out.mono ?_; rintro e w5 ⟨rfl, hm5⟩
    have HM5 : Hid (Mods Nope w1 w5) := (HM3.out.trans HAL.out).then hm5 (fun i hi e => by have := MK.eq e; omega)
    clear hm5 q
    go_wp2_with fail
    refine (f51_calls _).mono ?_; rintro e w8 ⟨rfl, h8⟩
    have HM8 := Lib.hid (HM5.out.trans h8)
    clear h8
    go_wp2
    go_ret
    exact ⟨rfl, HM8.out⟩
theorem deltaWrong_walk (a0 : ByteArray) (a1 : ByteArray) (a2 : Int) (a3 : ByteArray) (w0 : a0.size ≤ maxLen) (w1 : a1.size ≤ maxLen) (_ : (Lit.int .i64 a2).wf = true) (w3 : a3.size ≤ maxLen) (w : World) :
    Calls Try.prog 19 #[.string a0, .string a1, .int .i64 a2, .string a3] w fun e w' => e = .returned (.bool true) ∧ Mods Nope w w' := by
  by_cases hf : fitsB a2 = true
  · have h := fitsB_true.1 hf
    obtain ⟨n, rfl⟩ : ∃ n : Nat, a2 = n := ⟨a2.toNat, by omega⟩
    exact deltaWrong_ok a0 a1 n a3 w3 w0 w1 (by omega) (by omega) w
  · exact deltaWrong_err a0 a1 a2 a3 w0 w1 (by simpa using hf) w
end Go.Proofs.Ytblhbbgkkijkfaa
