/- barquelaw06.DeltaBack, walked. -/
import Derived.Test.YtblhbbgkkijkfaaQP
namespace Go.Proofs.Ytblhbbgkkijkfaa
open Go.RowKit Go.Maps
theorem bl_back (s : ByteArray) : (⟨(bl s).toArray⟩ : ByteArray) = s := by
  unfold bl
  simp
/-- Applying what Of has made. -/
theorem apl_back {L : List ByteArray} {K : Bk} {k n : Nat} {basis s : ByteArray} (hG : Grown L k K) (hn : 0 < n) (hbs : basis.size ≤ 524288) (hs : s.size ≤ 524288) :
    rightP (K.mark basis) ((K.add basis).mark s) s.size (mkP basis.size n (mI basis n) (tI basis n) s) = true ∧
    ((K.add basis).add s).mark basis = K.mark basis ∧
    aplP ((K.add basis).add s) basis (K.mark basis) ((K.add basis).mark s) s.size (mkP basis.size n (mI basis n) (tI basis n) s) = (s, 0) := by
  obtain ⟨h1, h2⟩ := mkP_law (s := s) hn hbs
  generalize mkP basis.size n (mI basis n) (tI basis n) s = R at *
  have hlen : (ex basis R).length = s.size := by rw [h2, bl_length]
  have hz1 : (K.mark basis).size = 32 := by
    obtain ⟨M, rfl, _, _⟩ := hG
    exact ideal_mark_size M [] basis
  have hz2 : ((K.add basis).mark s).size = 32 := by
    obtain ⟨M, e, _, _⟩ := hG.add basis
    rw [e]
    exact ideal_mark_size M [] s
  have hr : rightP (K.mark basis) ((K.add basis).mark s) s.size R = true := by
    unfold rightP
    rw [if_pos ⟨hz1, hz2, by omega, by omega, by have := len_ex R h1; omega⟩]
    exact rgo_law (basis := basis) R 0 h1 (by omega)
  have hm1 : ((K.add basis).add s).mark basis = K.mark basis := by
    rw [Bk.mark_add (Bk.knows_add K basis), Bk.mark_self]
  refine ⟨hr, hm1, ?_⟩
  have hrun : runP basis R = (bl s, 0) := by
    unfold runP
    rw [run_law R [] h1 (by rw [hlen]; simpa using hs), h2, List.nil_append]
  unfold aplP
  rw [if_pos hr, if_pos hm1, hrun]
  dsimp only
  rw [if_pos rfl, bl_back]
  have hm2 : (((K.add basis).add s).add basis).mark s = (K.add basis).mark s := by
    rw [Bk.mark_add (Bk.knows_add (K.add basis) s), Bk.mark_self]
  rw [if_pos hm2]
set_option maxRecDepth 100000 in
set_option maxHeartbeats 4000000 in
theorem deltaBack_err (basis s : ByteArray) (y : Int) (hbs : basis.size ≤ maxLen) (hs : s.size ≤ maxLen) (hf : fitsB y = false) (w : World) :
    Calls Try.prog 22 #[.string basis, .string s, .int .i64 y] w fun e w' => e = .returned (.bool true) ∧ Mods Nope w w' := by
  have HF := Lib.hid hf
  have HS := Lib.hid hs
  have HBS := Lib.hid hbs
  clear hf hs hbs
  go_enter Try.func22, Try.ntmps22
  go_wp2_with fail
  refine (f47_calls basis 3000 _ HBS.out (by omega)).mono ?_; rintro e w1 ⟨rfl, rfl⟩
  go_wp2_with fail
  refine (f47_calls s 3000 _ HS.out (by omega)).mono ?_; rintro e w1 ⟨rfl, rfl⟩
  generalize cutT s 3000 = s'
  generalize cutT basis 3000 = b'
  go_wp2_with fail
  refine (f29_calls _).mono ?_; rintro e w2 ⟨b, mb, rfl, _, _, _, hm⟩
  go_wp2_with fail
  refine (f60_err _ b' s' y _ HF.out).mono ?_; rintro e w3 ⟨rfl, h3⟩
  have HM3 := Lib.hid (hm.trans h3)
  clear hm h3
  simp only [dltV]
  go_wp2_with fail
  refine (f51_calls _).mono ?_; rintro e w4 ⟨rfl, h4⟩
  have HM4 := Lib.hid ((HM3.out.alloc _).trans h4)
  clear h4
  go_wp2
  go_ret
  exact ⟨rfl, HM4.out⟩
set_option maxRecDepth 100000 in
set_option maxHeartbeats 4000000 in
theorem deltaBack_ok (basis s : ByteArray) (n : Nat) (hbs : basis.size ≤ maxLen) (hs : s.size ≤ maxLen) (h1 : 16 ≤ n) (h2 : n ≤ 1024) (w : World) :
    Calls Try.prog 22 #[.string basis, .string s, .int .i64 n] w fun e w' => e = .returned (.bool true) ∧ Mods Nope w w' := by
  have HS := Lib.hid hs
  have HBS := Lib.hid hbs
  clear hs hbs
  go_enter Try.func22, Try.ntmps22
  go_wp2_with fail
  refine (f47_calls basis 3000 _ HBS.out (by omega)).mono ?_; rintro e w1 ⟨rfl, rfl⟩
  go_wp2_with fail
  refine (f47_calls s 3000 _ HS.out (by omega)).mono ?_; rintro e w1 ⟨rfl, rfl⟩
  have hcz := cutT_size s 3000
  have hcb := cutT_size basis 3000
  generalize cutT s 3000 = s' at hcz ⊢
  generalize cutT basis 3000 = b' at hcb ⊢
  go_wp2_with fail
  refine (f29_calls _).mono ?_; rintro e w2 ⟨b, mb, rfl, hb1, hmb1, hbk, hm⟩
  obtain ⟨L, hL, _, hc⟩ := f60_ideal b mb n b' s' w2 hbk (by omega) (by omega) h1 h2
  obtain ⟨hok, hex⟩ := mkP_law (basis := b') (s := s') (n := n) (by omega) (by omega)
  have HAB := Lib.hid (fun k K (hG : Grown L k K) => apl_back (basis := b') (s := s') (n := n) hG (by omega) (by omega) (by omega))
  have HZ := Lib.hid (sumT_ex _ hok)
  have HZL := Lib.hid (len_ex _ hok)
  have HTX : Hid (∀ x ∈ mkP b'.size n (mI b' n) (tI b' n) s', x.text.size ≤ maxLen) := fun x hx => by have := (okS_bounds (hok x hx)).2.2.2.2; unfold maxLen; omega
  rw [hex, bl_length] at HZ HZL
  clear hok hex
  generalize mkP b'.size n (mI b' n) (tI b' n) s' = R at *
  have HC := Lib.hid hc
  have HM := Lib.hid hm
  have HLB := Lib.hid hL
  clear hc hm hbk hL
  go_wp2_with fail
  refine HC.out.mono ?_; rintro e w3 hP
  obtain ⟨⟨k, K, v, rfl, hkk, hG, hB3, hv⟩, hm3⟩ := hP
  obtain ⟨a1, a2, a3⟩ := HAB.out k K hG
  have HM3 : Hid (Mods Nope w1 w3) := HM.out.then hm3 (fun i hi e => by omega)
  obtain ⟨A, c, rfl, _, _, hrd, hAb⟩ := Rd.of_owns hv
  have hkl : (((K.add b').add s').len) + 2 < 1125899906842624 := by
    have h5 := Bk.len_add (K.add b') s'
    have h6 := Bk.len_add K b'
    obtain ⟨M, rfl, h7, _⟩ := hG
    have h8 : (Bk.ideal M).len = M.length := rfl
    have h9 := HLB.out
    omega
  have HNM : Hid (∀ a, A = some a → ¬ MK ((K.add b').add s') mb a.block) := fun a ha => book_own hB3 hv a.block (by subst ha; rfl)
  have hx32 : (K.mark b').size ≤ maxLen := by
    unfold rightP at a1
    split at a1
    · rename_i hcc; unfold maxLen; omega
    · cases a1
  have hy32 : ((K.add b').mark s').size ≤ maxLen := by
    unfold rightP at a1
    split at a1
    · rename_i hcc; unfold maxLen; omega
    · cases a1
  have H49 := Lib.hid (fun wx (h : IsBook wx b mb ((K.add b').add s')) (hr : Rd wx A (stps R)) => f49_calls b mb ((K.add b').add s') b' (K.mark b') ((K.add b').mark s') s'.size A R.length c R wx h hkl (by omega) rfl hr HNM.out HTX.out (by have := HZL.out; unfold maxLen; omega) hx32 hy32)
  have H67 := Lib.hid (fun wx (hr : Rd wx A (stps R)) => f67_calls (K.mark b') ((K.add b').mark s') s'.size A R.length c R wx rfl hr HTX.out (by have := HZL.out; unfold maxLen; omega) hx32 hy32)
  rw [a1] at H67
  have HB3 := Lib.hid hB3
  have HRD := Lib.hid hrd
  have HA3 := Lib.hid a3
  clear hv hm3 HC hG a1 a2 a3 hx32 hy32 hrd hB3 HAB hAb hkk
  generalize K.mark b' = x at *
  generalize (K.add b').mark s' = y at *
  generalize (K.add b').add s' = K2 at *
  simp only [dltV]
  go_wp2_with fail
  have HAL : Hid (Mods Nope w3 (w3.alloc (.cells #[.string x, .string y, .int .i64 s'.size, .slice A R.length c] 56))) := (Mods.refl _ _).alloc _
  have HROW := Lib.hid (heap_alloc_new w3 (.cells #[.string x, .string y, .int .i64 s'.size, .slice A R.length c] 56))
  generalize hBLK : w3.heap.size = BB at *
  generalize w3.alloc (.cells #[.string x, .string y, .int .i64 s'.size, .slice A R.length c] 56) = w4 at *
  have H49' := H49.out w4 (HB3.out.nope HAL.out) (HRD.out.below HAL.out)
  unfold dltV at H49'
  refine H49'.mono ?_; rintro e w5 ⟨hans, hm5⟩
  rw [HA3.out] at hans
  subst hans
  dsimp only
  have HRD5 : Hid (Rd w5 A (stps R)) := (HRD.out.below HAL.out).mods hm5 (fun a ha => HNM.out a ha)
  have HROW5 := Lib.hid (hm5.row HROW.out (book_row (HB3.out.nope HAL.out) HROW.out))
  have HM5 : Hid (Mods Nope w1 w5) := (HM3.out.trans HAL.out).then hm5 (fun i hi e => by have := MK.eq e; omega)
  clear hm5 H49' H49
  have H67' := H67.out w5 HRD5.out
  unfold dltV at H67'
  have H67h := Lib.hid H67'
  clear H67' H67
  obtain ⟨g0, g1, g2, g3⟩ := cells4 HROW5.out
  have hse : (s'.toList == s'.toList) = true := str_eq rfl
  have hle : decide (((sumT R : Nat) : Int) ≤ (s'.size : Int)) = true := by have := HZ.out; simp; omega
  go_wp2_with fail
  refine H67h.out.mono ?_; rintro e w6 ⟨rfl, h6⟩
  have HRD6 := Lib.hid (HRD5.out.below h6)
  have HROW6 := Lib.hid (h6.row HROW5.out (fun h => h))
  have HM6 := Lib.hid (HM5.out.trans h6)
  clear h6 g0 g1 g2 g3
  obtain ⟨g0, g1, g2, g3⟩ := cells4 HROW6.out
  go_wp2_with fail
  refine (f61_calls A R.length c R _ rfl HRD6.out (by have := HZ.out; omega) (by have := HZL.out; omega)).mono ?_; rintro e w7 ⟨rfl, h7⟩
  have HM7 := Lib.hid (HM6.out.trans h7)
  clear h7
  go_wp2_with fail
  refine (f51_calls _).mono ?_; rintro e w8 ⟨rfl, h8⟩
  have HM8 := Lib.hid (HM7.out.trans h8)
  clear h8
  go_wp2
  go_ret
  exact ⟨rfl, HM8.out⟩
theorem deltaBack_walk (a0 : ByteArray) (a1 : ByteArray) (a2 : Int) (w0 : a0.size ≤ maxLen) (w1 : a1.size ≤ maxLen) (_ : (Lit.int .i64 a2).wf = true) (w : World) :
    Calls Try.prog 22 #[.string a0, .string a1, .int .i64 a2] w fun e w' => e = .returned (.bool true) ∧ Mods Nope w w' := by
  by_cases hf : fitsB a2 = true
  · have h := fitsB_true.1 hf
    obtain ⟨n, rfl⟩ : ∃ n : Nat, a2 = n := ⟨a2.toNat, by omega⟩
    exact deltaBack_ok a0 a1 n w0 w1 (by omega) (by omega) w
  · exact deltaBack_err a0 a1 a2 w0 w1 (by simpa using hf) w
end Go.Proofs.Ytblhbbgkkijkfaa
