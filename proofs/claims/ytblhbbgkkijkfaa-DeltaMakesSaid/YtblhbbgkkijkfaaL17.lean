/- barquelaw06.DeltaMakes, walked. -/
import Derived.Test.YtblhbbgkkijkfaaX4
import Derived.Test.YtblhbbgkkijkfaaU4
import Derived.Test.YtblhbbgkkijkfaaQP
namespace Go.Proofs.Ytblhbbgkkijkfaa
open Go.RowKit Go.Maps
/-- The document's Of under a fresh ideal book. -/
theorem f62_ideal (base b n : Nat) (basis s : ByteArray) (w : World) (hb : IsRef w base b (.slice none 0 0) (.ideal [])) (hbs : basis.size ≤ 524288) (hs : s.size ≤ 524288) (h1 : 16 ≤ n) (h2 : n ≤ 1024) :
    ∃ L, L.length ≤ 524288 ∧ Calls Try.prog 62 #[.pointer (some ⟨b, 0, none⟩), .string basis, .string s, .int .i64 n] w (ROfPost b (.slice none 0 0) (Grown L) (mkP basis.size n (mI basis n) (tI basis n) s) basis s w) := by
  obtain ⟨L, hL, hsm, hl, hk, hok⟩ := sign_lists basis n hbs h1 h2
  refine ⟨L, hl, ?_⟩
  refine f62_ok base b 0 n (.slice none 0 0) (.ideal []) (Grown L) (mI basis n) (tI basis n) basis s w hb (by simp [Bk.len]) hbs hs h1 h2 (fun l t => ideal_mark_size [] l t) ?_ ?_ ?_
  · rw [hL, hsm]
    exact ansIdeal (by omega) hl hk
  · rw [hL]
    exact Grown.start L
  · rintro k K ⟨M, rfl, h3, _⟩ hk
    show M.length + 2 < 4398046511104
    omega
set_option maxRecDepth 100000 in
set_option maxHeartbeats 4000000 in
theorem deltaMakes_err (basis s : ByteArray) (y : Int) (hbs : basis.size ≤ maxLen) (hs : s.size ≤ maxLen) (hf : fitsB y = false) (w : World) :
    Calls Try.prog 17 #[.string basis, .string s, .int .i64 y] w fun e w' => e = .returned (.bool true) ∧ Mods Nope w w' := by
  have HF := Lib.hid hf
  have HS := Lib.hid hs
  have HBS := Lib.hid hbs
  clear hf hs hbs
  go_enter Try.func17, Try.ntmps17
  go_wp2_with fail
  refine (f47_calls basis 1500 _ HBS.out (by omega)).mono ?_; rintro e w1 ⟨rfl, rfl⟩
  go_wp2_with fail
  refine (f47_calls s 1500 _ HS.out (by omega)).mono ?_; rintro e w1 ⟨rfl, rfl⟩
  generalize cutT s 1500 = s'
  generalize cutT basis 1500 = b'
  go_wp2_with fail
  refine (f29_calls _).mono ?_; rintro e w2 ⟨b, mb, rfl, _, _, _, hm⟩
  go_wp2_with fail
  refine (f60_err _ b' s' y _ HF.out).mono ?_; rintro e w3 ⟨rfl, h3⟩
  have HM3 := Lib.hid (hm.trans h3)
  clear hm h3
  simp only [dltV]
  go_wp2_with fail
  refine (f62_err _ b' s' y _ HF.out).mono ?_; rintro e w4 ⟨rfl, h4⟩
  have HM4 := Lib.hid (((HM3.out.alloc (.cells #[.string ⟨#[]⟩, .string ⟨#[]⟩, .int .i64 0, .slice none 0 0] 56)).alloc (.cells #[.bool false, .slice none 0 0] 38)).trans h4)
  have HROW := Lib.hid (h4.row (row_alloc (heap_alloc_new w3 (.cells #[.string ⟨#[]⟩, .string ⟨#[]⟩, .int .i64 0, .slice none 0 0] 56)) (.cells #[.bool false, .slice none 0 0] 38)) (fun h => h))
  clear h4
  simp only [dltV]
  obtain ⟨r0, r1, r2, r3⟩ := cells4 HROW.out
  have hlt := row_lt HROW.out
  go_wp2_with fail
  refine (f63_calls none none 0 0 0 0 [] [] _ rfl rfl (Rd.nil _ _) (Rd.nil _ _) (by simp) (by simp)).mono ?_; rintro e w5 ⟨rfl, h5⟩
  have HM5 := Lib.hid ((HM4.out.alloc (.cells #[.string ⟨#[]⟩, .string ⟨#[]⟩, .int .i64 0, .slice none 0 0] 56)).trans h5)
  have HROW5 := Lib.hid (h5.row (row_alloc HROW.out (.cells #[.string ⟨#[]⟩, .string ⟨#[]⟩, .int .i64 0, .slice none 0 0] 56)) (fun h => h))
  have HROW6 := Lib.hid (h5.row (heap_alloc_new w4 (.cells #[.string ⟨#[]⟩, .string ⟨#[]⟩, .int .i64 0, .slice none 0 0] 56)) (fun h => h))
  clear h5 r0 r1 r2 r3
  obtain ⟨r0, r1, r2, r3⟩ := cells4 HROW5.out
  obtain ⟨q0, q1, q2, q3⟩ := cells4 HROW6.out
  have he : ((⟨#[]⟩ : ByteArray).toList == (⟨#[]⟩ : ByteArray).toList) = true := str_eq rfl
  have hdd : decide (([] : List Stp) = []) = true := by simp
  rw [hdd]
  go_wp2_with fail
  refine (f51_calls _).mono ?_; rintro e w6 ⟨rfl, h6⟩
  have HM6 := Lib.hid (HM5.out.trans h6)
  clear h6
  go_wp2
  go_ret
  exact ⟨rfl, HM6.out⟩
set_option maxRecDepth 100000 in
set_option maxHeartbeats 4000000 in
theorem deltaMakes_ok (basis s : ByteArray) (n : Nat) (hbs : basis.size ≤ maxLen) (hs : s.size ≤ maxLen) (h1 : 16 ≤ n) (h2 : n ≤ 1024) (w : World) :
    Calls Try.prog 17 #[.string basis, .string s, .int .i64 n] w fun e w' => e = .returned (.bool true) ∧ Mods Nope w w' := by
  have HS := Lib.hid hs
  have HBS := Lib.hid hbs
  clear hs hbs
  go_enter Try.func17, Try.ntmps17
  go_wp2_with fail
  refine (f47_calls basis 1500 _ HBS.out (by omega)).mono ?_; rintro e w1 ⟨rfl, rfl⟩
  go_wp2_with fail
  refine (f47_calls s 1500 _ HS.out (by omega)).mono ?_; rintro e w1 ⟨rfl, rfl⟩
  have hcz := cutT_size s 1500
  have hcb := cutT_size basis 1500
  generalize cutT s 1500 = s' at hcz ⊢
  generalize cutT basis 1500 = b' at hcb ⊢
  go_wp2_with fail
  refine (f29_calls _).mono ?_; rintro e w2 ⟨b, mb, rfl, hb1, hmb1, hbk, hm⟩
  obtain ⟨L, hL, _, hc⟩ := f60_ideal b mb n b' s' w2 hbk (by omega) (by omega) h1 h2
  have HCR := Lib.hid (fun base bb wx (h : IsRef wx base bb (.slice none 0 0) (.ideal [])) => f62_ideal base bb n b' s' wx h (by omega) (by omega) h1 h2)
  obtain ⟨hok, hex⟩ := mkP_law (basis := b') (s := s') (n := n) (by omega) (by omega)
  have HZL := Lib.hid (len_ex _ hok)
  rw [hex, bl_length] at HZL
  clear hok hex
  generalize mkP b'.size n (mI b' n) (tI b' n) s' = R at *
  have HC := Lib.hid hc
  have HM := Lib.hid hm
  have HLB := Lib.hid hL
  clear hc hm hbk hL
  go_wp2_with fail
  refine HC.out.mono ?_; rintro e w3 hP
  obtain ⟨⟨k, K, v, rfl, hkk, hG, hB3, hv⟩, hm3⟩ := hP
  have HK2 : Hid (∃ M2, (K.add b').add s' = .ideal M2) := by
    obtain ⟨M, rfl, _, _⟩ := hG
    exact ⟨_, rfl⟩
  obtain ⟨M2, hM2⟩ := HK2.out
  have hk1 : ((K.add b').add s').knows b' := Bk.knows_mono (Bk.knows_add K b') s'
  have hk2 : ((K.add b').add s').knows s' := Bk.knows_add (K.add b') s'
  have he1 : K.mark b' = ((K.add b').add s').mark b' := by rw [Bk.mark_add (Bk.knows_add K b'), Bk.mark_self]
  have he2 : (K.add b').mark s' = ((K.add b').add s').mark s' := by rw [Bk.mark_self]
  rw [hM2] at hk1 hk2 he1 he2 hB3
  have HM3 : Hid (Mods Nope w1 w3) := HM.out.then hm3 (fun i hi e => by omega)
  have HV := Lib.hid hv
  obtain ⟨A, c, rfl, _, _, hrd, _⟩ := Rd.of_owns hv
  have HRD := Lib.hid hrd
  have HB3 := Lib.hid hB3
  have HI1 := Lib.hid (fun wx (h : IsBook wx b mb (.ideal M2)) => f34_ideal b mb M2 b' (K.mark b') wx h (by unfold maxLen; omega) hk1 he1)
  have HI2 := Lib.hid (fun wx (h : IsBook wx b mb (.ideal M2)) => f34_ideal b mb M2 s' ((K.add b').mark s') wx h (by unfold maxLen; omega) hk2 he2)
  clear hv hm3 HC hG hrd hB3 hkk hk1 hk2 he1 he2 hM2 HK2
  generalize K.mark b' = x at *
  generalize (K.add b').mark s' = y at *
  simp only [dltV]
  go_wp2_with fail
  have HROW := Lib.hid (row_alloc (heap_alloc_new w3 (.cells #[.string x, .string y, .int .i64 s'.size, .slice A R.length c] 56)) (.cells #[.bool false, .slice none 0 0] 38))
  have HBK : Hid ((((w3.alloc (.cells #[.string x, .string y, .int .i64 s'.size, .slice A R.length c] 56)).alloc (.cells #[.bool false, .slice none 0 0] 38))).heap[w3.heap.size + 1]? = some (.cells #[.bool false, .slice none 0 0] 38 (0, 0))) := by
    have hr := heap_alloc_new (w3.alloc (.cells #[.string x, .string y, .int .i64 s'.size, .slice A R.length c] 56)) (.cells #[.bool false, .slice none 0 0] 38)
    rw [show (w3.alloc (.cells #[.string x, .string y, .int .i64 s'.size, .slice A R.length c] 56)).heap.size = w3.heap.size + 1 by simp] at hr
    exact hr
  have HAL : Hid (Mods Nope w3 ((w3.alloc (.cells #[.string x, .string y, .int .i64 s'.size, .slice A R.length c] 56)).alloc (.cells #[.bool false, .slice none 0 0] 38))) := ((Mods.refl _ _).alloc _).alloc _
  have hsz4 : ((w3.alloc (.cells #[.string x, .string y, .int .i64 s'.size, .slice A R.length c] 56)).alloc (.cells #[.bool false, .slice none 0 0] 38)).heap.size = w3.heap.size + 2 := by simp
  generalize (w3.alloc (.cells #[.string x, .string y, .int .i64 s'.size, .slice A R.length c] 56)).alloc (.cells #[.bool false, .slice none 0 0] 38) = w4 at *
  obtain ⟨L2, _, hc2⟩ := HCR.out (w3.heap.size + 1) (w3.heap.size + 1) w4 ⟨Nat.le_refl _, HBK.out, World.ownsRow_nil _ _ _ _⟩
  have HC2 := Lib.hid hc2
  clear hc2 HCR
  refine HC2.out.mono ?_; rintro e w5 hP
  obtain ⟨⟨k2, K2, A2, c2, rfl, _, _, ho2⟩, hm5⟩ := hP
  have HN5 : Hid (Mods Nope w3 w5) := HAL.out.then hm5 (fun i hi e => by
    rcases e with e | e
    · omega
    · simp [Value.ownBlock] at e)
  have HROW5 := Lib.hid (hm5.row HROW.out (fun e => by
    rcases e with e | e
    · omega
    · simp [Value.ownBlock] at e))
  obtain ⟨_, _, e2, _, _, hrd2, _⟩ := Rd.of_owns ho2
  injection e2 with e2 _ e3
  subst e2
  subst e3
  have HRD2 := Lib.hid hrd2
  clear hm5 ho2 hrd2 HC2
  simp only [dltV]
  generalize K2.mark b' = x2 at *
  generalize (K2.add b').mark s' = y2 at *
  obtain ⟨r0, r1, r2, r3⟩ := cells4 HROW5.out
  have hlt := row_lt HROW5.out
  have hR := HZL.out
  go_wp2_with fail
  refine (f63_calls A A2 R.length c R.length c2 R R _ rfl rfl ((HRD.out.below HN5.out).alloc _) (HRD2.out.alloc _) (by omega) (by omega)).mono ?_; rintro e w6 ⟨rfl, h6⟩
  have HN6 := Lib.hid ((HN5.out.alloc (.cells #[.string x2, .string y2, .int .i64 s'.size, .slice A2 R.length c2] 56)).trans h6)
  have HROW6 := Lib.hid (h6.row (row_alloc HROW5.out (.cells #[.string x2, .string y2, .int .i64 s'.size, .slice A2 R.length c2] 56)) (fun h => h))
  have HROW7 := Lib.hid (h6.row (heap_alloc_new w5 (.cells #[.string x2, .string y2, .int .i64 s'.size, .slice A2 R.length c2] 56)) (fun h => h))
  clear h6 r0 r1 r2 r3
  obtain ⟨r0, r1, r2, r3⟩ := cells4 HROW6.out
  obtain ⟨q0, q1, q2, q3⟩ := cells4 HROW7.out
  have hdd : decide (R = R) = true := by simp
  rw [hdd]
  have hss : ((s'.size : Int) != (s'.size : Int)) = false := by simp
  go_wp2_with fail
  refine (HI1.out _ (HB3.out.nope HN6.out)).mono ?_; rintro e w7 ⟨rfl, h7⟩
  have HN7 := Lib.hid (HN6.out.trans h7)
  have HROW8 := Lib.hid (h7.row HROW6.out (fun h => h))
  clear h7 r0 r1 r2 r3 q0 q1 q2 q3
  obtain ⟨r0, r1, r2, r3⟩ := cells4 HROW8.out
  go_wp2_with fail
  refine (HI2.out _ (HB3.out.nope HN7.out)).mono ?_; rintro e w8 ⟨rfl, h8⟩
  have HN8 := Lib.hid (HM3.out.trans (HN7.out.trans h8))
  clear h8
  go_wp2_with fail
  refine (f51_calls _).mono ?_; rintro e w9 ⟨rfl, h9⟩
  have HM9 := Lib.hid (HN8.out.trans h9)
  clear h9
  go_wp2
  go_ret
  exact ⟨rfl, HM9.out⟩
theorem deltaMakes_walk (a0 : ByteArray) (a1 : ByteArray) (a2 : Int) (w0 : a0.size ≤ maxLen) (w1 : a1.size ≤ maxLen) (_ : (Lit.int .i64 a2).wf = true) (w : World) :
    Calls Try.prog 17 #[.string a0, .string a1, .int .i64 a2] w fun e w' => e = .returned (.bool true) ∧ Mods Nope w w' := by
  by_cases hf : fitsB a2 = true
  · have h := fitsB_true.1 hf
    obtain ⟨n, rfl⟩ : ∃ n : Nat, a2 = n := ⟨a2.toNat, by omega⟩
    exact deltaMakes_ok a0 a1 n w0 w1 (by omega) (by omega) w
  · exact deltaMakes_err a0 a1 a2 w0 w1 (by simpa using hf) w
end Go.Proofs.Ytblhbbgkkijkfaa
