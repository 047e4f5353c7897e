/- barquelaw06.DeltaSame, walked. -/
import Derived.Test.YtblhbbgkkijkfaaKA
namespace Go.Proofs.Ytblhbbgkkijkfaa
open Go.RowKit Go.Maps
theorem sumT_self (s : ByteArray) : sumT (selfP s) = 0 := by
  unfold selfP
  split <;> rfl
theorem selfP_len (s : ByteArray) : (selfP s).length ≤ 1 := by
  unfold selfP
  split <;> simp
set_option maxRecDepth 100000 in
set_option maxHeartbeats 4000000 in
theorem deltaSame_err (s : ByteArray) (y : Int) (hs : s.size ≤ maxLen) (hf : fitsB y = false) (w : World) :
    Calls Try.prog 16 #[.string s, .int .i64 y] w fun e w' => e = .returned (.bool true) ∧ Mods Nope w w' := by
  have HF := Lib.hid hf
  have HS := Lib.hid hs
  clear hf hs
  go_enter Try.func16, Try.ntmps16
  go_wp2_with fail
  refine (f47_calls s 3000 _ HS.out (by omega)).mono ?_; rintro e w1 ⟨rfl, rfl⟩
  generalize cutT s 3000 = s'
  go_wp2_with fail
  refine (f29_calls _).mono ?_; rintro e w2 ⟨b, mb, rfl, _, _, _, hm⟩
  go_wp2_with fail
  refine (f60_err _ s' s' y _ HF.out).mono ?_; rintro e w3 ⟨rfl, h3⟩
  have HM3 := Lib.hid (hm.trans h3)
  clear hm h3
  simp only [dltV]
  go_wp2_with fail
  refine (f51_calls _).mono ?_; rintro e w4 ⟨rfl, h4⟩
  have HM4 := Lib.hid ((HM3.out.alloc _).trans h4)
  clear h4
  go_wp2
  go_ret
  exact ⟨rfl, HM4.out⟩
set_option maxRecDepth 100000 in
set_option maxHeartbeats 4000000 in
theorem deltaSame_ok (s : ByteArray) (n : Nat) (hs : s.size ≤ maxLen) (h1 : 16 ≤ n) (h2 : n ≤ 1024) (w : World) :
    Calls Try.prog 16 #[.string s, .int .i64 n] w fun e w' => e = .returned (.bool true) ∧ Mods Nope w w' := by
  have HS := Lib.hid hs
  clear hs
  go_enter Try.func16, Try.ntmps16
  go_wp2_with fail
  refine (f47_calls s 3000 _ HS.out (by omega)).mono ?_; rintro e w1 ⟨rfl, rfl⟩
  have hcz := cutT_size s 3000
  generalize cutT s 3000 = s' at hcz ⊢
  go_wp2_with fail
  refine (f29_calls _).mono ?_; rintro e w2 ⟨b, mb, rfl, hb1, hmb1, hbk, hm⟩
  obtain ⟨L, _, _, hc⟩ := f60_ideal b mb n s' s' w2 hbk (by omega) (by omega) h1 h2
  rw [mkP_self (by omega)] at hc
  have HC := Lib.hid hc
  have HM := Lib.hid hm
  have HZ := Lib.hid (sumT_self s')
  have HZL := Lib.hid (selfP_len s')
  generalize selfP s' = R at *
  clear hc hm hbk
  go_wp2_with fail
  refine HC.out.mono ?_; rintro e w3 hP
  obtain ⟨⟨k, K, v, rfl, _, _, _, hv⟩, hm3⟩ := hP
  have HM3 : Hid (Mods Nope w1 w3) := HM.out.then hm3 (fun i hi e => by omega)
  obtain ⟨A, c, rfl, _, _, hrd, _⟩ := Rd.of_owns hv
  have HR := Lib.hid hrd
  rw [K.mark_self s']
  have hse : ((K.mark s').toList == (K.mark s').toList) = true := str_eq rfl
  generalize K.mark s' = x at *
  simp only [dltV]
  clear hrd hv hm3 HC
  go_wp2_with fail
  refine (f61_calls A R.length c R _ rfl (HR.out.alloc _) (by rw [HZ.out]; omega) (by have := HZL.out; omega)).mono ?_; rintro e w4 ⟨rfl, h4⟩
  rw [HZ.out]
  have HM4 := Lib.hid ((HM3.out.alloc (.cells #[.string x, .string x, .int .i64 s'.size, .slice A R.length c] 56)).trans h4)
  have HROW := Lib.hid (h4.row (heap_alloc_new w3 (.cells #[.string x, .string x, .int .i64 s'.size, .slice A R.length c] 56)) (fun h => h))
  clear h4
  obtain ⟨r0, r1, _, _⟩ := cells4 HROW.out
  go_wp2_with fail
  refine (f51_calls _).mono ?_; rintro e w5 ⟨rfl, h5⟩
  have HM5 := Lib.hid (HM4.out.trans h5)
  clear h5
  go_wp2
  go_ret
  exact ⟨rfl, HM5.out⟩
theorem deltaSame_walk (a0 : ByteArray) (a1 : Int) (w0 : a0.size ≤ maxLen) (_ : (Lit.int .i64 a1).wf = true) (w : World) :
    Calls Try.prog 16 #[.string a0, .int .i64 a1] w fun e w' => e = .returned (.bool true) ∧ Mods Nope w w' := by
  by_cases hf : fitsB a1 = true
  · have h := fitsB_true.1 hf
    obtain ⟨n, rfl⟩ : ∃ n : Nat, a1 = n := ⟨a1.toNat, by omega⟩
    exact deltaSame_ok a0 n w0 (by omega) (by omega) w
  · exact deltaSame_err a0 a1 w0 (by simpa using hf) w
end Go.Proofs.Ytblhbbgkkijkfaa
