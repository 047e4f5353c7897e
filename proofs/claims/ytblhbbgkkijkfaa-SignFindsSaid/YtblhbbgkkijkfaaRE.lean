/- code.Reader: Byte at whatever state, Num, Count, Raw, End. -/
import Derived.Test.YtblhbbgkkijkfaaRD
import Derived.Test.YtblhbbgkkijkfaaRP
import Derived.Laws.BitsLemmas
namespace Go.Proofs.Ytblhbbgkkijkfaa
open Go.RowKit Go.Maps
theorem ofInt_64 (a : Nat) (ha : a < 9223372036854775808) : (BitVec.ofInt 64 (a : Int)).toNat = a := by
  rw [BitVec.ofInt_natCast, BitVec.toNat_ofNat]; exact Nat.mod_eq_of_lt (by omega)
theorem or_64 (a b : Nat) (ha : a < 9223372036854775808) (hb : b < 9223372036854775808) : bits .or .i64 (a : Int) (b : Int) = ((a ||| b : Nat) : Int) := by
  have hx : a ||| b < 2 ^ 63 := Nat.or_lt_two_pow (by omega) (by omega)
  show IntKind.i64.wrap ((BitVec.ofInt 64 (a : Int) ||| BitVec.ofInt 64 (b : Int)).toNat : Int) = _
  rw [BitVec.toNat_or, ofInt_64 a ha, ofInt_64 b hb, IntKind.wrap_i64]
  omega
theorem and127 (c : Nat) (hc : c < 256) : bits .and .i64 (c : Int) 127 = ((c % 128 : Nat) : Int) := by
  have hw : ∀ n : Int, 0 ≤ n → n < 2 ^ 62 → IntKind.i64.wrap n = n := by intro n h0 h1; rw [IntKind.wrap_i64]; omega
  have h := bits_mask .i64 62 (by decide) hw 7 (by decide) (c : Int) (by omega) (by omega)
  rw [show ((2 : Int) ^ 7 - 1) = 127 by decide] at h
  rw [h]
  omega
theorem pow7 (k : Nat) : (2 : Nat) ^ (7 * k) = 128 ^ k := by rw [Nat.pow_mul]
theorem numstep (c k acc : Nat) (hc : c < 256) (hk : k ≤ 8) (h8 : k = 8 → c ≤ 63) (ha : acc < 128 ^ k) :
    bits .or .i64 (acc : Int) (wrap64 (bits .and .i64 (c : Int) 127 * 2 ^ (7 * k))) = ((acc + c % 128 * 128 ^ k : Nat) : Int) := by
  have hle : 128 ^ k ≤ 128 ^ 8 := Nat.pow_le_pow_right (by omega) hk
  have hb : c % 128 * 128 ^ k < 2 ^ 62 := by
    by_cases e : k = 8
    · have := h8 e
      subst e
      have h3 : c % 128 * 128 ^ 8 ≤ 63 * 128 ^ 8 := Nat.mul_le_mul_right _ (by omega)
      omega
    · have h7 : 128 ^ k ≤ 128 ^ 7 := Nat.pow_le_pow_right (by omega) (by omega)
      have h3 : c % 128 * 128 ^ k ≤ 127 * 128 ^ 7 := Nat.mul_le_mul (by omega) h7
      omega
  have e1 : (bits .and .i64 (c : Int) 127 * 2 ^ (7 * k)) = ((c % 128 * 128 ^ k : Nat) : Int) := by
    rw [and127 c hc, ← pow7 k]; push_cast; rfl
  rw [e1]
  have e2 : wrap64 ((c % 128 * 128 ^ k : Nat) : Int) = ((c % 128 * 128 ^ k : Nat) : Int) := by unfold wrap64; omega
  rw [e2, or_64 _ _ (by omega) (by omega)]
  congr 1
  have h4 := Nat.shiftLeft_add_eq_or_of_lt (show acc < 2 ^ (7 * k) by rw [pow7]; exact ha) (c % 128)
  rw [Nat.shiftLeft_eq, pow7] at h4
  rw [Nat.or_comm, ← h4]
  omega
set_option maxRecDepth 100000 in
set_option maxHeartbeats 1000000 in
theorem f90_at (r : Nat) (s : ByteArray) (a : Nat) (X : Nat × Nat × Int) (w : World) (hr : IsRdr w r s a 0) (ha : a ≤ s.size) (hs : s.size ≤ maxLen) (HX : Hid (X = rnum s 9 0 a 0)) :
    Calls Try.prog 90 #[.pointer (some ⟨r, 0, none⟩)] w fun e w' => e = .returned (.int .i64 (X.1 : Nat)) ∧ IsRdr w' r s X.2.1 X.2.2 ∧ Mods (fun j => j = r) w w' := by
  have HS := Lib.hid hs
  have HR := Lib.hid hr
  clear hs hr
  go_enter Try.func90, Try.ntmps90
  go_wp2_with fail
  go_loopg [3, 4] 9 (fun gk n i wr => ∃ k A acc : Nat, k ≤ 8 ∧ gk = 9 - k ∧ i = .int .i64 (k : Nat) ∧ n = .int .i64 (acc : Nat) ∧ acc < 128 ^ k ∧ A ≤ s.size ∧ IsRdr wr r s A 0 ∧ X = rnum s (9 - k) k A acc ∧ Mods (fun j => j = r) w wr)
  case atStart => exact ⟨0, a, 0, by omega, rfl, rfl, rfl, by decide, ha, HR.out, HX.out, Mods.refl _ _⟩
  case round =>
    obtain ⟨k, A, acc, hk, rfl, rfl, rfl, hacc, hA, hR, hE, hM⟩ := hrel
    have HE := Lib.hid hE
    have HM := Lib.hid hM
    have HRR := Lib.hid hR
    have HACC := Lib.hid hacc
    clear hE hM hR hacc
    by_cases hlt : A < s.size
    · go_wp2_with fail
      refine (f132_ok r s A _ HRR.out HS.out hlt).mono ?_; rintro e w1 ⟨rfl, hr1, hm1⟩
      have HR1 := Lib.hid hr1
      have HM1 := Lib.hid (HM.out.trans hm1)
      clear hr1 hm1
      go_wp2_with fail
      refine (f133_calls r s (A + 1) 0 _ HR1.out).mono ?_; rintro e w2 ⟨rfl, rfl⟩
      have hcb : (s[A]).toNat < 256 := (s[A]).toNat_lt
      have HLT := Lib.hid hlt
      by_cases hbad : (k = 8 ∧ 63 < (s[A]).toNat) ∨ (0 < k ∧ (s[A]).toNat = 0)
      · have HV : Hid (X = (0, A + 1, 5)) := by
          unfold Hid; rw [HE.out, show 9 - k = (8 - k) + 1 by omega]; exact rnum_form hlt hbad
        generalize (s[A]).toNat = c at *
        clear HE
        by_cases q8 : k = 8
        · subst q8
          by_cases qc : 63 < c
          · clear hbad
            go_wp2_with fail
            refine (f134_calls r s (A + 1) 0 5 _ HR1.out).mono ?_; rintro e w3 ⟨rfl, hr3, hm3⟩
            have HR3 := Lib.hid hr3
            have HM3 := Lib.hid (HM1.out.trans hm3)
            clear hr3 hm3
            go_wp2
            go_ret
            obtain rfl := HV.out; exact ⟨rfl, by simpa using HR3.out, HM3.out⟩
          · have hc0 : c = 0 := by omega
            subst hc0
            clear hbad
            go_wp2_with fail
            refine (f134_calls r s (A + 1) 0 5 _ HR1.out).mono ?_; rintro e w3 ⟨rfl, hr3, hm3⟩
            have HR3 := Lib.hid hr3
            have HM3 := Lib.hid (HM1.out.trans hm3)
            clear hr3 hm3
            go_wp2
            go_ret
            obtain rfl := HV.out; exact ⟨rfl, by simpa using HR3.out, HM3.out⟩
        · have hc0 : c = 0 := by omega
          have hkp : 0 < k := by omega
          have hk8 : ((k : Int) == 8) = false := by simp; omega
          subst hc0
          clear hbad q8
          go_wp2_with fail
          refine (f134_calls r s (A + 1) 0 5 _ HR1.out).mono ?_; rintro e w3 ⟨rfl, hr3, hm3⟩
          have HR3 := Lib.hid hr3
          have HM3 := Lib.hid (HM1.out.trans hm3)
          clear hr3 hm3
          go_wp2
          go_ret
          obtain rfl := HV.out; exact ⟨rfl, by simpa using HR3.out, HM3.out⟩
      · have HN := Lib.hid (numstep (s[A]).toNat k acc hcb hk (by omega) HACC.out)
        have h8 : k = 8 → (s[A]).toNat ≤ 63 := by omega
        by_cases hl : (s[A]).toNat < 128
        · have HV : Hid (X = (acc + (s[A]).toNat % 128 * 128 ^ k, A + 1, 0)) := by
            unfold Hid; rw [HE.out, show 9 - k = (8 - k) + 1 by omega]; exact rnum_last hlt hbad hl
          generalize (s[A]).toNat = c at *
          clear HE
          by_cases q8 : k = 8
          · subst q8
            have qc := h8 rfl
            have hc0 : ((c : Int) == 0) = false := by simp; omega
            clear hbad h8
            go_wp2
            go_ret
            obtain rfl := HV.out; exact ⟨ret_int HN.out, HR1.out, HM1.out⟩
          · have hk8 : ((k : Int) == 8) = false := by simp; omega
            clear h8
            by_cases hkp : 0 < k
            · have hc0 : ((c : Int) == 0) = false := by simp; omega
              clear hbad q8
              go_wp2
              go_ret
              obtain rfl := HV.out; exact ⟨ret_int HN.out, HR1.out, HM1.out⟩
            · clear hbad q8
              go_wp2
              go_ret
              obtain rfl := HV.out; exact ⟨ret_int HN.out, HR1.out, HM1.out⟩
        · have hk7 : k < 8 := by omega
          have HV : Hid (X = rnum s (9 - (k + 1)) (k + 1) (A + 1) (acc + (s[A]).toNat % 128 * 128 ^ k)) := by
            unfold Hid; rw [HE.out, show 9 - k = (8 - k) + 1 by omega, show 9 - (k + 1) = 8 - k by omega]; exact rnum_more hlt hbad hl
          have HB : Hid (acc + (s[A]).toNat % 128 * 128 ^ k < 128 ^ (k + 1)) := by
            unfold Hid
            have := HACC.out
            have hm : (s[A]).toNat % 128 * 128 ^ k ≤ 127 * 128 ^ k := Nat.mul_le_mul_right _ (by omega)
            rw [pow128]
            omega
          generalize (s[A]).toNat = c at *
          have hk8 : ((k : Int) == 8) = false := by simp; omega
          have hc0 : ((c : Int) == 0) = false := by simp; omega
          clear HE hbad h8
          by_cases hkp : 0 < k
          · go_wp2_with fail
            go_roundg (9 - (k + 1))
            case measure => omega
            case rel => exact ⟨k + 1, A + 1, _, by omega, rfl, by go_num, val_int HN.out, HB.out, HLT.out, HR1.out, HV.out, HM1.out⟩
          · go_wp2_with fail
            go_roundg (9 - (k + 1))
            case measure => omega
            case rel => exact ⟨k + 1, A + 1, _, by omega, rfl, by go_num, val_int HN.out, HB.out, HLT.out, HR1.out, HV.out, HM1.out⟩
    · obtain rfl : A = s.size := by omega
      have HV : Hid (X = (0, s.size, 3)) := by
        unfold Hid; rw [HE.out, show 9 - k = (8 - k) + 1 by omega]; exact rnum_end hlt
      clear HE
      go_wp2_with fail
      refine (f132_end r s _ HRR.out HS.out).mono ?_; rintro e w1 ⟨rfl, hr1, hm1⟩
      have HR1 := Lib.hid hr1
      have HM1 := Lib.hid (HM.out.trans hm1)
      clear hr1 hm1
      go_wp2_with fail
      refine (f133_calls r s s.size 3 _ HR1.out).mono ?_; rintro e w2 ⟨rfl, rfl⟩
      go_wp2
      go_ret
      obtain rfl := HV.out; exact ⟨rfl, HR1.out, HM1.out⟩
end Go.Proofs.Ytblhbbgkkijkfaa
