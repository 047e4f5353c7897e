/- barqueref01.Reader: Byte, Num, Count, Raw, End at whatever state. -/
import Derived.Test.YtblhbbgkkijkfaaRF
namespace Go.Proofs.Ytblhbbgkkijkfaa
open Go.RowKit Go.Maps
/-- The document's reader. -/
def IsRrd (w : World) (r : Nat) (s : ByteArray) (at_ : Nat) (e : Int) : Prop := w.heap[r]? = some (.cells #[.string s, .int .i64 at_, .int .i64 e] 123 (0, 0))
theorem IsRrd.cells {w : World} {r : Nat} {s : ByteArray} {a : Nat} {e : Int} (h : IsRrd w r s a e) :
    w.cell? ⟨r, 0, none⟩ = some (.string s) ∧ w.cell? ⟨r, 1, none⟩ = some (.int .i64 a) ∧ w.cell? ⟨r, 2, none⟩ = some (.int .i64 e) ∧ (∀ j, w.frozen? ⟨r, j, none⟩ = false) :=
  ⟨by rw [row_cell h]; rfl, by rw [row_cell h]; rfl, by rw [row_cell h]; rfl, fun j => row_frozen h j⟩
theorem IsRrd.mods {M : Nat → Prop} {w w' : World} {r : Nat} {s : ByteArray} {a : Nat} {e : Int} (h : IsRrd w r s a e) (hm : Mods M w w') (h1 : ¬ M r) : IsRrd w' r s a e := hm.row h h1
theorem IsRrd.err {w : World} {r : Nat} {s : ByteArray} {a : Nat} {e : Int} (h : IsRrd w r s a e) (k : Int) : IsRrd (w.setCell ⟨r, 2, none⟩ (.int .i64 k)) r s a k := by unfold IsRrd; rw [row_set h]; rfl
theorem IsRrd.go {w : World} {r : Nat} {s : ByteArray} {a : Nat} {e : Int} (h : IsRrd w r s a e) (n : Nat) : IsRrd (w.setCell ⟨r, 1, none⟩ (.int .i64 ((a : Int) + n))) r s (a + n) e := by unfold IsRrd; rw [row_set h]; rfl
theorem f136_off (r : Nat) (s : ByteArray) (a : Nat) (e0 : Int) (w : World) (hr : IsRrd w r s a e0) (he : e0 ≠ 0) :
    Calls Try.prog 136 #[.pointer (some ⟨r, 0, none⟩)] w fun e w' => e = .returned (.int .i64 0) ∧ w' = w := by
  obtain ⟨c0, c1, c2, cf⟩ := hr.cells
  have hne : (e0 != 0) = true := by simpa using he
  clear hr he
  go_enter Try.func136, Try.ntmps136
  go_wp2
  go_ret
  exact ⟨rfl, rfl⟩
theorem f136_end (r : Nat) (s : ByteArray) (w : World) (hr : IsRrd w r s s.size 0) :
    Calls Try.prog 136 #[.pointer (some ⟨r, 0, none⟩)] w fun e w' => e = .returned (.int .i64 0) ∧ IsRrd w' r s s.size 3 ∧ Mods (fun j => j = r) w w' := by
  obtain ⟨c0, c1, c2, cf⟩ := hr.cells
  have HR := Lib.hid hr
  clear hr
  go_enter Try.func136, Try.ntmps136
  go_upto_region 3 with fail
  go_quiet (fail)
  go_wp2
  go_ret
  exact ⟨rfl, HR.out.err (w := w.drewN nq) 3, ((Mods.refl (fun j => j = r) w).drewN nq).setCell ⟨r, 2, none⟩ (fun _ => rfl) _⟩
theorem f136_ok (r : Nat) (s : ByteArray) (a : Nat) (w : World) (hr : IsRrd w r s a 0) (hs : s.size ≤ maxLen) (ha : a < s.size) :
    Calls Try.prog 136 #[.pointer (some ⟨r, 0, none⟩)] w fun e w' => e = .returned (.int .i64 (s[a].toNat : Int)) ∧ IsRrd w' r s (a + 1) 0 ∧ Mods (fun j => j = r) w w' := by
  obtain ⟨c0, c1, c2, cf⟩ := hr.cells
  have HR := Lib.hid hr
  have hs' : s.size ≤ 9223372036854775807 := hs
  clear hr hs
  go_enter Try.func136, Try.ntmps136
  go_upto_region 3 with fail
  go_quiet (fail)
  go_upto_region 7 with fail
  have HR1 : Hid (IsRrd ((w.drewN nq).setCell ⟨r, 1, none⟩ (.int .i64 ((a : Int) + 1))) r s (a + 1) 0) := HR.out.go (w := w.drewN nq) 1
  have HM1 : Hid (Mods (fun j => j = r) w ((w.drewN nq).setCell ⟨r, 1, none⟩ (.int .i64 ((a : Int) + 1)))) := ((Mods.refl (fun j => j = r) w).drewN nq).setCell ⟨r, 1, none⟩ (fun _ => rfl) _
  revert HR1 HM1
  generalize (w.drewN nq).setCell ⟨r, 1, none⟩ (.int .i64 ((a : Int) + 1)) = w2
  intro HR1 HM1
  have d0 : w2.cell? ⟨r, 0, none⟩ = some (.string s) := HR1.out.cells.1
  have d1 : w2.cell? ⟨r, 1, none⟩ = some (.int .i64 ((a : Int) + 1)) := HR1.out.cells.2.1
  have hai : (a : Int) < (s.size : Int) := by omega
  clear c0 c1 c2 cf
  go_quiet (fail)
  go_wp2
  go_ret
  exact ⟨ret_int (by have h := (s[a]).toNat_lt; unfold wrap64; omega), HR1.out, HM1.out.drewN _⟩
theorem numadd (c k acc : Nat) (hc : c < 256) (hk : k ≤ 8) (h8 : k = 8 → c ≤ 63) (ha : acc < 128 ^ k) :
    (acc : Int) + (c : Int) % 128 * ((128 ^ k : Nat) : Int) = ((acc + c % 128 * 128 ^ k : Nat) : Int) ∧ 0 ≤ (c : Int) % 128 * ((128 ^ k : Nat) : Int) ∧ (c : Int) % 128 * ((128 ^ k : Nat) : Int) ≤ 4611686018427387904 := by
  have e : (c : Int) % 128 * ((128 ^ k : Nat) : Int) = ((c % 128 * 128 ^ k : Nat) : Int) := by push_cast; rfl
  rw [e]
  have hb : c % 128 * 128 ^ k < 2 ^ 62 := by
    by_cases e : k = 8
    · have := h8 e
      subst e
      have h3 : c % 128 * 128 ^ 8 ≤ 63 * 128 ^ 8 := Nat.mul_le_mul_right _ (by omega)
      omega
    · have h7 : 128 ^ k ≤ 128 ^ 7 := Nat.pow_le_pow_right (by omega) (by omega)
      have h3 : c % 128 * 128 ^ k ≤ 127 * 128 ^ 7 := Nat.mul_le_mul (by omega) h7
      omega
  refine ⟨by omega, by omega, by omega⟩
set_option maxRecDepth 100000 in
set_option maxHeartbeats 1000000 in
theorem f95_at (r : Nat) (s : ByteArray) (a : Nat) (X : Nat × Nat × Int) (w : World) (hr : IsRrd w r s a 0) (ha : a ≤ s.size) (hs : s.size ≤ maxLen) (HX : Hid (X = rnum s 9 0 a 0)) :
    Calls Try.prog 95 #[.pointer (some ⟨r, 0, none⟩)] w fun e w' => e = .returned (.int .i64 (X.1 : Nat)) ∧ IsRrd w' r s X.2.1 X.2.2 ∧ Mods (fun j => j = r) w w' := by
  have HS := Lib.hid hs
  have HR := Lib.hid hr
  clear hs hr
  go_enter Try.func95, Try.ntmps95
  go_wp2_with fail
  go_loopg [3, 4, 5] 9 (fun gk n u i wr => ∃ k A acc p : Nat, k ≤ 8 ∧ gk = 9 - k ∧ i = .int .i64 (k : Nat) ∧ n = .int .i64 (acc : Nat) ∧ u = .int .i64 (p : Nat) ∧ p = 128 ^ k ∧ acc < p ∧ A ≤ s.size ∧ IsRrd wr r s A 0 ∧ X = rnum s (9 - k) k A acc ∧ Mods (fun j => j = r) w wr)
  case atStart => exact ⟨0, a, 0, 1, by omega, rfl, rfl, rfl, rfl, rfl, by decide, ha, HR.out, HX.out, Mods.refl _ _⟩
  case round =>
    obtain ⟨k, A, acc, p, hk, rfl, rfl, rfl, rfl, hp, hacc, hA, hR, hE, hM⟩ := hrel
    have HE := Lib.hid hE
    have HM := Lib.hid hM
    have HRR := Lib.hid hR
    have HP := Lib.hid hp
    have HACC : Hid (acc < 128 ^ k) := hp ▸ hacc
    have hpb : p ≤ 72057594037927936 := by rw [hp]; exact Nat.pow_le_pow_right (n := 128) (j := 8) (by omega) hk
    clear hE hM hR hp
    by_cases hlt : A < s.size
    · go_wp2_with fail
      refine (f136_ok r s A _ HRR.out HS.out hlt).mono ?_; rintro e w1 ⟨rfl, hr1, hm1⟩
      have HR1 := Lib.hid hr1
      have HM1 := Lib.hid (HM.out.trans hm1)
      obtain ⟨c0, c1, c2, cf⟩ := hr1.cells
      clear hr1 hm1 c0 c1
      have hcb : (s[A]).toNat < 256 := (s[A]).toNat_lt
      have HLT := Lib.hid hlt
      by_cases hbad : (k = 8 ∧ 63 < (s[A]).toNat) ∨ (0 < k ∧ (s[A]).toNat = 0)
      · have HV : Hid (X = (0, A + 1, 5)) := by
          unfold Hid; rw [HE.out, show 9 - k = (8 - k) + 1 by omega]; exact rnum_form hlt hbad
        generalize (s[A]).toNat = c at *
        clear HE
        by_cases q0 : c = 0
        · subst q0
          have hkp : 0 < k := by omega
          clear hbad
          go_wp2
          go_ret
          obtain rfl := HV.out; exact ⟨rfl, HR1.out.err 5, HM1.out.setCell ⟨r, 2, none⟩ (fun _ => rfl) _⟩
        · obtain rfl : k = 8 := by omega
          have hc0 : ((c : Int) == 0) = false := by simp; omega
          have hc63 : 63 < c := by omega
          clear hbad
          go_wp2
          go_ret
          obtain rfl := HV.out; exact ⟨rfl, HR1.out.err 5, HM1.out.setCell ⟨r, 2, none⟩ (fun _ => rfl) _⟩
      · have hna := numadd (s[A]).toNat k acc hcb hk (by omega) HACC.out
        rw [← HP.out] at hna
        have HN := Lib.hid hna.1
        have hn1 := hna.2.1
        have hn2 := hna.2.2
        have h8 : k = 8 → (s[A]).toNat ≤ 63 := by omega
        clear hna
        by_cases hl : (s[A]).toNat < 128
        · have HV : Hid (X = (acc + (s[A]).toNat % 128 * p, A + 1, 0)) := by
            unfold Hid; rw [HE.out, HP.out, show 9 - k = (8 - k) + 1 by omega]; exact rnum_last hlt hbad hl
          generalize (s[A]).toNat = c at *
          clear HE
          by_cases q8 : k = 8
          · subst q8
            have qc := h8 rfl
            have hc0 : ((c : Int) == 0) = false := by simp; omega
            clear hbad h8
            go_wp2
            go_ret
            obtain rfl := HV.out; exact ⟨ret_int HN.out, HR1.out, HM1.out⟩
          · have hk8 : ((k : Int) == 8) = false := by simp; omega
            clear h8
            by_cases hkp : 0 < k
            · have hc0 : ((c : Int) == 0) = false := by simp; omega
              clear hbad q8
              go_wp2
              go_ret
              obtain rfl := HV.out; exact ⟨ret_int HN.out, HR1.out, HM1.out⟩
            · clear hbad q8
              go_wp2
              go_ret
              obtain rfl := HV.out; exact ⟨ret_int HN.out, HR1.out, HM1.out⟩
        · have hk7 : k < 8 := by omega
          have HV : Hid (X = rnum s (9 - (k + 1)) (k + 1) (A + 1) (acc + (s[A]).toNat % 128 * p)) := by
            unfold Hid; rw [HE.out, HP.out, show 9 - k = (8 - k) + 1 by omega, show 9 - (k + 1) = 8 - k by omega]; exact rnum_more hlt hbad hl
          have HB : Hid (acc + (s[A]).toNat % 128 * p < p * 128) := by
            unfold Hid
            have hm : (s[A]).toNat % 128 * p ≤ 127 * p := Nat.mul_le_mul_right _ (by omega)
            omega
          have HPP : Hid (p * 128 = 128 ^ (k + 1)) := by unfold Hid; rw [pow128, HP.out]
          have hp7 : p ≤ 562949953421312 := by rw [HP.out]; exact Nat.pow_le_pow_right (n := 128) (j := 7) (by omega) (by omega)
          generalize (s[A]).toNat = c at *
          have hk8 : ((k : Int) == 8) = false := by simp; omega
          have hc0 : ((c : Int) == 0) = false := by simp; omega
          clear HE hbad h8
          by_cases hkp : 0 < k
          · go_wp2_with fail
            go_roundg (9 - (k + 1))
            case measure => omega
            case rel => exact ⟨k + 1, A + 1, _, p * 128, by omega, rfl, by go_num, val_int HN.out, val_int (by push_cast; rfl), HPP.out, HB.out, HLT.out, HR1.out, HV.out, HM1.out⟩
          · go_wp2_with fail
            go_roundg (9 - (k + 1))
            case measure => omega
            case rel => exact ⟨k + 1, A + 1, _, p * 128, by omega, rfl, by go_num, val_int HN.out, val_int (by push_cast; rfl), HPP.out, HB.out, HLT.out, HR1.out, HV.out, HM1.out⟩
    · obtain rfl : A = s.size := by omega
      have HV : Hid (X = (0, s.size, 3)) := by
        unfold Hid; rw [HE.out, show 9 - k = (8 - k) + 1 by omega]; exact rnum_end hlt
      clear HE
      go_wp2_with fail
      refine (f136_end r s _ HRR.out).mono ?_; rintro e w1 ⟨rfl, hr1, hm1⟩
      have HR1 := Lib.hid hr1
      have HM1 := Lib.hid (HM.out.trans hm1)
      obtain ⟨c0, c1, c2, cf⟩ := hr1.cells
      clear hr1 hm1
      go_wp2
      go_ret
      obtain rfl := HV.out; exact ⟨rfl, HR1.out, HM1.out⟩
theorem f95_off (r : Nat) (s : ByteArray) (a : Nat) (e0 : Int) (w : World) (hr : IsRrd w r s a e0) (he : e0 ≠ 0) :
    Calls Try.prog 95 #[.pointer (some ⟨r, 0, none⟩)] w fun e w' => e = .returned (.int .i64 0) ∧ w' = w := by
  obtain ⟨c0, c1, c2, cf⟩ := hr.cells
  have HR := Lib.hid hr
  have HE := Lib.hid he
  have hne : (e0 != 0) = true := by simpa using he
  clear hr he
  go_enter Try.func95, Try.ntmps95
  go_wp2_with fail
  refine wp_loop_once ?_
  go_wp2_with fail
  refine (f136_off r s a e0 _ HR.out HE.out).mono ?_; rintro e w1 ⟨rfl, rfl⟩
  go_wp2
  go_ret
  exact ⟨rfl, rfl⟩
theorem f95_calls (r : Nat) (s : ByteArray) (a : Nat) (e0 : Int) (w : World) (hr : IsRrd w r s a e0) (ha : a ≤ s.size) (hs : s.size ≤ maxLen) :
    Calls Try.prog 95 #[.pointer (some ⟨r, 0, none⟩)] w fun e w' => e = .returned (.int .i64 ((rn s a e0).1 : Nat)) ∧ IsRrd w' r s (rn s a e0).2.1 (rn s a e0).2.2 ∧ Mods (fun j => j = r) w w' := by
  by_cases h : e0 = 0
  · subst h
    unfold rn
    rw [if_pos rfl]
    exact f95_at r s a _ w hr ha hs (Lib.hid rfl)
  · unfold rn
    rw [if_neg h]
    exact (f95_off r s a e0 w hr h).mono fun e w' ⟨he, hw⟩ => ⟨he, hw ▸ hr, hw ▸ Mods.refl _ _⟩
theorem f96_at (r : Nat) (s : ByteArray) (a : Nat) (e0 : Int) (m : Nat) (X Y : Nat × Nat × Int) (w : World) (hr : IsRrd w r s a e0) (ha : a ≤ s.size) (hs : s.size ≤ maxLen) (HX : Hid (rn s a e0 = X)) (HY : Hid (Y = if X.2.2 = 0 ∧ m < X.1 then (0, X.2.1, 4) else X)) :
    Calls Try.prog 96 #[.pointer (some ⟨r, 0, none⟩), .int .i64 m] w fun e w' => e = .returned (.int .i64 (Y.1 : Nat)) ∧ IsRrd w' r s Y.2.1 Y.2.2 ∧ Mods (fun j => j = r) w w' := by
  have hcall := f95_calls r s a e0 w hr ha hs
  rw [HX.out] at hcall
  have HC := Lib.hid hcall
  clear hr hs hcall HX
  obtain ⟨v, A, e1⟩ := X
  simp only at HC HY
  go_enter Try.func96, Try.ntmps96
  go_wp2_with fail
  refine HC.out.mono ?_; rintro e w1 ⟨rfl, hr1, hm1⟩
  have HR1 := Lib.hid hr1
  have HM1 := Lib.hid hm1
  obtain ⟨c0, c1, c2, cf⟩ := hr1.cells
  clear hr1 hm1 HC
  by_cases h0 : e1 = 0
  · subst h0
    by_cases hl : m < v
    · have HV : Hid (Y = (0, A, 4)) := by unfold Hid; rw [HY.out, if_pos ⟨rfl, hl⟩]
      have hli : (m : Int) < (v : Int) := by omega
      clear HY
      go_wp2
      go_ret
      obtain rfl := HV.out; exact ⟨rfl, HR1.out.err 4, HM1.out.setCell ⟨r, 2, none⟩ (fun _ => rfl) _⟩
    · have HV : Hid (Y = (v, A, 0)) := by unfold Hid; rw [HY.out, if_neg (fun h => hl h.2)]
      have hli : ¬ (m : Int) < (v : Int) := by omega
      clear HY
      go_wp2
      go_ret
      obtain rfl := HV.out; exact ⟨rfl, HR1.out, HM1.out⟩
  · have HV : Hid (Y = (v, A, e1)) := by unfold Hid; rw [HY.out, if_neg (fun h => h0 h.1)]
    have hne : (e1 == 0) = false := by simpa using h0
    clear HY
    go_wp2
    go_ret
    obtain rfl := HV.out; exact ⟨rfl, HR1.out, HM1.out⟩
theorem f96_calls (r : Nat) (s : ByteArray) (a : Nat) (e0 : Int) (m : Nat) (w : World) (hr : IsRrd w r s a e0) (ha : a ≤ s.size) (hs : s.size ≤ maxLen) :
    Calls Try.prog 96 #[.pointer (some ⟨r, 0, none⟩), .int .i64 m] w fun e w' => e = .returned (.int .i64 ((rc s a e0 m).1 : Nat)) ∧ IsRrd w' r s (rc s a e0 m).2.1 (rc s a e0 m).2.2 ∧ Mods (fun j => j = r) w w' :=
  f96_at r s a e0 m _ _ w hr ha hs (Lib.hid rfl) (Lib.hid rfl)
set_option maxHeartbeats 1000000 in
theorem f97_at (r : Nat) (s : ByteArray) (a : Nat) (e0 : Int) (n : Nat) (Y : ByteArray × Nat × Int) (w : World) (hr : IsRrd w r s a e0) (ha : a ≤ s.size) (hs : s.size ≤ maxLen) (hn : n ≤ 9223372036854775807) (HY : Hid (Y = rr s a e0 n)) :
    Calls Try.prog 97 #[.pointer (some ⟨r, 0, none⟩), .int .i64 n] w fun e w' => e = .returned (.string Y.1) ∧ IsRrd w' r s Y.2.1 Y.2.2 ∧ Mods (fun j => j = r) w w' := by
  have HR := Lib.hid hr
  have hs' : s.size ≤ 9223372036854775807 := hs
  obtain ⟨c0, c1, c2, cf⟩ := hr.cells
  clear hr hs
  by_cases h0 : e0 = 0
  · subst h0
    by_cases hl : s.size - a < n
    · have HV : Hid (Y = (⟨#[]⟩, a, 3)) := by unfold Hid; rw [HY.out, rr, if_pos rfl, if_pos hl]
      have hli : (s.size : Int) - a < (n : Int) := by omega
      clear HY
      go_enter Try.func97, Try.ntmps97
      go_upto_region 6 with fail
      go_quiet (fail)
      go_wp2
      go_ret
      obtain rfl := HV.out; exact ⟨rfl, HR.out.err (w := w.drewN nq) 3, ((Mods.refl (fun j => j = r) w).drewN nq).setCell ⟨r, 2, none⟩ (fun _ => rfl) _⟩
    · have HV : Hid (Y = (s.extract a (a + n), a + n, 0)) := by unfold Hid; rw [HY.out, rr, if_pos rfl, if_neg hl]
      have hli : ¬ (s.size : Int) - a < (n : Int) := by omega
      have han : (a : Int) + n ≤ s.size := by omega
      clear HY
      go_enter Try.func97, Try.ntmps97
      go_upto_region 6 with fail
      go_quiet (fail)
      go_upto_region 10 with fail
      have HR1 : Hid (IsRrd ((w.drewN nq).setCell ⟨r, 1, none⟩ (.int .i64 ((a : Int) + n))) r s (a + n) 0) := HR.out.go (w := w.drewN nq) n
      have HM1 : Hid (Mods (fun j => j = r) w ((w.drewN nq).setCell ⟨r, 1, none⟩ (.int .i64 ((a : Int) + n)))) := ((Mods.refl (fun j => j = r) w).drewN nq).setCell ⟨r, 1, none⟩ (fun _ => rfl) _
      revert HR1 HM1
      generalize (w.drewN nq).setCell ⟨r, 1, none⟩ (.int .i64 ((a : Int) + n)) = w3
      intro HR1 HM1
      have d0 : w3.cell? ⟨r, 0, none⟩ = some (.string s) := HR1.out.cells.1
      have d1 : w3.cell? ⟨r, 1, none⟩ = some (.int .i64 ((a : Int) + n)) := HR1.out.cells.2.1
      clear c0 c1 c2 cf
      go_quiet (fail)
      go_wp2
      go_ret
      obtain rfl := HV.out
      exact ⟨rfl, HR1.out, HM1.out.drewN _⟩
  · have HV : Hid (Y = (⟨#[]⟩, a, e0)) := by unfold Hid; rw [HY.out, rr, if_neg h0]
    have hne : (e0 != 0) = true := by simpa using h0
    clear HY
    go_enter Try.func97, Try.ntmps97
    go_wp2
    go_ret
    obtain rfl := HV.out; exact ⟨rfl, HR.out, Mods.refl _ _⟩
theorem f97_calls (r : Nat) (s : ByteArray) (a : Nat) (e0 : Int) (n : Nat) (w : World) (hr : IsRrd w r s a e0) (ha : a ≤ s.size) (hs : s.size ≤ maxLen) (hn : n ≤ 9223372036854775807) :
    Calls Try.prog 97 #[.pointer (some ⟨r, 0, none⟩), .int .i64 n] w fun e w' => e = .returned (.string (rr s a e0 n).1) ∧ IsRrd w' r s (rr s a e0 n).2.1 (rr s a e0 n).2.2 ∧ Mods (fun j => j = r) w w' :=
  f97_at r s a e0 n _ w hr ha hs hn (Lib.hid rfl)
theorem f98_at (r : Nat) (s : ByteArray) (a : Nat) (e0 : Int) (Y : Int) (w : World) (hr : IsRrd w r s a e0) (hs : s.size ≤ maxLen) (HY : Hid (Y = re s a e0)) :
    Calls Try.prog 98 #[.pointer (some ⟨r, 0, none⟩)] w fun e w' => e = .returned (.int .i64 Y) ∧ IsRrd w' r s a Y ∧ Mods (fun j => j = r) w w' := by
  have HR := Lib.hid hr
  have hs' : s.size ≤ 9223372036854775807 := hs
  obtain ⟨c0, c1, c2, cf⟩ := hr.cells
  clear hr hs
  by_cases h0 : e0 = 0
  · subst h0
    by_cases hl : a < s.size
    · have HV : Hid (Y = 4) := by unfold Hid; rw [HY.out, re, if_pos ⟨rfl, hl⟩]
      clear HY
      go_enter Try.func98, Try.ntmps98
      go_upto_region 1 with fail
      go_quiet (fail)
      go_wp2
      go_ret
      obtain rfl := HV.out; exact ⟨rfl, HR.out.err (w := w.drewN nq) 4, ((Mods.refl (fun j => j = r) w).drewN nq).setCell ⟨r, 2, none⟩ (fun _ => rfl) _⟩
    · have HV : Hid (Y = 0) := by unfold Hid; rw [HY.out, re, if_neg (fun h => hl h.2)]
      clear HY
      go_enter Try.func98, Try.ntmps98
      go_upto_region 1 with fail
      go_quiet (fail)
      go_wp2
      go_ret
      obtain rfl := HV.out; exact ⟨rfl, HR.out, (Mods.refl _ _).drewN _⟩
  · have HV : Hid (Y = e0) := by unfold Hid; rw [HY.out, re, if_neg (fun h => h0 h.1)]
    have hne : (e0 == 0) = false := by simpa using h0
    clear HY
    go_enter Try.func98, Try.ntmps98
    go_upto_region 1 with fail
    go_quiet (fail)
    go_wp2
    go_ret
    obtain rfl := HV.out; exact ⟨rfl, HR.out, (Mods.refl _ _).drewN _⟩
theorem f98_calls (r : Nat) (s : ByteArray) (a : Nat) (e0 : Int) (w : World) (hr : IsRrd w r s a e0) (hs : s.size ≤ maxLen) :
    Calls Try.prog 98 #[.pointer (some ⟨r, 0, none⟩)] w fun e w' => e = .returned (.int .i64 (re s a e0)) ∧ IsRrd w' r s a (re s a e0) ∧ Mods (fun j => j = r) w w' :=
  f98_at r s a e0 _ w hr hs (Lib.hid rfl)
end Go.Proofs.Ytblhbbgkkijkfaa
