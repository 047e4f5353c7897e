/- code.Reader: Num, Count, Raw, End at whatever state. -/
import Derived.Test.YtblhbbgkkijkfaaRE
namespace Go.Proofs.Ytblhbbgkkijkfaa
open Go.RowKit Go.Maps
theorem f90_off (r : Nat) (s : ByteArray) (a : Nat) (e0 : Int) (w : World) (hr : IsRdr w r s a e0) (he : e0 ≠ 0) :
    Calls Try.prog 90 #[.pointer (some ⟨r, 0, none⟩)] w fun e w' => e = .returned (.int .i64 0) ∧ w' = w := by
  have HR := Lib.hid hr
  have HE := Lib.hid he
  have hne : (e0 != 0) = true := by simpa using he
  clear hr he
  go_enter Try.func90, Try.ntmps90
  go_wp2_with fail
  refine wp_loop_once ?_
  go_wp2_with fail
  refine (f132_off r s a e0 _ HR.out HE.out).mono ?_; rintro e w1 ⟨rfl, rfl⟩
  go_wp2_with fail
  refine (f133_calls r s a e0 _ HR.out).mono ?_; rintro e w1 ⟨rfl, rfl⟩
  go_wp2
  go_ret
  exact ⟨rfl, rfl⟩
theorem f90_calls (r : Nat) (s : ByteArray) (a : Nat) (e0 : Int) (w : World) (hr : IsRdr w r s a e0) (ha : a ≤ s.size) (hs : s.size ≤ maxLen) :
    Calls Try.prog 90 #[.pointer (some ⟨r, 0, none⟩)] w fun e w' => e = .returned (.int .i64 ((rn s a e0).1 : Nat)) ∧ IsRdr w' r s (rn s a e0).2.1 (rn s a e0).2.2 ∧ Mods (fun j => j = r) w w' := by
  by_cases h : e0 = 0
  · subst h
    unfold rn
    rw [if_pos rfl]
    exact f90_at r s a _ w hr ha hs (Lib.hid rfl)
  · unfold rn
    rw [if_neg h]
    exact (f90_off r s a e0 w hr h).mono fun e w' ⟨he, hw⟩ => ⟨he, hw ▸ hr, hw ▸ Mods.refl _ _⟩
theorem f92_at (r : Nat) (s : ByteArray) (a : Nat) (e0 : Int) (m : Nat) (X Y : Nat × Nat × Int) (w : World) (hr : IsRdr w r s a e0) (ha : a ≤ s.size) (hs : s.size ≤ maxLen) (HX : Hid (rn s a e0 = X)) (HY : Hid (Y = if X.2.2 = 0 ∧ m < X.1 then (0, X.2.1, 4) else X)) :
    Calls Try.prog 92 #[.pointer (some ⟨r, 0, none⟩), .int .i64 m] w fun e w' => e = .returned (.int .i64 (Y.1 : Nat)) ∧ IsRdr w' r s Y.2.1 Y.2.2 ∧ Mods (fun j => j = r) w w' := by
  have HR := Lib.hid hr
  have HS := Lib.hid hs
  have HB : Hid (X.1 < 2 ^ 62) := by unfold Hid; rw [← HX.out]; exact rn_bound s a e0
  have hcall := f90_calls r s a e0 w hr ha hs
  rw [HX.out] at hcall
  have HC := Lib.hid hcall
  clear hr hs hcall HX
  obtain ⟨v, A, e1⟩ := X
  simp only at HB HC HY
  go_enter Try.func92, Try.ntmps92
  go_wp2_with fail
  refine HC.out.mono ?_; rintro e w1 ⟨rfl, hr1, hm1⟩
  have HR1 := Lib.hid hr1
  have HM1 := Lib.hid hm1
  clear hr1 hm1 HC
  go_wp2_with fail
  refine (f133_calls r s A e1 _ HR1.out).mono ?_; rintro e w2 ⟨rfl, rfl⟩
  by_cases h0 : e1 = 0
  · subst h0
    by_cases hl : m < v
    · have HV : Hid (Y = (0, A, 4)) := by unfold Hid; rw [HY.out, if_pos ⟨rfl, hl⟩]
      have hli : (m : Int) < (v : Int) := by omega
      clear HY
      go_wp2_with fail
      refine (f134_calls r s A 0 4 _ HR1.out).mono ?_; rintro e w3 ⟨rfl, hr3, hm3⟩
      have HR3 := Lib.hid hr3
      have HM3 := Lib.hid (HM1.out.trans hm3)
      clear hr3 hm3
      go_wp2
      go_ret
      obtain rfl := HV.out; exact ⟨rfl, by simpa using HR3.out, HM3.out⟩
    · have HV : Hid (Y = (v, A, 0)) := by unfold Hid; rw [HY.out, if_neg (fun h => hl h.2)]
      have hli : ¬ (m : Int) < (v : Int) := by omega
      clear HY
      go_wp2
      go_ret
      obtain rfl := HV.out; exact ⟨rfl, HR1.out, HM1.out⟩
  · have HV : Hid (Y = (v, A, e1)) := by unfold Hid; rw [HY.out, if_neg (fun h => h0 h.1)]
    have hne : (e1 != 0) = true := by simpa using h0
    clear HY
    go_wp2
    go_ret
    obtain rfl := HV.out; exact ⟨rfl, HR1.out, HM1.out⟩
theorem f92_calls (r : Nat) (s : ByteArray) (a : Nat) (e0 : Int) (m : Nat) (w : World) (hr : IsRdr w r s a e0) (ha : a ≤ s.size) (hs : s.size ≤ maxLen) :
    Calls Try.prog 92 #[.pointer (some ⟨r, 0, none⟩), .int .i64 m] w fun e w' => e = .returned (.int .i64 ((rc s a e0 m).1 : Nat)) ∧ IsRdr w' r s (rc s a e0 m).2.1 (rc s a e0 m).2.2 ∧ Mods (fun j => j = r) w w' :=
  f92_at r s a e0 m _ _ w hr ha hs (Lib.hid rfl) (Lib.hid rfl)
set_option maxHeartbeats 1000000 in
theorem f93_at (r : Nat) (s : ByteArray) (a : Nat) (e0 : Int) (n : Nat) (Y : ByteArray × Nat × Int) (w : World) (hr : IsRdr w r s a e0) (ha : a ≤ s.size) (hs : s.size ≤ maxLen) (hn : n ≤ 9223372036854775807) (HY : Hid (Y = rr s a e0 n)) :
    Calls Try.prog 93 #[.pointer (some ⟨r, 0, none⟩), .int .i64 n] w fun e w' => e = .returned (.string Y.1) ∧ IsRdr w' r s Y.2.1 Y.2.2 ∧ Mods (fun j => j = r) w w' := by
  have HR := Lib.hid hr
  have HS := Lib.hid hs
  have hs' : s.size ≤ 9223372036854775807 := hs
  clear hr hs
  go_enter Try.func93, Try.ntmps93
  go_wp2_with fail
  refine (f133_calls r s a e0 _ HR.out).mono ?_; rintro e w1 ⟨rfl, rfl⟩
  by_cases h0 : e0 = 0
  · subst h0
    go_wp2_with fail
    refine (f135_calls r s a 0 _ HR.out ha HS.out).mono ?_; rintro e w2 ⟨rfl, hm2⟩
    have HR2 := Lib.hid (HR.out.mods hm2 (fun h => h))
    have HM2 := Lib.hid (hm2.any (fun j => j = r))
    clear hm2
    by_cases hl : s.size - a < n
    · have HV : Hid (Y = (⟨#[]⟩, a, 3)) := by unfold Hid; rw [HY.out, rr, if_pos rfl, if_pos hl]
      have hli : ((s.size - a : Nat) : Int) < (n : Int) := by omega
      clear HY
      go_wp2_with fail
      refine (f134_calls r s a 0 3 _ HR2.out).mono ?_; rintro e w3 ⟨rfl, hr3, hm3⟩
      have HR3 := Lib.hid hr3
      have HM3 := Lib.hid (HM2.out.trans hm3)
      clear hr3 hm3
      go_wp2
      go_ret
      obtain rfl := HV.out; exact ⟨rfl, by simpa using HR3.out, HM3.out⟩
    · have HV : Hid (Y = (s.extract a (a + n), a + n, 0)) := by unfold Hid; rw [HY.out, rr, if_pos rfl, if_neg hl]
      have hli : ¬ ((s.size - a : Nat) : Int) < (n : Int) := by omega
      clear HY
      obtain ⟨c0, c1, c2, cf⟩ := HR2.out.cells
      have han : (a : Int) + n ≤ s.size := by omega
      go_upto_region 10 with fail
      have hR1 : (w2.setCell ⟨r, 1, none⟩ (.int .i64 ((a : Int) + n))).heap[r]? = some (.cells #[.string s, .int .i64 ((a : Int) + n), .int .i64 0] 155 (0, 0)) := by
        rw [row_set (w := w2) HR2.out]; rfl
      have HM1 : Hid (Mods (fun j => j = r) w1 (w2.setCell ⟨r, 1, none⟩ (.int .i64 ((a : Int) + n)))) := HM2.out.setCell ⟨r, 1, none⟩ (fun _ => rfl) _
      revert hR1 HM1
      generalize (w2.setCell ⟨r, 1, none⟩ (.int .i64 ((a : Int) + n))) = w3
      intro hR1 HM1
      have d0 : w3.cell? ⟨r, 0, none⟩ = some (.string s) := by rw [row_cell hR1]; rfl
      have d1 : w3.cell? ⟨r, 1, none⟩ = some (.int .i64 ((a : Int) + n)) := by rw [row_cell hR1]; rfl
      have HR1 : Hid (IsRdr w3 r s (a + n) 0) := hR1
      clear hR1 c0 c1 c2 cf
      go_quiet (fail)
      go_wp2
      go_ret
      obtain rfl := HV.out
      exact ⟨ret_str (by first | rfl | (congr 1 <;> omega)), HR1.out, HM1.out.drewN _⟩
  · have HV : Hid (Y = (⟨#[]⟩, a, e0)) := by unfold Hid; rw [HY.out, rr, if_neg h0]
    have hne : (e0 != 0) = true := by simpa using h0
    clear HY
    go_wp2
    go_ret
    obtain rfl := HV.out; exact ⟨rfl, HR.out, Mods.refl _ _⟩
theorem f93_calls (r : Nat) (s : ByteArray) (a : Nat) (e0 : Int) (n : Nat) (w : World) (hr : IsRdr w r s a e0) (ha : a ≤ s.size) (hs : s.size ≤ maxLen) (hn : n ≤ 9223372036854775807) :
    Calls Try.prog 93 #[.pointer (some ⟨r, 0, none⟩), .int .i64 n] w fun e w' => e = .returned (.string (rr s a e0 n).1) ∧ IsRdr w' r s (rr s a e0 n).2.1 (rr s a e0 n).2.2 ∧ Mods (fun j => j = r) w w' :=
  f93_at r s a e0 n _ w hr ha hs hn (Lib.hid rfl)
theorem f94_at (r : Nat) (s : ByteArray) (a : Nat) (e0 : Int) (Y : Int) (w : World) (hr : IsRdr w r s a e0) (ha : a ≤ s.size) (hs : s.size ≤ maxLen) (HY : Hid (Y = re s a e0)) :
    Calls Try.prog 94 #[.pointer (some ⟨r, 0, none⟩)] w fun e w' => e = .returned (.int .i64 Y) ∧ IsRdr w' r s a Y ∧ Mods (fun j => j = r) w w' := by
  have HR := Lib.hid hr
  have HS := Lib.hid hs
  clear hr hs
  go_enter Try.func94, Try.ntmps94
  go_wp2_with fail
  refine (f133_calls r s a e0 _ HR.out).mono ?_; rintro e w1 ⟨rfl, rfl⟩
  by_cases h0 : e0 = 0
  · subst h0
    go_wp2_with fail
    refine (f135_calls r s a 0 _ HR.out ha HS.out).mono ?_; rintro e w2 ⟨rfl, hm2⟩
    have HR2 := Lib.hid (HR.out.mods hm2 (fun h => h))
    have HM2 := Lib.hid (hm2.any (fun j => j = r))
    clear hm2
    by_cases hl : a < s.size
    · have HV : Hid (Y = 4) := by unfold Hid; rw [HY.out, re, if_pos ⟨rfl, hl⟩]
      have hli : 0 < s.size - a := by omega
      clear HY
      go_wp2_with fail
      refine (f134_calls r s a 0 4 _ HR2.out).mono ?_; rintro e w3 ⟨rfl, hr3, hm3⟩
      have HR3 := Lib.hid hr3
      have HM3 := Lib.hid (HM2.out.trans hm3)
      clear hr3 hm3
      go_wp2_with fail
      refine (f91_calls r s a 4 _ (by simpa using HR3.out)).mono ?_; rintro e w4 ⟨rfl, rfl⟩
      go_wp2
      go_ret
      obtain rfl := HV.out; exact ⟨rfl, by simpa using HR3.out, HM3.out⟩
    · have HV : Hid (Y = 0) := by unfold Hid; rw [HY.out, re, if_neg (fun h => hl h.2)]
      have hli : ¬ 0 < s.size - a := by omega
      clear HY
      go_wp2_with fail
      refine (f91_calls r s a 0 _ HR2.out).mono ?_; rintro e w4 ⟨rfl, rfl⟩
      go_wp2
      go_ret
      obtain rfl := HV.out; exact ⟨rfl, HR2.out, HM2.out⟩
  · have HV : Hid (Y = e0) := by unfold Hid; rw [HY.out, re, if_neg (fun h => h0 h.1)]
    have hne : (e0 != 0) = true := by simpa using h0
    clear HY
    go_wp2_with fail
    refine (f91_calls r s a e0 _ HR.out).mono ?_; rintro e w4 ⟨rfl, rfl⟩
    go_wp2
    go_ret
    obtain rfl := HV.out; exact ⟨rfl, HR.out, Mods.refl _ _⟩
theorem f94_calls (r : Nat) (s : ByteArray) (a : Nat) (e0 : Int) (w : World) (hr : IsRdr w r s a e0) (ha : a ≤ s.size) (hs : s.size ≤ maxLen) :
    Calls Try.prog 94 #[.pointer (some ⟨r, 0, none⟩)] w fun e w' => e = .returned (.int .i64 (re s a e0)) ∧ IsRdr w' r s a (re s a e0) ∧ Mods (fun j => j = r) w w' :=
  f94_at r s a e0 _ w hr ha hs (Lib.hid rfl)
end Go.Proofs.Ytblhbbgkkijkfaa
