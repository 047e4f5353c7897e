/- delta.right, Builder.Len, String of an empty builder, walked. -/
import Derived.Test.YtblhbbgkkijkfaaK5
import Derived.Test.YtblhbbgkkijkfaaBL
namespace Go.Proofs.Ytblhbbgkkijkfaa
open Go.RowKit Go.Maps
/-- May a step be, for a basis so long (below 0: of any)? -/
def okS (x : Stp) (basis : Int) : Bool :=
  if x.text.size = 0 then decide (0 < x.len ∧ 0 ≤ x.pos ∧ x.len ≤ 524288 ∧ x.pos ≤ 524288 - x.len ∧ (basis < 0 ∨ x.pos + x.len ≤ basis))
  else decide (x.pos = 0 ∧ x.len = 0 ∧ x.text.size ≤ 4096)
theorem toList_empty {t : ByteArray} (h : t.size ≠ 0) : t.toList.isEmpty = false := by
  cases hq : t.toList.isEmpty
  · rfl
  · exfalso
    have h1 := List.isEmpty_iff.1 hq
    have h2 : (t.toList == (⟨#[]⟩ : ByteArray).toList) = false := str_ne (fun e => h (by rw [e]; rfl))
    have h3 : (⟨#[]⟩ : ByteArray).toList = [] := by kernel_rfl
    rw [h1, h3] at h2
    simp at h2
theorem empty_of_size {t : ByteArray} (h : t.size = 0) : t = ⟨#[]⟩ := ByteArray.ext (Array.eq_empty_of_size_eq_zero h)
set_option maxRecDepth 100000 in
set_option maxHeartbeats 4000000 in
theorem f101_calls (x : Stp) (basis : Int) (w : World) (hx : x.text.size ≤ maxLen) :
    Calls Try.prog 101 #[.agg #[.int .i64 x.pos, .int .i64 x.len, .string x.text], .int .i64 basis] w fun e w' => e = .returned (.bool (okS x basis)) ∧ Mods Nope w w' := by
  obtain ⟨p, n, t⟩ := x
  dsimp only at hx ⊢
  obtain ⟨R, hR⟩ : ∃ R, R = okS ⟨p, n, t⟩ basis := ⟨_, rfl⟩
  rw [← hR]
  unfold okS at hR
  dsimp only at hR
  by_cases h0 : t.size = 0
  · rw [if_pos h0] at hR
    have ht := empty_of_size h0
    subst ht
    have he : ((⟨#[]⟩ : ByteArray).toList == (⟨#[]⟩ : ByteArray).toList) = true := str_eq rfl
    have HR := Lib.hid hR
    clear hR h0 hx
    by_cases c1 : 0 < n
    rotate_left
    · have d1 : decide (0 < n) = false := decide_eq_false c1
      have HF : Hid (R = false) := by unfold Hid; rw [HR.out, decide_eq_false (fun h => c1 h.1)]
      go_enter Try.func101, Try.ntmps101
      go_wp2
      go_ret
      exact ⟨ret_bool HF.out.symm, (Mods.refl _ _).alloc _⟩
    have d1 : decide (0 < n) = true := decide_eq_true c1
    by_cases c2 : 0 ≤ p
    rotate_left
    · have d2 : decide (0 ≤ p) = false := decide_eq_false c2
      have HF : Hid (R = false) := by unfold Hid; rw [HR.out, decide_eq_false (fun h => c2 h.2.1)]
      go_enter Try.func101, Try.ntmps101
      go_wp2
      go_ret
      exact ⟨ret_bool HF.out.symm, (Mods.refl _ _).alloc _⟩
    have d2 : decide (0 ≤ p) = true := decide_eq_true c2
    by_cases c3 : n ≤ 524288
    rotate_left
    · have d3 : decide (n ≤ 524288) = false := decide_eq_false c3
      have HF : Hid (R = false) := by unfold Hid; rw [HR.out, decide_eq_false (fun h => c3 h.2.2.1)]
      go_enter Try.func101, Try.ntmps101
      go_wp2
      go_ret
      exact ⟨ret_bool HF.out.symm, (Mods.refl _ _).alloc _⟩
    have d3 : decide (n ≤ 524288) = true := decide_eq_true c3
    by_cases c4 : p ≤ 524288 - n
    rotate_left
    · have d4 : decide (p ≤ 524288 - n) = false := decide_eq_false c4
      have HF : Hid (R = false) := by unfold Hid; rw [HR.out, decide_eq_false (fun h => c4 h.2.2.2.1)]
      go_enter Try.func101, Try.ntmps101
      go_wp2
      go_ret
      exact ⟨ret_bool HF.out.symm, (Mods.refl _ _).alloc _⟩
    have d4 : decide (p ≤ 524288 - n) = true := decide_eq_true c4
    by_cases c5 : basis < 0
    · have d5 : decide (basis < 0) = true := decide_eq_true c5
      have HF : Hid (R = true) := by unfold Hid; rw [HR.out, decide_eq_true ⟨c1, c2, c3, c4, .inl c5⟩]
      go_enter Try.func101, Try.ntmps101
      go_wp2
      go_ret
      exact ⟨ret_bool HF.out.symm, (Mods.refl _ _).alloc _⟩
    have d5 : decide (basis < 0) = false := decide_eq_false c5
    by_cases c6 : p + n ≤ basis
    · have d6 : decide (p + n ≤ basis) = true := decide_eq_true c6
      have HF : Hid (R = true) := by unfold Hid; rw [HR.out, decide_eq_true ⟨c1, c2, c3, c4, .inr c6⟩]
      go_enter Try.func101, Try.ntmps101
      go_wp2
      go_ret
      exact ⟨ret_bool HF.out.symm, (Mods.refl _ _).alloc _⟩
    · have d6 : decide (p + n ≤ basis) = false := decide_eq_false c6
      have HF : Hid (R = false) := by unfold Hid; rw [HR.out, decide_eq_false (fun h => h.2.2.2.2.elim c5 c6)]
      go_enter Try.func101, Try.ntmps101
      go_wp2
      go_ret
      exact ⟨ret_bool HF.out.symm, (Mods.refl _ _).alloc _⟩
  · rw [if_neg h0] at hR
    have he : t.toList.isEmpty = false := toList_empty h0
    have HR := Lib.hid hR
    have HX := Lib.hid hx
    clear hR h0
    by_cases c1 : p = 0
    rotate_left
    · have d1 : (p == 0) = false := by simpa using c1
      have HF : Hid (R = false) := by unfold Hid; rw [HR.out, decide_eq_false (fun h => c1 h.1)]
      clear c1
      go_enter Try.func101, Try.ntmps101
      go_wp2
      go_ret
      exact ⟨ret_bool HF.out.symm, (Mods.refl _ _).alloc _⟩
    have d1 : (p == 0) = true := by simpa using c1
    by_cases c2 : n = 0
    rotate_left
    · have d2 : (n == 0) = false := by simpa using c2
      have HF : Hid (R = false) := by unfold Hid; rw [HR.out, decide_eq_false (fun h => c2 h.2.1)]
      clear c1 c2
      go_enter Try.func101, Try.ntmps101
      go_wp2
      go_ret
      exact ⟨ret_bool HF.out.symm, (Mods.refl _ _).alloc _⟩
    have d2 : (n == 0) = true := by simpa using c2
    have HF : Hid (R = decide ((t.size : Int) ≤ 4096)) := by
      unfold Hid
      rw [HR.out]
      apply decide_eq_decide.2
      exact ⟨fun h => by have := h.2.2; omega, fun h => ⟨c1, c2, by omega⟩⟩
    clear c1 c2
    go_enter Try.func101, Try.ntmps101
    go_wp2
    go_ret
    exact ⟨ret_bool (by rw [HF.out]), (Mods.refl _ _).alloc _⟩
set_option maxRecDepth 100000 in
theorem f106_calls (B b : Nat) (v : Value) (bs : List Value) (w : World) (h : Bld w B b v bs) :
    Calls Try.prog 106 #[.pointer (some ⟨b, 0, none⟩)] w fun e w' => e = .returned (.int .i64 bs.length) ∧ w' = w := by
  obtain ⟨p, _, hr⟩ := h.row
  obtain ⟨A, c, rfl, _, _, _, _⟩ := Rd.of_owns h.own
  have c1 : w.cell? ⟨b, 1, none⟩ = some (.slice A bs.length c) := by rw [row_cell hr]; rfl
  clear h hr
  go_enter Try.func106, Try.ntmps106
  go_wp2
  go_ret
  exact ⟨rfl, rfl⟩
end Go.Proofs.Ytblhbbgkkijkfaa
