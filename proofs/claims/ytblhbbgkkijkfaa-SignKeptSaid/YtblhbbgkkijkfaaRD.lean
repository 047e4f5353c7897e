/- code.Reader: the small methods. -/
import Derived.Test.YtblhbbgkkijkfaaB0
namespace Go.Proofs.Ytblhbbgkkijkfaa
open Go.RowKit Go.Maps
/-- A reader: its text, how far it is, its error. -/
def IsRdr (w : World) (r : Nat) (s : ByteArray) (at_ : Nat) (e : Int) : Prop := w.heap[r]? = some (.cells #[.string s, .int .i64 at_, .int .i64 e] 155 (0, 0))
theorem IsRdr.cells {w : World} {r : Nat} {s : ByteArray} {a : Nat} {e : Int} (h : IsRdr w r s a e) :
    w.cell? ⟨r, 0, none⟩ = some (.string s) ∧ w.cell? ⟨r, 1, none⟩ = some (.int .i64 a) ∧ w.cell? ⟨r, 2, none⟩ = some (.int .i64 e) ∧ (∀ j, w.frozen? ⟨r, j, none⟩ = false) :=
  ⟨by rw [row_cell h]; rfl, by rw [row_cell h]; rfl, by rw [row_cell h]; rfl, fun j => row_frozen h j⟩
theorem IsRdr.mods {M : Nat → Prop} {w w' : World} {r : Nat} {s : ByteArray} {a : Nat} {e : Int} (h : IsRdr w r s a e) (hm : Mods M w w') (h1 : ¬ M r) : IsRdr w' r s a e := hm.row h h1
theorem f133_calls (r : Nat) (s : ByteArray) (a : Nat) (e0 : Int) (w : World) (h : IsRdr w r s a e0) :
    Calls Try.prog 133 #[.pointer (some ⟨r, 0, none⟩)] w fun e w' => e = .returned (.bool (e0 != 0)) ∧ w' = w := by
  obtain ⟨c0, c1, c2, cf⟩ := h.cells
  go_enter Try.func133, Try.ntmps133
  go_wp2
  go_ret
  exact ⟨rfl, rfl⟩
theorem f91_calls (r : Nat) (s : ByteArray) (a : Nat) (e0 : Int) (w : World) (h : IsRdr w r s a e0) :
    Calls Try.prog 91 #[.pointer (some ⟨r, 0, none⟩)] w fun e w' => e = .returned (.int .i64 e0) ∧ w' = w := by
  obtain ⟨c0, c1, c2, cf⟩ := h.cells
  go_enter Try.func91, Try.ntmps91
  go_wp2
  go_ret
  exact ⟨rfl, rfl⟩
theorem f134_calls (r : Nat) (s : ByteArray) (a : Nat) (e0 k : Int) (w : World) (hr : IsRdr w r s a e0) :
    Calls Try.prog 134 #[.pointer (some ⟨r, 0, none⟩), .int .i64 k] w fun e w' => e = .returned (.tuple #[]) ∧ IsRdr w' r s a (if e0 = 0 then k else e0) ∧ Mods (fun j => j = r) w w' := by
  obtain ⟨c0, c1, c2, cf⟩ := hr.cells
  have HR := Lib.hid hr
  clear hr
  by_cases h0 : e0 = 0
  · subst h0
    go_enter Try.func134, Try.ntmps134
    go_wp2_with fail
    refine (f133_calls r s a 0 _ HR.out).mono ?_; rintro e w1 ⟨rfl, rfl⟩
    go_wp2
    go_end0
    exact ⟨rfl, by unfold IsRdr; rw [row_set HR.out]; rfl, (Mods.refl (fun j => j = r) _).setCell ⟨r, 2, none⟩ (fun _ => rfl) _⟩
  · have hne : (e0 != 0) = true := by simpa using h0
    go_enter Try.func134, Try.ntmps134
    go_wp2_with fail
    refine (f133_calls r s a e0 _ HR.out).mono ?_; rintro e w1 ⟨rfl, rfl⟩
    go_wp2
    go_end0
    exact ⟨rfl, by first | exact HR.out | (rw [if_neg h0]; exact HR.out), Mods.refl _ _⟩
theorem f89_calls (s : ByteArray) (w : World) :
    Calls Try.prog 89 #[.string s] w fun e w' => e = .returned (.pointer (some ⟨w.heap.size, 0, none⟩)) ∧ IsRdr w' w.heap.size s 0 0 ∧ Mods Nope w w' := by
  go_enter Try.func89, Try.ntmps89
  go_wp2
  go_ret
  exact ⟨rfl, heap_alloc_new w _, (Mods.refl _ _).alloc _⟩
theorem f135_calls (r : Nat) (s : ByteArray) (a : Nat) (e0 : Int) (w : World) (hr : IsRdr w r s a e0) (ha : a ≤ s.size) (hs : s.size ≤ maxLen) :
    Calls Try.prog 135 #[.pointer (some ⟨r, 0, none⟩)] w fun e w' => e = .returned (.int .i64 ((s.size - a : Nat) : Int)) ∧ Mods Nope w w' := by
  obtain ⟨c0, c1, c2, cf⟩ := hr.cells
  have hs' : s.size ≤ 9223372036854775807 := hs
  clear hr hs
  go_enter Try.func135, Try.ntmps135
  go_upto_region 3 with fail
  go_quiet (fail)
  go_wp2
  go_ret
  exact ⟨ret_int (by omega), (Mods.refl _ _).drewN _⟩
theorem f132_off (r : Nat) (s : ByteArray) (a : Nat) (e0 : Int) (w : World) (hr : IsRdr w r s a e0) (he : e0 ≠ 0) :
    Calls Try.prog 132 #[.pointer (some ⟨r, 0, none⟩)] w fun e w' => e = .returned (.int .i64 0) ∧ w' = w := by
  have hne : (e0 != 0) = true := by simpa using he
  go_enter Try.func132, Try.ntmps132
  go_wp2_with fail
  refine (f133_calls r s a e0 _ hr).mono ?_; rintro e w1 ⟨rfl, rfl⟩
  go_wp2
  go_ret
  exact ⟨rfl, rfl⟩
theorem f132_end (r : Nat) (s : ByteArray) (w : World) (hr : IsRdr w r s s.size 0) (hs : s.size ≤ maxLen) :
    Calls Try.prog 132 #[.pointer (some ⟨r, 0, none⟩)] w fun e w' => e = .returned (.int .i64 0) ∧ IsRdr w' r s s.size 3 ∧ Mods (fun j => j = r) w w' := by
  obtain ⟨c0, c1, c2, cf⟩ := hr.cells
  have HR := Lib.hid hr
  have hs' : s.size ≤ 9223372036854775807 := hs
  clear hr hs
  go_enter Try.func132, Try.ntmps132
  go_wp2_with fail
  refine (f133_calls r s _ 0 _ HR.out).mono ?_; rintro e w1 ⟨rfl, rfl⟩
  go_upto_region 3 with fail
  go_quiet (fail)
  go_wp2_with fail
  refine (f134_calls r s s.size 0 3 _ (by exact HR.out)).mono ?_; rintro e w2 ⟨rfl, h1, h2⟩
  have H1 := Lib.hid h1
  have H2 : Hid (Mods (fun j => j = r) w1 w2) := ((Mods.refl _ w1).drewN _).trans h2
  clear h1 h2
  go_wp2
  go_ret
  exact ⟨rfl, by simpa using H1.out, H2.out⟩
theorem f132_ok (r : Nat) (s : ByteArray) (a : Nat) (w : World) (hr : IsRdr w r s a 0) (hs : s.size ≤ maxLen) (ha : a < s.size) :
    Calls Try.prog 132 #[.pointer (some ⟨r, 0, none⟩)] w fun e w' => e = .returned (.int .i64 (s[a].toNat : Int)) ∧ IsRdr w' r s (a + 1) 0 ∧ Mods (fun j => j = r) w w' := by
  obtain ⟨c0, c1, c2, cf⟩ := hr.cells
  have HR := Lib.hid hr
  have hs' : s.size ≤ 9223372036854775807 := hs
  have hne : ((a : Int) == (s.size : Int)) = false := by simp; omega
  clear hr hs
  go_enter Try.func132, Try.ntmps132
  go_wp2_with fail
  refine (f133_calls r s _ 0 _ HR.out).mono ?_; rintro e w1 ⟨rfl, rfl⟩
  go_upto_region 3 with fail
  go_quiet (fail)
  go_upto_region 7 with fail
  have hR1 : ((w1.drewN nq).setCell ⟨r, 1, none⟩ (.int .i64 ((a : Int) + 1))).heap[r]? = some (.cells #[.string s, .int .i64 ((a : Int) + 1), .int .i64 0] 155 (0, 0)) := by
    rw [row_set (w := w1.drewN nq) HR.out]; rfl
  have HM1 : Hid (Mods (fun j => j = r) w1 ((w1.drewN nq).setCell ⟨r, 1, none⟩ (.int .i64 ((a : Int) + 1)))) := ((Mods.refl (fun j => j = r) w1).drewN nq).setCell ⟨r, 1, none⟩ (fun _ => rfl) _
  revert hR1 HM1
  generalize (w1.drewN nq).setCell ⟨r, 1, none⟩ (.int .i64 ((a : Int) + 1)) = w2
  intro hR1 HM1
  have d0 : w2.cell? ⟨r, 0, none⟩ = some (.string s) := by rw [row_cell hR1]; rfl
  have d1 : w2.cell? ⟨r, 1, none⟩ = some (.int .i64 ((a : Int) + 1)) := by rw [row_cell hR1]; rfl
  have HR1 : Hid (IsRdr w2 r s (a + 1) 0) := hR1
  have hai : (a : Int) < (s.size : Int) := by omega
  clear hR1 c0 c1 c2 cf
  go_quiet (fail)
  go_wp2
  go_ret
  exact ⟨ret_int (by have h := (s[a]).toNat_lt; unfold wrap64; omega), HR1.out, HM1.out.drewN _⟩
end Go.Proofs.Ytblhbbgkkijkfaa
