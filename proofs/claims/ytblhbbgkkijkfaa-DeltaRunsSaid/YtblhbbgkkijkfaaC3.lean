/- (*Book).Mark and Is at whatever book. -/
import Derived.Test.YtblhbbgkkijkfaaC2
import Derived.Deep.MidRow
namespace Go.Proofs.Ytblhbbgkkijkfaa
open Go.RowKit Go.Maps
theorem info95 : (Try.prog.info? 95).map (·.size) = some 72 := by kernel_rfl
set_option maxRecDepth 100000 in
set_option maxHeartbeats 1000000 in
theorem f78_real (b : Nat) (f : ByteArray → ByteArray) (s : ByteArray) (w : World) (hb : IsBook w b b (.real f)) (hs : s.size ≤ 140737488351232) :
    Calls Try.prog 78 #[.pointer (some ⟨b, 0, none⟩), .string s] w fun e w' => e = .returned (.string (f s)) ∧ Mods Nope w w' := by
  obtain ⟨c0, _, mix, hsz, hcells, hsum⟩ := hb
  have hr : w.rangeAt b 0 mix.toList := by
    intro j v hv
    have hj : j < mix.size := by
      rcases Nat.lt_or_ge j mix.size with h | h
      · exact h
      · rw [List.getElem?_eq_none (by simpa using h)] at hv; cases hv
    rw [Nat.zero_add, hcells j hj]
    simpa [hj] using hv
  have hi : (Try.prog.info? 95).map (·.size) = some mix.toList.length := by rw [info95]; simp [hsz]
  have HI := Lib.hid hi
  have HR := Lib.hid hr
  have hcall := hsum s w hs
  have HC := Lib.hid hcall
  clear hcells hsum hr hcall hs hsz hi
  go_enter Try.func78, Try.ntmps78
  go_wp2_with fail
  refine (f80_real _ _ c0).mono ?_; rintro e w' ⟨rfl, rfl⟩
  go_wp2_with (with_reducible refine wpList_load_mid (op := ⟨some 18, _, _, _, _, _⟩) rfl 95 _ rfl b 0 rfl mix.toList _ HR.out Try.underlying95 rfl HI.out ?_)
  refine HC.out.mono ?_
  rintro e w1 ⟨rfl, h1⟩
  go_wp2
  go_ret
  exact ⟨rfl, h1⟩

/-- Marking, whatever the book. -/
theorem f78_calls (b mb : Nat) (B : Bk) (s : ByteArray) (w : World) (hb : IsBook w b mb B) (hL : B.len < 1125899906842624) (hs : s.size ≤ 140737488351232) :
    Calls Try.prog 78 #[.pointer (some ⟨b, 0, none⟩), .string s] w fun e w' => e = .returned (.string (B.mark s)) ∧ IsBook w' b mb (B.add s) ∧ Mods (MB mb) w w' := by
  cases B with
  | ideal L => exact f78_ideal b mb L s w hb hL (by unfold maxLen; omega)
  | real f =>
    obtain rfl : mb = b := hb.2.1
    exact (f78_real mb f s w hb hs).mono fun e w' ⟨he, hm⟩ => ⟨he, hb.nope hm, hm.any _⟩

set_option maxRecDepth 100000 in
set_option maxHeartbeats 1000000 in
theorem f34_ideal (b mb : Nat) (L : List ByteArray) (s m : ByteArray) (w : World) (hb : IsBook w b mb (.ideal L)) (hs : s.size ≤ maxLen) (hk : (Bk.ideal L).knows s) (hm : m = (Bk.ideal L).mark s) :
    Calls Try.prog 34 #[.pointer (some ⟨b, 0, none⟩), .string s, .string m] w fun e w' => e = .returned (.bool true) ∧ Mods Nope w w' := by
  obtain ⟨hne, c0, c1, c2, D, hown, hseen⟩ := hb
  have hkey := Go.WideMaps.keyOf_string_mk Try.underlying9 hs
  have hin : place s L < L.length := place_lt.2 hk
  have hhas := (hseen.2.2 s).1
  rw [decide_eq_true hin] at hhas
  have hat0 := (hseen.2.2 s).2 hin
  have HH := Lib.hid (And.intro hhas hat0)
  have HM : Hid (m = mark (place s L + 1)) := hm
  clear hhas hat0 hseen hs hin hk hm hne
  go_enter Try.func34, Try.ntmps34
  go_wp2_with fail
  refine (f80_ideal _ _ c0 c2).mono ?_; rintro e w' ⟨rfl, rfl⟩
  go_wp2_with (at_lookup; refine wpList_lookup_own_ok_int _ rfl _ _ 90 rfl 9 3 .i64 law9 Try.underlying90 Try.underlying3 (zero3 _) mb L.length D rfl hown _ _ rfl hkey ?_)
  intro c hat hwc
  rw [HH.out.1]
  have hc := HH.out.2
  rw [hat] at hc
  obtain rfl := lit_inj hc
  clear hat hwc hc
  go_wp2_with fail
  refine (f82_int _ (place s L + 1) _ (by omega)).mono ?_
  rintro e w1 ⟨rfl, h1⟩
  obtain rfl : m = mark (place s L + 1) := HM
  go_wp2
  go_ret
  exact ⟨by simp, h1⟩
end Go.Proofs.Ytblhbbgkkijkfaa
