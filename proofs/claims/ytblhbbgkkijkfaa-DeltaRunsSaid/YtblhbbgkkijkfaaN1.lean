/- slices.Clone at lists of numbers and of strings, walked. -/
import Derived.Test.YtblhbbgkkijkfaaSB
namespace Go.Proofs.Ytblhbbgkkijkfaa
open Go.RowKit Go.Maps
set_option maxHeartbeats 1000000 in
theorem f102_calls (A : Option Addr) (n c : Nat) (ws : List Int) (w : World) (hl : ws.length = n) (hR : Rd w A (ints ws)) (hn : n ≤ 1000000) :
    Calls Try.prog 102 #[.slice A n c] w fun e w' => ∃ v, e = .returned v ∧ w'.ownsRow w.heap.size 3 1 v n (ints ws) ∧ Mods Nope w w' := by
  have HR := Lib.hid hR
  have HL := Lib.hid hl
  cases A with
  | none =>
    obtain rfl : ws = [] := by
      cases ws with
      | nil => rfl
      | cons x ws => obtain ⟨_, _, h, _⟩ := hR.int 0 (by simp); cases h
    simp at hl
    subst hl
    clear hR HR HL
    have heq := fun (w : World) => Lib.run_eql_slice_nil (P := Try.prog) w 28 3 none 0 c 0 0 Try.underlying28
    go_enter Try.func102, Try.ntmps102
    go_wp2
    go_ret
    exact ⟨_, rfl, World.ownsRow_nil _ _ _ _, Mods.refl _ _⟩
  | some ad =>
    clear hR hl
    have heq := fun (w : World) => Lib.run_eql_slice_nil (P := Try.prog) w 28 3 (some ad) n c 0 0 Try.underlying28
    go_enter Try.func102, Try.ntmps102
    go_upto_region 3 with fail
    go_wp2_with (at_builtin; refine wpList_appN _ rfl _ _ 28 3 (.int .i64 0) 8 rfl Try.underlying28 info3 rfl (by decide) _ [] (some ad) n c (ints ws) rfl rfl (by rw [ints_length]; exact HL.out) (by exact HR.out.alloc _) ?q1 w.heap.size ?q2 (by simp) (by simp; omega) ?_)
    case q1 =>
      intro u hu
      simp only [ints, List.mem_map] at hu
      obtain ⟨x, _, rfl⟩ := hu
      rfl
    case q2 => exact ⟨rfl, .inr ⟨_, _, _, rfl, Nat.le_refl _, heap_alloc_new _ _, Nat.le_refl _, by simp [maxLen], rfl, rfl⟩⟩
    intro v w1 hown hg
    have HO : Hid (w1.ownsRow w.heap.size 3 1 v n (ints ws)) := by unfold Hid; simpa using hown
    have HM : Hid (Mods Nope w w1) := ((Mods.refl Nope w).alloc _).grown hg (fun k hk hlt => by simp [Value.ownBlock] at hk; omega)
    clear hown hg heq
    go_wp2
    go_ret
    exact ⟨_, rfl, HO.out, HM.out⟩
set_option maxHeartbeats 1000000 in
theorem f103_calls (A : Option Addr) (n c : Nat) (ws : List ByteArray) (w : World) (hl : ws.length = n) (hR : Rd w A (strs ws)) (hn : n ≤ 1000000) :
    Calls Try.prog 103 #[.slice A n c] w fun e w' => ∃ v, e = .returned v ∧ w'.ownsRow w.heap.size 9 1 v n (strs ws) ∧ Mods Nope w w' := by
  have HR := Lib.hid hR
  have HL := Lib.hid hl
  cases A with
  | none =>
    obtain rfl : ws = [] := by
      cases ws with
      | nil => rfl
      | cons x ws => obtain ⟨_, _, h, _⟩ := hR.str 0 (by simp); cases h
    simp at hl
    subst hl
    clear hR HR HL
    have heq := fun (w : World) => Lib.run_eql_slice_nil (P := Try.prog) w 29 9 none 0 c 0 0 Try.underlying29
    go_enter Try.func103, Try.ntmps103
    go_wp2
    go_ret
    exact ⟨_, rfl, World.ownsRow_nil _ _ _ _, Mods.refl _ _⟩
  | some ad =>
    clear hR hl
    have heq := fun (w : World) => Lib.run_eql_slice_nil (P := Try.prog) w 29 9 (some ad) n c 0 0 Try.underlying29
    go_enter Try.func103, Try.ntmps103
    go_upto_region 3 with fail
    go_wp2_with (at_builtin; refine wpList_appN _ rfl _ _ 29 9 (.string ⟨#[]⟩) 16 rfl Try.underlying29 info9 rfl (by decide) _ [] (some ad) n c (strs ws) rfl rfl (by rw [strs_length]; exact HL.out) (by exact HR.out.alloc _) ?q1 w.heap.size ?q2 (by simp) (by simp; omega) ?_)
    case q1 =>
      intro u hu
      simp only [strs, List.mem_map] at hu
      obtain ⟨x, _, rfl⟩ := hu
      rfl
    case q2 => exact ⟨rfl, .inr ⟨_, _, _, rfl, Nat.le_refl _, heap_alloc_new _ _, Nat.le_refl _, by simp [maxLen], rfl, rfl⟩⟩
    intro v w1 hown hg
    have HO : Hid (w1.ownsRow w.heap.size 9 1 v n (strs ws)) := by unfold Hid; simpa using hown
    have HM : Hid (Mods Nope w w1) := ((Mods.refl Nope w).alloc _).grown hg (fun k hk hlt => by simp [Value.ownBlock] at hk; omega)
    clear hown hg heq
    go_wp2
    go_ret
    exact ⟨_, rfl, HO.out, HM.out⟩
end Go.Proofs.Ytblhbbgkkijkfaa
