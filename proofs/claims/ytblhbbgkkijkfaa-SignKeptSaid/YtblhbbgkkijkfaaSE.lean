/- few: at most three hundred of each. -/
import Derived.Test.YtblhbbgkkijkfaaSD
namespace Go.Proofs.Ytblhbbgkkijkfaa
open Go.RowKit Go.Maps
set_option maxRecDepth 100000 in
set_option maxHeartbeats 1000000 in
theorem f36_calls (blk size : Int) (A A' : Option Addr) (c c' l m : Nat) (ws : List Int) (ms : List ByteArray) (w : World) (hl : ws.length = l) (hm : ms.length = m) (hw : Rd w A (ints ws)) (hs : Rd w A' (strs ms)) (hlc : l ≤ c) (hmc : m ≤ c') (hc : c ≤ maxLen) (hc' : c' ≤ maxLen) :
    Calls Try.prog 36 #[.agg #[.int .i64 blk, .int .i64 size, .slice A l c, .slice A' m c']] w fun e w' => e = .returned (.agg #[.int .i64 blk, .int .i64 size, .slice A (min l 300) c, .slice A' (min m 300) c']) ∧ Mods Nope w w' := by
  replace hc : c ≤ 9223372036854775807 := hc
  replace hc' : c' ≤ 9223372036854775807 := hc'
  have HMA := Lib.hid (((Mods.refl Nope w).alloc (.cells #[.int .i64 blk, .int .i64 size, .slice A l c, .slice A' m c'] 31)).alloc (.cells #[.int .i64 0, .int .i64 0, .slice none 0 0, .slice none 0 0] 31))
  have hA : 300 < l → ∃ b off, A = some ⟨b, off, none⟩ := fun h => by
    obtain ⟨b, off, hA, _⟩ := hw.int 0 (by omega)
    exact ⟨b, off, hA⟩
  have hA' : 300 < m → ∃ b off, A' = some ⟨b, off, none⟩ := fun h => by
    obtain ⟨b, off, hA, _⟩ := hs.str 0 (by omega)
    exact ⟨b, off, hA⟩
  clear hw hs hl hm ws ms
  by_cases h1 : 300 < l
  · obtain ⟨b, off, rfl⟩ := hA h1
    clear hA HMA
    by_cases h2 : 300 < m
    · obtain ⟨b', off', rfl⟩ := hA' h2
      clear hA'
      rw [show min l 300 = 300 by omega, show min m 300 = 300 by omega]
      go_enter Try.func36, Try.ntmps36
      go_wp2
      refine bodyPost_ret (v := .agg #[.int .i64 blk, .int .i64 size, .slice (some ⟨b, off, none⟩) 300 c, .slice (some ⟨b', off', none⟩) 300 c']) (by simp [results, Try.results36, go_sem]) rfl ⟨rfl, ((Mods.refl _ _).alloc _).alloc _⟩
    · clear hA'
      rw [show min l 300 = 300 by omega, show min m 300 = m by omega]
      go_enter Try.func36, Try.ntmps36
      go_wp2
      refine bodyPost_ret (v := .agg #[.int .i64 blk, .int .i64 size, .slice (some ⟨b, off, none⟩) 300 c, .slice A' m c']) (by simp [results, Try.results36, go_sem]) rfl ⟨rfl, ((Mods.refl _ _).alloc _).alloc _⟩
  · clear hA HMA
    by_cases h2 : 300 < m
    · obtain ⟨b', off', rfl⟩ := hA' h2
      clear hA'
      rw [show min l 300 = l by omega, show min m 300 = 300 by omega]
      go_enter Try.func36, Try.ntmps36
      go_wp2
      refine bodyPost_ret (v := .agg #[.int .i64 blk, .int .i64 size, .slice A l c, .slice (some ⟨b', off', none⟩) 300 c']) (by simp [results, Try.results36, go_sem]) rfl ⟨rfl, ((Mods.refl _ _).alloc _).alloc _⟩
    · clear hA'
      rw [show min l 300 = l by omega, show min m 300 = m by omega]
      go_enter Try.func36, Try.ntmps36
      go_wp2
      refine bodyPost_ret (v := .agg #[.int .i64 blk, .int .i64 size, .slice A l c, .slice A' m c']) (by simp [results, Try.results36, go_sem]) rfl ⟨rfl, ((Mods.refl _ _).alloc _).alloc _⟩
end Go.Proofs.Ytblhbbgkkijkfaa
