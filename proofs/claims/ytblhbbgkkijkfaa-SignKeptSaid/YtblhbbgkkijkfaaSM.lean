/- barqueref05.Same of two signatures that read alike. -/
import Derived.Test.YtblhbbgkkijkfaaSB
namespace Go.Proofs.Ytblhbbgkkijkfaa
open Go.RowKit Go.Maps
set_option maxRecDepth 100000 in
set_option maxHeartbeats 2000000 in
theorem f46_true (blk size : Int) (A A' B B' : Option Addr) (c c' d d' l m : Nat) (ws : List Int) (ms : List ByteArray) (w : World) (hl : ws.length = l) (hm : ms.length = m)
    (hw : Rd w A (ints ws)) (hs : Rd w A' (strs ms)) (hw' : Rd w B (ints ws)) (hs' : Rd w B' (strs ms)) (hlb : l ≤ 9223372036854775807) (hmb : m ≤ 9223372036854775807) :
    Calls Try.prog 46 #[.agg #[.int .i64 blk, .int .i64 size, .slice A l c, .slice A' m c'], .agg #[.int .i64 blk, .int .i64 size, .slice B l d, .slice B' m d']] w fun e w' => e = .returned (.bool true) ∧ Mods Nope w w' := by
  have HW := Lib.hid hw
  have HS := Lib.hid hs
  have HW' := Lib.hid hw'
  have HS' := Lib.hid hs'
  have HL := Lib.hid hl
  have HM := Lib.hid hm
  have e1 : (blk != blk) = false := by simp
  have e2 : (size != size) = false := by simp
  have e3 : (((l : Nat) : Int) != ((l : Nat) : Int)) = false := by simp
  have e4 : (((m : Nat) : Int) != ((m : Nat) : Int)) = false := by simp
  clear hw hs hw' hs' hl hm
  go_enter Try.func46, Try.ntmps46
  go_wp2_with fail
  have HMX : Hid (Mods Nope w ((w.alloc (.cells #[.int .i64 blk, .int .i64 size, .slice A l c, .slice A' m c'] 31)).alloc (.cells #[.int .i64 blk, .int .i64 size, .slice B l d, .slice B' m d'] 31))) := ((Mods.refl Nope w).alloc _).alloc _
  obtain ⟨W0, hW0⟩ : ∃ W0, W0 = ((w.alloc (.cells #[.int .i64 blk, .int .i64 size, .slice A l c, .slice A' m c'] 31)).alloc (.cells #[.int .i64 blk, .int .i64 size, .slice B l d, .slice B' m d'] 31)) := ⟨_, rfl⟩
  have hr0 := row_alloc (heap_alloc_new w (.cells #[.int .i64 blk, .int .i64 size, .slice A l c, .slice A' m c'] 31)) (.cells #[.int .i64 blk, .int .i64 size, .slice B l d, .slice B' m d'] 31)
  have hr1 := heap_alloc_new (w.alloc (.cells #[.int .i64 blk, .int .i64 size, .slice A l c, .slice A' m c'] 31)) (.cells #[.int .i64 blk, .int .i64 size, .slice B l d, .slice B' m d'] 31)
  rw [show (w.alloc (.cells #[.int .i64 blk, .int .i64 size, .slice A l c, .slice A' m c'] 31)).heap.size = w.heap.size + 1 by simp] at hr1
  rw [← hW0] at HMX hr0 hr1 ⊢
  have HR0 := Lib.hid hr0
  have HR1 := Lib.hid hr1
  clear hW0 hr0 hr1
  go_loopw [5] (fun i wr => ∃ k : Nat, k ≤ l ∧ i = .int .i64 (k : Nat) ∧ ∃ n, wr = W0.drewN n) (fun i _ => l - (intOf i).toNat)
  case atStart => exact ⟨0, Nat.zero_le _, rfl, 0, rfl⟩
  case round =>
    obtain ⟨k, hk, rfl, n, rfl⟩ := hrel
    have g2 : W0.cell? ⟨w.heap.size, 2, none⟩ = some (.slice A l c) := by rw [row_cell HR0.out]; rfl
    have g3 : W0.cell? ⟨w.heap.size, 3, none⟩ = some (.slice A' m c') := by rw [row_cell HR0.out]; rfl
    have k2 : W0.cell? ⟨w.heap.size + 1, 2, none⟩ = some (.slice B l d) := by rw [row_cell HR1.out]; rfl
    have k3 : W0.cell? ⟨w.heap.size + 1, 3, none⟩ = some (.slice B' m d') := by rw [row_cell HR1.out]; rfl
    by_cases hlt : k < l
    · have hltw : k < ws.length := by have := HL.out; omega
      obtain ⟨b0, o0, hA, hc0⟩ := (HW.out.below HMX.out).int k hltw
      obtain ⟨b1, o1, hB, hc1⟩ := (HW'.out.below HMX.out).int k hltw
      have hki : (k : Int) < (l : Int) := by omega
      subst hA
      subst hB
      have hne : (ws[k] != ws[k]) = false := by simp
      go_upto_region 6 with fail
      go_quiet (fail)
      go_wp2
      go_roundw
      case rel => exact ⟨k + 1, by omega, by go_num, _, rfl⟩
      case measure => simp [intOf]; omega
    · clear hk
      go_wp2_with fail
      go_loopw [6] (fun i wr => ∃ k : Nat, k ≤ m ∧ i = .int .i64 (k : Nat) ∧ ∃ n, wr = W0.drewN n) (fun i _ => m - (intOf i).toNat)
      case atStart => exact ⟨0, Nat.zero_le _, rfl, n, rfl⟩
      case round =>
        obtain ⟨j, hj, rfl, n', rfl⟩ := hrel
        by_cases hlt : j < m
        · have hltm : j < ms.length := by have := HM.out; omega
          obtain ⟨b0, o0, hA, hc0⟩ := (HS.out.below HMX.out).str j hltm
          obtain ⟨b1, o1, hB, hc1⟩ := (HS'.out.below HMX.out).str j hltm
          have hki : (j : Int) < (m : Int) := by omega
          subst hA
          subst hB
          have hne : ((ms[j]).toList != (ms[j]).toList) = false := by simp
          go_upto_region 11 with fail
          go_quiet (fail)
          go_wp2
          go_roundw
          case rel => exact ⟨j + 1, by omega, by go_num, _, rfl⟩
          case measure => simp [intOf]; omega
        · go_wp2
          go_ret
          exact ⟨rfl, HMX.out.drewN _⟩
end Go.Proofs.Ytblhbbgkkijkfaa
