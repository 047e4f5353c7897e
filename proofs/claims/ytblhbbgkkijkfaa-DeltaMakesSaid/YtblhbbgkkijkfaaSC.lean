/- barqueref05.Right, Bytes; few. -/
import Derived.Test.YtblhbbgkkijkfaaSB
namespace Go.Proofs.Ytblhbbgkkijkfaa
open Go.RowKit Go.Maps
set_option maxRecDepth 100000 in
set_option maxHeartbeats 4000000 in
theorem f39_calls (blk size : Int) (A A' : Option Addr) (c c' l m : Nat) (ws : List Int) (ms : List ByteArray) (w : World) (hl : ws.length = l) (hm : ms.length = m) (hw : Rd w A (ints ws)) (hs : Rd w A' (strs ms)) (hz : ∀ m ∈ ms, m.size ≤ maxLen) (hlb : l ≤ maxLen) (hmb : m ≤ maxLen) :
    Calls Try.prog 39 #[.agg #[.int .i64 blk, .int .i64 size, .slice A l c, .slice A' m c']] w fun e w' => e = .returned (.bool (sigB blk size ws ms)) ∧ Mods Nope w w' := by
  have HW := Lib.hid hw
  have HS := Lib.hid hs
  have HZ := Lib.hid hz
  have HL := Lib.hid hl
  have HML := Lib.hid hm
  have HLB := Lib.hid hlb
  have HMB := Lib.hid hmb
  clear hw hs hz hlb hmb hl hm
  by_cases p1 : blk < 16
  · have HQ := Lib.hid (sigB_false (blk := blk) (size := size) (ws := ws) (ms := ms) (by unfold SigOK; omega))
    have hd : decide (blk < 16) = true := by simp; omega
    clear p1
    go_enter Try.func39, Try.ntmps39
    go_wp2
    go_ret
    exact ⟨ret_bool HQ.out.symm, (Mods.refl _ _).alloc _⟩
  have d1 : decide (blk < 16) = false := by simp; omega
  by_cases p2 : 1024 < blk
  · have HQ := Lib.hid (sigB_false (blk := blk) (size := size) (ws := ws) (ms := ms) (by unfold SigOK; omega))
    have hd : decide (1024 < blk) = true := by simp; omega
    clear p1 p2
    go_enter Try.func39, Try.ntmps39
    go_wp2
    go_ret
    exact ⟨ret_bool HQ.out.symm, (Mods.refl _ _).alloc _⟩
  have d2 : decide (1024 < blk) = false := by simp; omega
  by_cases p3 : size < 0
  · have HQ := Lib.hid (sigB_false (blk := blk) (size := size) (ws := ws) (ms := ms) (by unfold SigOK; omega))
    have hd : decide (size < 0) = true := by simp; omega
    clear p1 p2 p3
    go_enter Try.func39, Try.ntmps39
    go_wp2
    go_ret
    exact ⟨ret_bool HQ.out.symm, (Mods.refl _ _).alloc _⟩
  have d3 : decide (size < 0) = false := by simp; omega
  by_cases p4 : 524288 < size
  · have HQ := Lib.hid (sigB_false (blk := blk) (size := size) (ws := ws) (ms := ms) (by unfold SigOK; omega))
    have hd : decide (524288 < size) = true := by simp; omega
    clear p1 p2 p3 p4
    go_enter Try.func39, Try.ntmps39
    go_wp2
    go_ret
    exact ⟨ret_bool HQ.out.symm, (Mods.refl _ _).alloc _⟩
  have d4 : decide (524288 < size) = false := by simp; omega
  obtain ⟨n, rfl⟩ := Int.eq_ofNat_of_zero_le (show 0 ≤ size by omega)
  obtain ⟨b, rfl⟩ := Int.eq_ofNat_of_zero_le (show 0 ≤ blk by omega)
  have hb1 : 16 ≤ b := by omega
  have hb2 : b ≤ 1024 := by omega
  have hn : n ≤ 524288 := by omega
  have hcnt : ((n : Int) + b - 1) / b = ((cnt n b : Nat) : Int) := by
    unfold cnt
    rw [Int.natCast_ediv]
    congr 1
    omega
  have hcl : cnt n b ≤ 524288 := Nat.le_trans (cnt_le n b (by omega)) hn
  clear p1 p2 p3 p4
  by_cases q1 : l = cnt n b
  rotate_left
  · have HQ := Lib.hid (sigB_false (blk := b) (size := n) (ws := ws) (ms := ms) (fun h => q1 (by rw [← HL.out]; simpa using h.2.2.2.2.1)))
    have hbl : (((l : Nat) : Int) != ((cnt n b : Nat) : Int)) = true := by simp; omega
    clear q1
    go_enter Try.func39, Try.ntmps39
    go_wp2
    go_ret
    exact ⟨ret_bool HQ.out.symm, (Mods.refl _ _).alloc _⟩
  by_cases q2 : m = cnt n b
  rotate_left
  · have HQ := Lib.hid (sigB_false (blk := b) (size := n) (ws := ws) (ms := ms) (fun h => q2 (by have h2 := h.2.2.2.2.2.1; rw [HML.out, HL.out] at h2; omega)))
    have hbl : (((l : Nat) : Int) != ((cnt n b : Nat) : Int)) = false := by simp; omega
    have hbm : (((m : Nat) : Int) != ((cnt n b : Nat) : Int)) = true := by simp; omega
    clear q1 q2
    go_enter Try.func39, Try.ntmps39
    go_wp2
    go_ret
    exact ⟨ret_bool HQ.out.symm, (Mods.refl _ _).alloc _⟩
  have hbl : (((l : Nat) : Int) != ((cnt n b : Nat) : Int)) = false := by simp; omega
  have hbm : (((m : Nat) : Int) != ((cnt n b : Nat) : Int)) = false := by simp; omega
  have hlc : (l : Int) ≤ 524288 := by omega
  have Q1 := Lib.hid q1
  have Q2 := Lib.hid q2
  clear q1 q2
  go_enter Try.func39, Try.ntmps39
  go_wp2_with fail
  go_loop [4] (fun i => ∃ k : Nat, k ≤ cnt n b ∧ i = .int .i64 (k : Nat) ∧ SigUpto ws ms k) (fun i => cnt n b - (intOf i).toNat)
  case atStart => exact ⟨0, Nat.zero_le _, rfl, fun i _ _ h => absurd h (Nat.not_lt_zero _)⟩
  case round =>
    obtain ⟨k, hk, rfl, hu⟩ := hrel
    have HU := Lib.hid hu
    clear hu
    by_cases hlt : k < cnt n b
    · have hlw : k < ws.length := by have := HL.out; have := Q1.out; omega
      have hlt2 : k < ms.length := by have := HML.out; have := Q2.out; omega
      obtain ⟨g, off, hA, hc1⟩ := HW.out.int k hlw
      obtain ⟨g', off', hA', hc2⟩ := HS.out.str k hlt2
      have b1 : (k : Int) < (l : Int) := by have := Q1.out; omega
      have b2 : (k : Int) < (m : Int) := by have := Q2.out; omega
      have c1 : ∀ o, (w.alloc o).cell? ⟨g, off + k, none⟩ = some (.int .i64 ws[k]) := fun o => ((Mods.refl Nope w).alloc o).cell hc1 (fun h => h)
      have c2 : ∀ o, (w.alloc o).cell? ⟨g', off' + k, none⟩ = some (.string ms[k]) := fun o => ((Mods.refl Nope w).alloc o).cell hc2 (fun h => h)
      have hms := HZ.out _ (List.getElem_mem hlt2)
      unfold maxLen at hms
      subst hA
      subst hA'
      by_cases q1 : 0 ≤ ws[k]
      · have dd1 : decide (ws[k] < 0) = false := by simp; omega
        by_cases q2 : ws[k] ≤ 4294967295
        · have dd2 : decide (4294967295 < ws[k]) = false := by simp; omega
          by_cases q3 : ms[k].size = 32
          · have hq : (((ms[k].size : Nat) : Int) != 32) = false := by simp; omega
            have HU' := Lib.hid (HU.out.step hlw hlt2 q1 q2 q3)
            clear q3 hc1 hc2
            go_wp2
            go_round
            case rel => exact ⟨k + 1, by omega, by go_num, HU'.out⟩
            case measure => simp [intOf]; omega
          · have hq : (((ms[k].size : Nat) : Int) != 32) = true := by simp; omega
            have HQ := Lib.hid (sigB_false (blk := b) (size := n) (ws := ws) (ms := ms) (fun h => q3 (h.2.2.2.2.2.2.2 _ (List.getElem_mem hlt2))))
            clear q3 hc1 hc2
            go_wp2
            go_ret
            exact ⟨ret_bool HQ.out.symm, (Mods.refl _ _).alloc _⟩
        · have dd2 : decide (4294967295 < ws[k]) = true := by simp; omega
          have HQ := Lib.hid (sigB_false (blk := b) (size := n) (ws := ws) (ms := ms) (fun h => q2 (h.2.2.2.2.2.2.1 _ (List.getElem_mem hlw)).2))
          clear hc1 hc2
          go_wp2
          go_ret
          exact ⟨ret_bool HQ.out.symm, (Mods.refl _ _).alloc _⟩
      · have dd1 : decide (ws[k] < 0) = true := by simp; omega
        have HQ := Lib.hid (sigB_false (blk := b) (size := n) (ws := ws) (ms := ms) (fun h => q1 (h.2.2.2.2.2.2.1 _ (List.getElem_mem hlw)).1))
        clear hc1 hc2
        go_wp2
        go_ret
        exact ⟨ret_bool HQ.out.symm, (Mods.refl _ _).alloc _⟩
    · have HQ : Hid (sigB b n ws ms = true) := by
        unfold Hid
        rw [sigB_true]
        have e1 := HL.out
        have e2 := HML.out
        have e3 := Q1.out
        have e4 := Q2.out
        obtain ⟨a1, a2⟩ := HU.out.all (by omega) (by omega)
        exact ⟨by omega, by omega, by omega, by omega, by simp; omega, by omega, a1, a2⟩
      go_wp2
      go_ret
      exact ⟨ret_bool HQ.out.symm, (Mods.refl _ _).alloc _⟩
end Go.Proofs.Ytblhbbgkkijkfaa
