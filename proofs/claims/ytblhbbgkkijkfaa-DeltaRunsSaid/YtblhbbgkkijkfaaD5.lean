/- sign.Right, walked. -/
import Derived.Test.YtblhbbgkkijkfaaD4
namespace Go.Proofs.Ytblhbbgkkijkfaa
open Go.RowKit Go.Maps
/-- May a signature be? -/
def SigOK (blk size : Int) (ws : List Int) (ms : List ByteArray) : Prop :=
  16 ≤ blk ∧ blk ≤ 1024 ∧ 0 ≤ size ∧ size ≤ 524288 ∧ ws.length = cnt size.toNat blk.toNat ∧ ms.length = ws.length ∧ (∀ x ∈ ws, 0 ≤ x ∧ x ≤ 4294967295) ∧ (∀ m ∈ ms, m.size = 32)
open Classical in
noncomputable def sigB (blk size : Int) (ws : List Int) (ms : List ByteArray) : Bool := decide (SigOK blk size ws ms)
theorem sigB_true {blk size : Int} {ws : List Int} {ms : List ByteArray} : sigB blk size ws ms = true ↔ SigOK blk size ws ms := by simp [sigB]
theorem sigB_false {blk size : Int} {ws : List Int} {ms : List ByteArray} (h : ¬ SigOK blk size ws ms) : sigB blk size ws ms = false := by simp [sigB, h]
/-- What the loop has held so far. -/
def SigUpto (ws : List Int) (ms : List ByteArray) (k : Nat) : Prop := ∀ i (h1 : i < ws.length) (h2 : i < ms.length), i < k → 0 ≤ ws[i] ∧ ws[i] ≤ 4294967295 ∧ ms[i].size = 32
theorem SigUpto.step {ws : List Int} {ms : List ByteArray} {k : Nat} (h : SigUpto ws ms k) (h1 : k < ws.length) (h2 : k < ms.length) (a : 0 ≤ ws[k]) (b : ws[k] ≤ 4294967295) (c : ms[k].size = 32) : SigUpto ws ms (k + 1) := by
  intro i i1 i2 hi
  rcases Nat.lt_or_ge i k with hlt | hge
  · exact h i i1 i2 hlt
  · obtain rfl : i = k := by omega
    exact ⟨a, b, c⟩
theorem SigUpto.all {ws : List Int} {ms : List ByteArray} {k : Nat} (h : SigUpto ws ms k) (hk : ws.length ≤ k) (hl : ms.length = ws.length) : (∀ x ∈ ws, 0 ≤ x ∧ x ≤ 4294967295) ∧ (∀ m ∈ ms, m.size = 32) := by
  refine ⟨fun x hx => ?_, fun m hm => ?_⟩
  · obtain ⟨i, hi, rfl⟩ := List.getElem_of_mem hx
    exact ⟨(h i hi (by omega) (by omega)).1, (h i hi (by omega) (by omega)).2.1⟩
  · obtain ⟨i, hi, rfl⟩ := List.getElem_of_mem hm
    exact (h i (by omega) hi (by omega)).2.2
theorem rd_new {w : World} {A : Option Addr} {vs : List Value} (h : Rd w A vs) (o : Obj) (n : Nat) : Rd ((w.alloc o).drewN n) A vs := h.below (((Mods.refl Nope w).alloc o).drewN n)
set_option maxRecDepth 100000 in
set_option maxHeartbeats 2000000 in
theorem f35_calls (blk size : Int) (A A' : Option Addr) (c c' : Nat) (ws : List Int) (ms : List ByteArray) (w : World) (hw : Rd w A (ints ws)) (hs : Rd w A' (strs ms)) (hz : ∀ m ∈ ms, m.size ≤ maxLen) :
    Calls Try.prog 35 #[.agg #[.int .i64 blk, .int .i64 size, .slice A ws.length c, .slice A' ms.length c']] w fun e w' => e = .returned (.bool (sigB blk size ws ms)) ∧ Mods Nope w w' := by
  have HW := Lib.hid hw
  have HS := Lib.hid hs
  have HZ := Lib.hid hz
  clear hw hs hz
  by_cases hf : 16 ≤ blk ∧ blk ≤ 1024
  · have hfit : fitsB blk = true := fitsB_true.2 hf
    obtain ⟨b, rfl⟩ := Int.eq_ofNat_of_zero_le (show 0 ≤ blk by omega)
    by_cases h0 : 0 ≤ size
    · by_cases h5 : size ≤ 524288
      · obtain ⟨n, rfl⟩ := Int.eq_ofNat_of_zero_le h0
        have hn : n ≤ 524288 := by omega
        have hb1 : 16 ≤ b := by omega
        have hb2 : b ≤ 1024 := by omega
        by_cases hc : ws.length = cnt n b
        · by_cases hm : ms.length = ws.length
          · have hbl : (((ms.length : Nat) : Int) != ((ws.length : Nat) : Int)) = false := by simp [hm]
            have hbc : (((ws.length : Nat) : Int) != ((cnt n b : Nat) : Int)) = false := by simp [hc]
            have hwl : ws.length ≤ 524288 := by rw [hc]; exact Nat.le_trans (cnt_le n b (by omega)) hn
            have HM := Lib.hid hm
            have HC := Lib.hid hc
            clear hm hc
            go_enter Try.func35, Try.ntmps35
            go_upto_region 1 with fail
            go_quiet ((first | (go_at_call 74; refine Calls.quiet_of_same (f74_calls _ _)) | (go_at_call 75; refine Calls.quiet_of_same (f75_calls _ _ _ hn hb1 hb2)) | fail))
            go_wp2_with fail
            go_loop [42] (fun i => ∃ k : Nat, k ≤ ws.length ∧ i = .int .i64 (k : Nat) ∧ SigUpto ws ms k) (fun i => ws.length - (intOf i).toNat)
            case atStart => exact ⟨0, Nat.zero_le _, rfl, fun i _ _ h => absurd h (Nat.not_lt_zero _)⟩
            case round =>
              obtain ⟨k, hk, rfl, hu⟩ := hrel
              have HU := Lib.hid hu
              clear hu
              by_cases hlt : k < ws.length
              · have hlt2 : k < ms.length := by have := HM.out; omega
                obtain ⟨g, off, hA, hc1⟩ := HW.out.int k hlt
                obtain ⟨g', off', hA', hc2⟩ := HS.out.str k hlt2
                have b1 : (k : Int) < (ws.length : Int) := by omega
                have b2 : (k : Int) < (ms.length : Int) := by omega
                have c1 : ∀ o n, ((w.alloc o).drewN n).cell? ⟨g, off + k, none⟩ = some (.int .i64 ws[k]) := fun o n => (((Mods.refl Nope w).alloc o).drewN n).cell hc1 (fun h => h)
                have c2 : ∀ o n, ((w.alloc o).drewN n).cell? ⟨g', off' + k, none⟩ = some (.string ms[k]) := fun o n => (((Mods.refl Nope w).alloc o).drewN n).cell hc2 (fun h => h)
                subst hA
                subst hA'
                by_cases q1 : 0 ≤ ws[k]
                · by_cases q2 : ws[k] ≤ 4294967295
                  · by_cases q3 : ms[k].size = 32
                    · have hq : (((ms[k].size : Nat) : Int) != 32) = false := by simp; omega
                      have HU' := Lib.hid (HU.out.step hlt hlt2 q1 q2 q3)
                      clear q3 hc1 hc2
                      go_wp2
                      go_round
                      case rel => exact ⟨k + 1, by omega, by go_num, HU'.out⟩
                      case measure => simp [intOf]; omega
                    · have hq : (((ms[k].size : Nat) : Int) != 32) = true := by simp; omega
                      have HQ := Lib.hid (sigB_false (blk := b) (size := n) (ws := ws) (ms := ms) (fun h => q3 (h.2.2.2.2.2.2.2 _ (List.getElem_mem hlt2))))
                      clear q3 hc1 hc2
                      go_wp2
                      go_ret
                      exact ⟨ret_bool HQ.out.symm, ((Mods.refl _ _).alloc _).drewN _⟩
                  · have HQ := Lib.hid (sigB_false (blk := b) (size := n) (ws := ws) (ms := ms) (fun h => q2 (h.2.2.2.2.2.2.1 _ (List.getElem_mem hlt)).2))
                    clear hc1 hc2
                    go_wp2
                    go_ret
                    exact ⟨ret_bool HQ.out.symm, ((Mods.refl _ _).alloc _).drewN _⟩
                · have HQ := Lib.hid (sigB_false (blk := b) (size := n) (ws := ws) (ms := ms) (fun h => q1 (h.2.2.2.2.2.2.1 _ (List.getElem_mem hlt)).1))
                  clear hc1 hc2
                  go_wp2
                  go_ret
                  exact ⟨ret_bool HQ.out.symm, ((Mods.refl _ _).alloc _).drewN _⟩
              · have HQ : Hid (sigB b n ws ms = true) := by
                  unfold Hid
                  rw [sigB_true]
                  obtain ⟨a1, a2⟩ := HU.out.all (by omega) HM.out
                  exact ⟨by omega, by omega, by omega, by omega, by simpa using HC.out, HM.out, a1, a2⟩
                go_wp2
                go_ret
                exact ⟨ret_bool HQ.out.symm, ((Mods.refl _ _).alloc _).drewN _⟩
          · have HQ := Lib.hid (sigB_false (blk := b) (size := n) (ws := ws) (ms := ms) (fun h => hm h.2.2.2.2.2.1))
            have hbl : (((ms.length : Nat) : Int) != ((ws.length : Nat) : Int)) = true := by simp; omega
            have hbc : (((ws.length : Nat) : Int) != ((cnt n b : Nat) : Int)) = false := by simp [hc]
            clear hm hc
            go_enter Try.func35, Try.ntmps35
            go_upto_region 1 with fail
            go_quiet ((first | (go_at_call 74; refine Calls.quiet_of_same (f74_calls _ _)) | (go_at_call 75; refine Calls.quiet_of_same (f75_calls _ _ _ hn hb1 hb2)) | fail))
            go_wp2
            go_ret
            exact ⟨ret_bool HQ.out.symm, ((Mods.refl _ _).alloc _).drewN _⟩
        · have HQ := Lib.hid (sigB_false (blk := b) (size := n) (ws := ws) (ms := ms) (fun h => hc (by simpa using h.2.2.2.2.1)))
          have hbc : (((ws.length : Nat) : Int) != ((cnt n b : Nat) : Int)) = true := by simp; omega
          clear hc
          go_enter Try.func35, Try.ntmps35
          go_upto_region 1 with fail
          go_quiet ((first | (go_at_call 74; refine Calls.quiet_of_same (f74_calls _ _)) | (go_at_call 75; refine Calls.quiet_of_same (f75_calls _ _ _ hn hb1 hb2)) | fail))
          go_wp2
          go_ret
          exact ⟨ret_bool HQ.out.symm, ((Mods.refl _ _).alloc _).drewN _⟩
      · have HQ := Lib.hid (sigB_false (blk := b) (size := size) (ws := ws) (ms := ms) (by unfold SigOK; omega))
        have hd : decide (size < 0) = false := by simp; omega
        have hd2 : decide (524288 < size) = true := by simp; omega
        go_enter Try.func35, Try.ntmps35
        go_upto_region 1 with fail
        go_quiet ((first | (go_at_call 74; refine Calls.quiet_of_same (f74_calls _ _)) | fail))
        go_wp2
        go_ret
        exact ⟨ret_bool HQ.out.symm, ((Mods.refl _ _).alloc _).drewN _⟩
    · have HQ := Lib.hid (sigB_false (blk := b) (size := size) (ws := ws) (ms := ms) (by unfold SigOK; omega))
      have hd : decide (size < 0) = true := by simp; omega
      go_enter Try.func35, Try.ntmps35
      go_upto_region 1 with fail
      go_quiet ((first | (go_at_call 74; refine Calls.quiet_of_same (f74_calls _ _)) | fail))
      go_wp2
      go_ret
      exact ⟨ret_bool HQ.out.symm, ((Mods.refl _ _).alloc _).drewN _⟩
  · have hfit : fitsB blk = false := fitsB_false.2 (by omega)
    have HQ := Lib.hid (sigB_false (blk := blk) (size := size) (ws := ws) (ms := ms) (by unfold SigOK; omega))
    go_enter Try.func35, Try.ntmps35
    go_upto_region 1 with fail
    go_quiet ((first | (go_at_call 74; refine Calls.quiet_of_same (f74_calls _ _)) | fail))
    go_wp2
    go_ret
    exact ⟨ret_bool HQ.out.symm, ((Mods.refl _ _).alloc _).drewN _⟩
end Go.Proofs.Ytblhbbgkkijkfaa
