/- barquelaw05.SignFinds, walked. -/
import Derived.Test.YtblhbbgkkijkfaaLB
import Derived.Test.YtblhbbgkkijkfaaN5
namespace Go.Proofs.Ytblhbbgkkijkfaa
open Go.RowKit Go.Maps
set_option maxRecDepth 100000 in
set_option maxHeartbeats 4000000 in
theorem signFinds_walk (blk size : Int) (A A' : Option Addr) (c c' l m : Nat) (ws : List Int) (ms : List ByteArray) (x : Int) (w : World) (hl : ws.length = l) (hm : ms.length = m) (hw : Rd w A (ints ws)) (hs : Rd w A' (strs ms)) (hz : ∀ m ∈ ms, m.size ≤ maxLen) (hlc : l ≤ c) (hmc : m ≤ c') (hc : c ≤ maxLen) (hc' : c' ≤ maxLen) :
    Calls Try.prog 13 #[.agg #[.int .i64 blk, .int .i64 size, .slice A l c, .slice A' m c'], .int .i64 x] w fun e w' => e = .returned (.bool true) ∧ Mods Nope w w' := by
  have HL := Lib.hid hl
  have HML := Lib.hid hm
  have HZ := Lib.hid hz
  have HW := Lib.hid hw
  have HS := Lib.hid hs
  have H1 := Lib.hid hlc
  have H2 := Lib.hid hmc
  have H3 := Lib.hid hc
  have H4 := Lib.hid hc'
  clear hl hm hw hs hz hlc hmc hc hc'
  go_enter Try.func13, Try.ntmps13
  go_wp2_with fail
  refine (f36_calls blk size A A' c c' l m ws ms _ HL.out HML.out (HW.out.alloc _) (HS.out.alloc _) H1.out H2.out H3.out H4.out).mono ?_; rintro e w1 ⟨rfl, h1⟩
  have hG := h1.row (heap_alloc_new w (.cells #[.int .i64 blk, .int .i64 size, .slice A l c, .slice A' m c'] 31)) (fun h => h)
  have k0 : w1.cell? ⟨w.heap.size, 0, none⟩ = some (.int .i64 blk) := by rw [row_cell hG]; rfl
  have k1 : w1.cell? ⟨w.heap.size, 1, none⟩ = some (.int .i64 size) := by rw [row_cell hG]; rfl
  have k2 : w1.cell? ⟨w.heap.size, 2, none⟩ = some (.slice A l c) := by rw [row_cell hG]; rfl
  have k3 : w1.cell? ⟨w.heap.size, 3, none⟩ = some (.slice A' m c') := by rw [row_cell hG]; rfl
  have f0 : ∀ j, w1.frozen? ⟨w.heap.size, j, none⟩ = false := fun j => row_frozen hG j
  obtain ⟨l', hl'⟩ : ∃ l', l' = min l 300 := ⟨_, rfl⟩
  obtain ⟨m', hm'⟩ : ∃ m', m' = min m 300 := ⟨_, rfl⟩
  rw [← hl', ← hm']
  have HG := Lib.hid hG
  have HL' : Hid ((ws.take 300).length = l') := by unfold Hid; rw [List.length_take, HL.out, hl']; omega
  have HM' : Hid ((ms.take 300).length = m') := by unfold Hid; rw [List.length_take, HML.out, hm']; omega
  have HZ' : Hid (∀ m ∈ ms.take 300, m.size ≤ maxLen) := fun x hx => HZ.out x (List.mem_of_mem_take hx)
  have HM1 := Lib.hid (((Mods.refl Nope w).alloc _).trans h1)
  have HB1 : Hid (l' ≤ 9223372036854775807) := by unfold Hid; omega
  have HB2 : Hid (m' ≤ 9223372036854775807) := by unfold Hid; omega
  clear hG h1 hl' hm'
  go_upto_region 2 with fail
  have hF : FewAt w w.heap.size blk size A A' c c' l' m' (ws.take 300) (ms.take 300) ((((w1.setCell ⟨w.heap.size, 0, none⟩ (.int .i64 blk)).setCell ⟨w.heap.size, 1, none⟩ (.int .i64 size)).setCell ⟨w.heap.size, 2, none⟩ (.slice A l' c)).setCell ⟨w.heap.size, 3, none⟩ (.slice A' m' c')) := by
    have hM : Mods Nope w ((((w1.setCell ⟨w.heap.size, 0, none⟩ (.int .i64 blk)).setCell ⟨w.heap.size, 1, none⟩ (.int .i64 size)).setCell ⟨w.heap.size, 2, none⟩ (.slice A l' c)).setCell ⟨w.heap.size, 3, none⟩ (.slice A' m' c')) :=
      (((HM1.out.setCell ⟨w.heap.size, 0, none⟩ (fun h => absurd h (Nat.lt_irrefl _)) _).setCell ⟨w.heap.size, 1, none⟩ (fun h => absurd h (Nat.lt_irrefl _)) _).setCell ⟨w.heap.size, 2, none⟩ (fun h => absurd h (Nat.lt_irrefl _)) _).setCell ⟨w.heap.size, 3, none⟩ (fun h => absurd h (Nat.lt_irrefl _)) _
    refine ⟨?_, ?_, ?_, hM⟩
    · rw [row_set (row_set (row_set (row_set HG.out 0 _) 1 _) 2 _) 3 _]; rfl
    · rw [show ints (ws.take 300) = (ints ws).take 300 by simp [ints, List.map_take]]
      exact (HW.out.take 300).below hM
    · rw [show strs (ms.take 300) = (strs ms).take 300 by simp [strs, List.map_take]]
      exact (HS.out.take 300).below hM
  clear k0 k1 k2 k3 f0
  revert hF
  generalize (((w1.setCell ⟨w.heap.size, 0, none⟩ (.int .i64 blk)).setCell ⟨w.heap.size, 1, none⟩ (.int .i64 size)).setCell ⟨w.heap.size, 2, none⟩ (.slice A l' c)).setCell ⟨w.heap.size, 3, none⟩ (.slice A' m' c') = w2
  intro hF
  have HF := Lib.hid hF
  clear hF HW HS HL HML HZ H1 H2 H3 H4 HG HM1
  generalize ws.take 300 = us at *
  generalize ms.take 300 = ns at *
  obtain ⟨k0, k1, k2, k3⟩ := FewAtcells HF.out.row
  by_cases hok : sigB blk size us ns = true
  rotate_left
  · have hno : sigB blk size us ns = false := by simpa using hok
    go_wp2_with fail
    refine (f57_bad blk size A A' c c' l' m' us ns _ HL'.out HM'.out HF.out.hw HF.out.hs HZ'.out hno).mono ?_; rintro e w3 ⟨rfl, h3⟩
    have HF3 := Lib.hid (HF.out.nope h3)
    clear h3 k0 k1 k2 k3
    obtain ⟨k0, k1, k2, k3⟩ := FewAtcells HF3.out.row
    go_wp2_with fail
    refine (f39_calls blk size A A' c c' _ _ us ns _ HL'.out HM'.out HF3.out.hw HF3.out.hs HZ'.out HB1.out HB2.out).mono ?_; rintro e w4 ⟨rfl, h4⟩
    rw [hno]
    have HM4 := Lib.hid (HF3.out.mods.trans h4)
    clear h4 hok
    go_wp2_with fail
    refine (f27_calls _).mono ?_; rintro e w5 ⟨rfl, h5⟩
    go_wp2
    go_ret
    exact ⟨rfl, HM4.out.trans h5⟩
  have hk := sigB_true.1 hok
  obtain ⟨b, rfl⟩ := Int.eq_ofNat_of_zero_le (show 0 ≤ blk by have := hk.1; omega)
  obtain ⟨n, rfl⟩ := Int.eq_ofNat_of_zero_le hk.2.2.1
  have hb16 : 16 ≤ b := by have := hk.1; omega
  have hn5 : n ≤ 524288 := by have := hk.2.2.2.1; omega
  obtain rfl := HL'.out
  obtain rfl := HM'.out
  have hQ : n / b ≤ us.length := by
    have h := hk.2.2.2.2.1
    simp only [Int.toNat_natCast] at h
    rw [h]
    exact div_le_cnt n b (by omega)
  have hul : us.length ≤ 524288 := by
    have h := hk.2.2.2.2.1
    simp only [Int.toNat_natCast] at h
    have := cnt_le n b (by omega)
    omega
  have HOKK := Lib.hid hk
  have HQ := Lib.hid hQ
  clear hk hQ
  go_wp2_with fail
  refine (f57_ok b n A A' c c' _ _ us ns _ rfl rfl HF.out.hw HF.out.hs HZ'.out HOKK.out).mono ?_; rintro e w3 ⟨T, wv, sv, kv, bv, bs, rfl, ht, hp, hso, h3⟩
  simp only [Int.toNat_natCast] at hp
  have HF3 := Lib.hid (HF.out.nope h3)
  have HP := Lib.hid hp
  have HSO := Lib.hid hso
  have HT3 := Lib.hid ht
  clear h3 k0 k1 k2 k3 hp hso ht
  obtain ⟨k0, k1, k2, k3⟩ := FewAtcells HF3.out.row
  go_wp2_with fail
  refine (f39_calls b n A A' c c' _ _ us ns _ rfl rfl HF3.out.hw HF3.out.hs HZ'.out HB1.out HB2.out).mono ?_; rintro e w4 ⟨rfl, h4⟩
  rw [hok]
  have HF4 := Lib.hid (HF3.out.nope h4)
  have HT4 := Lib.hid (HT3.out.nope h4)
  clear h4 hok k0 k1 k2 k3
  obtain ⟨k0, k1, k2, k3⟩ := FewAtcells HF4.out.row
  have hnn : ((n : Int) == (n : Int)) = true := by simp
  have hbb : ((b : Int) == (b : Int)) = true := by simp
  have HFL : Hid ((fnd us (n / b) x).length ≤ 1125899906842624) := by unfold Hid; have := fnd_len us (n / b) x; have := HQ.out; omega
  generalize hfl : fnd us (n / b) x = fl at HFL
  have HEQ : Hid (intsEq fl fl = true) := by unfold Hid; simp [intsEq]
  have HFE := Lib.hid hfl
  have HB := Lib.hid hb16
  clear hfl
  have HC40 := Lib.hid (fun (wx : World) h => f40_calls w2.heap.size T (n / b) b n us ns bs wv sv kv bv x wx h HP.out HSO.out (by have := HQ.out; omega))
  have HC58 := Lib.hid (fun (wx : World) h => f58_calls b n A A' c c' us.length ns.length us x wx rfl h HB.out hn5 HQ.out)
  rw [HFE.out] at HC40 HC58
  go_upto_region 5 with fail
  go_region_held3 (fun w' => w'.cell? ⟨w.heap.size, 0, none⟩ = some (.int .i64 b) ∧ w'.cell? ⟨w.heap.size, 1, none⟩ = some (.int .i64 n) ∧ w'.cell? ⟨w.heap.size, 2, none⟩ = some (.slice A us.length c) ∧ w'.cell? ⟨w.heap.size, 3, none⟩ = some (.slice A' ns.length c')) (go_keep)
    (first
      | (go_at_call 43; refine (f43_calls w2.heap.size T b n us ns bs wv sv kv bv _ (HT4.out.nope (by repeat (with_reducible first | exact HMX.out | exact Mods.refl _ _ | apply Mods.drew | apply Mods.drewN)))).mono ?_; rintro e w5 ⟨rfl, rfl⟩)
      | (go_at_call 44; refine (f44_calls w2.heap.size T b n us ns bs wv sv kv bv _ (HT4.out.nope (by repeat (with_reducible first | exact HMX.out | exact Mods.refl _ _ | apply Mods.drew | apply Mods.drewN)))).mono ?_; rintro e w5 ⟨rfl, rfl⟩)
      | (go_at_call 40; refine (HC40.out _ (HT4.out.nope (by repeat (with_reducible first | exact HMX.out | exact Mods.refl _ _ | apply Mods.drew | apply Mods.drewN)))).mono ?_; rintro e w5 ⟨v1, rfl, ho1, hm1⟩
         obtain ⟨A1, c1, rfl, _, _, hr1, _⟩ := Rd.of_owns ho1
         have HMX : Hid (Mods Nope w4 w5) := Mods.trans (by repeat (with_reducible first | exact HMX.out | exact Mods.refl _ _ | apply Mods.drew | apply Mods.drewN)) hm1
         have HR1 := Lib.hid hr1
         obtain ⟨k0, k1, k2, k3⟩ := FewAtcells (HF4.out.nope HMX.out).row
         clear ho1 hm1 hr1)
      | (go_at_call 58; refine (HC58.out _ (HF4.out.hw.below (by repeat (with_reducible first | exact HMX.out | exact Mods.refl _ _ | apply Mods.drew | apply Mods.drewN)))).mono ?_; rintro e w6 ⟨v2, rfl, ho2, hm2⟩
         obtain ⟨A2, c2, rfl, _, _, hr2, _⟩ := Rd.of_owns ho2
         have HR1 := Lib.hid (Rd.below (w' := w6) (w := w5) HR1.out (Mods.trans (by repeat (with_reducible first | exact Mods.refl _ _ | apply Mods.drew | apply Mods.drewN)) hm2))
         have HMX : Hid (Mods Nope w4 w6) := Mods.trans (by repeat (with_reducible first | exact HMX.out | exact Mods.refl _ _ | apply Mods.drew | apply Mods.drewN)) hm2
         have HR2 := Lib.hid hr2
         obtain ⟨k0, k1, k2, k3⟩ := FewAtcells (HF4.out.nope HMX.out).row
         clear ho2 hm2 hr2)
      | (go_at_call 32; refine (f32_at A1 A2 c1 c2 _ _ fl fl _ rfl rfl (by exact HR1.out) (by exact HR2.out) HFL.out).mono ?_; rintro e w7 ⟨rfl, h7⟩
         rw [HEQ.out]
         have HMX : Hid (Mods Nope w4 w7) := Mods.trans (by repeat (with_reducible first | exact HMX.out | exact Mods.refl _ _ | apply Mods.drew | apply Mods.drewN)) h7
         obtain ⟨k0, k1, k2, k3⟩ := FewAtcells (HF4.out.nope HMX.out).row
         clear h7)
      | (go_at_call 27; refine (f27_calls _).mono ?_; rintro e w8 ⟨rfl, h8⟩
         have HMX : Hid (Mods Nope w4 w8) := Mods.trans (by repeat (with_reducible first | exact HMX.out | exact Mods.refl _ _ | apply Mods.drew | apply Mods.drewN)) h8
         obtain ⟨k0, k1, k2, k3⟩ := FewAtcells (HF4.out.nope HMX.out).row
         clear h8))
  all_goals
    go_wp2
    go_ret
    exact ⟨rfl, HF4.out.mods.trans HMX.out⟩
end Go.Proofs.Ytblhbbgkkijkfaa
