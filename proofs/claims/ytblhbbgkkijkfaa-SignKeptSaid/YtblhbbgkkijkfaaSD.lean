/- barqueref05.Bytes: the same bytes. -/
import Derived.Test.YtblhbbgkkijkfaaSC
namespace Go.Proofs.Ytblhbbgkkijkfaa
open Go.RowKit Go.Maps
theorem bs_append (a b : List UInt8) : (⟨a.toArray⟩ : ByteArray) ++ ⟨b.toArray⟩ = ⟨(a ++ b).toArray⟩ := by
  apply ByteArray.ext
  simp [ByteArray.data_append]
theorem bs_append' (a : List UInt8) (b : ByteArray) : (⟨a.toArray⟩ : ByteArray) ++ b = ⟨(a ++ b.data.toList).toArray⟩ := by
  rw [← bs_append]
theorem f86_int (x : Int) (w : World) (h0 : 0 ≤ x) (hn : x ≤ 4294967295) :
    Calls Try.prog 86 #[.int .i64 x] w fun e w' => e = .returned (.string ⟨(numL x.toNat).toArray⟩) ∧ Mods Nope w w' := by
  obtain ⟨n, rfl⟩ := Int.eq_ofNat_of_zero_le h0
  exact f86_calls n w (by omega)
set_option maxRecDepth 100000 in
set_option maxHeartbeats 1000000 in
theorem f38_bad (blk size : Int) (A A' : Option Addr) (c c' l m : Nat) (ws : List Int) (ms : List ByteArray) (w : World) (hl : ws.length = l) (hm : ms.length = m) (hw : Rd w A (ints ws)) (hs : Rd w A' (strs ms)) (hz : ∀ m ∈ ms, m.size ≤ maxLen) (hlb : l ≤ maxLen) (hmb : m ≤ maxLen) (hok : sigB blk size ws ms = false) :
    Calls Try.prog 38 #[.agg #[.int .i64 blk, .int .i64 size, .slice A l c, .slice A' m c']] w fun e w' => e = .returned (.tuple #[.string ⟨#[]⟩, .int .i64 1]) ∧ Mods Nope w w' := by
  have HLB := Lib.hid hlb
  have HMB := Lib.hid hmb
  clear hlb hmb
  go_enter Try.func38, Try.ntmps38
  go_wp2_with fail
  refine (f39_calls _ _ A A' c c' _ _ _ _ _ hl hm (hw.alloc _) (hs.alloc _) hz HLB.out HMB.out).mono ?_; rintro e w1 ⟨rfl, h1⟩
  rw [hok]
  have H := Lib.hid (((Mods.refl Nope w).alloc _).trans h1)
  clear h1
  go_wp2
  go_ret2
  exact ⟨rfl, H.out⟩
set_option maxRecDepth 100000 in
set_option maxHeartbeats 1000000 in
theorem f38_ok (blk size : Int) (A A' : Option Addr) (c c' l m : Nat) (ws : List Int) (ms : List ByteArray) (w : World) (hl : ws.length = l) (hm : ms.length = m) (hw : Rd w A (ints ws)) (hs : Rd w A' (strs ms)) (hz : ∀ m ∈ ms, m.size ≤ maxLen) (hok : SigOK blk size ws ms) :
    Calls Try.prog 38 #[.agg #[.int .i64 blk, .int .i64 size, .slice A l c, .slice A' m c']] w fun e w' => e = .returned (.tuple #[.string ⟨(sigL blk size ws ms).toArray⟩, .int .i64 0]) ∧ Mods Nope w w' := by
  have hsb := sigB_true.2 hok
  have hl2 : l ≤ 524288 := by
    have := hok.2.2.2.2.1
    have h2 := cnt_le size.toNat blk.toNat (by have := hok.1; omega)
    have := hok.2.2.2.1
    have := hok.2.2.1
    omega
  have hml : m = l := by rw [← hm, ← hl]; exact hok.2.2.2.2.2.1
  have HLB : Hid (l ≤ maxLen) := by unfold Hid maxLen; omega
  have HMB : Hid (m ≤ maxLen) := by unfold Hid maxLen; omega
  have HMLL := Lib.hid hml
  have hmb : m ≤ 524288 := by omega
  clear hml
  go_enter Try.func38, Try.ntmps38
  go_wp2_with fail
  refine (f39_calls _ _ A A' c c' _ _ _ _ _ hl hm (hw.alloc _) (hs.alloc _) hz HLB.out HMB.out).mono ?_; rintro e w1 ⟨rfl, h1⟩
  rw [hsb]
  have HOK := Lib.hid hok
  have HG := Lib.hid (h1.row (heap_alloc_new w (.cells #[.int .i64 blk, .int .i64 size, .slice A l c, .slice A' m c'] 31)) (fun h => h))
  have HM1 := Lib.hid (((Mods.refl Nope w).alloc _).trans h1)
  have HW := Lib.hid (hw.below HM1.out)
  have HS := Lib.hid (hs.below HM1.out)
  have HL := Lib.hid hl
  have HML := Lib.hid hm
  have HXN := Lib.hid hok.2.2.2.2.2.2.1
  have HX2 := Lib.hid hok.2.2.2.2.2.2.2
  have hb0 : 0 ≤ blk := by have := hok.1; omega
  have hb1 : blk ≤ 4294967295 := by have := hok.2.1; omega
  have hs0 : 0 ≤ size := hok.2.2.1
  have hs1 : size ≤ 4294967295 := by have := hok.2.2.2.1; omega
  have H := Lib.hid (Mods.refl Nope w1)
  have n1 : (numL blk.toNat).length ≤ 5 := numL_len 4 _ (by have : blk.toNat < 4294967296 := by omega
                                                            exact Nat.lt_of_lt_of_le this (by decide))
  have n2 : (numL size.toNat).length ≤ 5 := numL_len 4 _ (by have : size.toNat < 4294967296 := by omega
                                                             exact Nat.lt_of_lt_of_le this (by decide))
  have k0 : w1.cell? ⟨w.heap.size, 0, none⟩ = some (.int .i64 blk) := by rw [row_cell HG.out]; rfl
  have k1 : w1.cell? ⟨w.heap.size, 1, none⟩ = some (.int .i64 size) := by rw [row_cell HG.out]; rfl
  clear hok hw hs hz hsb h1 hl hm
  go_upto_region 3 with fail
  go_cut [4] (fun s wx => s = .string (⟨(numL blk.toNat).toArray⟩ ++ ⟨(numL size.toNat).toArray⟩) ∧ Mods Nope w1 wx)
  case first =>
    go_region_with (go_at_call 86; refine (f86_int _ _ (by first | exact hb0 | exact hs0) (by first | exact hb1 | exact hs1)).mono ?_; rintro e w2 ⟨rfl, h2⟩; have H := Lib.hid (show Mods Nope w1 w2 by first | exact (H.out.drew).trans h2 | exact H.out.trans h2); have k0 : w2.cell? ⟨w.heap.size, 0, none⟩ = some (.int .i64 blk) := (by rw [row_cell (H.out.row HG.out (fun h => h))]; rfl); have k1 : w2.cell? ⟨w.heap.size, 1, none⟩ = some (.int .i64 size) := (by rw [row_cell (H.out.row HG.out (fun h => h))]; rfl); clear h2)
    all_goals (go_wp2_with fail; go_meet; exact ⟨rfl, H.out⟩)
  case rest =>
    obtain ⟨hs, hmc⟩ := hcut
    rw [bs_append] at hs
    subst hs
    have HMC := Lib.hid hmc
    have HN12 : Hid (numL blk.toNat ++ numL size.toNat = numsL [blk, size]) := by unfold Hid; simp [numsL]
    rw [HN12.out]
    have hlw : l = ws.length := HL.out.symm
    have HLW := Lib.hid hlw
    clear hmc k0 k1 n1 n2 hlw
    go_wp2_with fail
    go_loopg [5, 4] l (fun gk i s wr => ∃ k, k ≤ l ∧ gk = l - k ∧ i = .int .i64 (k : Nat) ∧ s = .string ⟨(numsL ([blk, size] ++ ws.take k)).toArray⟩ ∧ Mods Nope w1 wr)
    case atStart => exact ⟨0, by omega, by omega, rfl, rfl, HMC.out⟩
    case round =>
      obtain ⟨k, hk, rfl, rfl, rfl, hM⟩ := hrel
      have HM := Lib.hid hM
      have g2 : wr.cell? ⟨w.heap.size, 2, none⟩ = some (.slice A l c) := by rw [row_cell (hM.row HG.out (fun h => h))]; rfl
      by_cases hlt : k < l
      · have hci : (k : Int) < (l : Int) := by omega
        have hltw : k < ws.length := by have := HLW.out; omega
        obtain ⟨lb, lo, hA, hlc⟩ := (HW.out.below hM).int k hltw
        subst hA
        have hx := HXN.out _ (List.getElem_mem hltw)
        have HT : Hid ([blk, size] ++ ws.take (k + 1) = ([blk, size] ++ ws.take k) ++ [ws[k]]) := by unfold Hid; rw [List.take_succ_eq_append_getElem hltw, List.append_assoc]
        have hln : (numsL ([blk, size] ++ ws.take k)).length ≤ 5 * (k + 2) := by
          have h1 := numsL_len ([blk, size] ++ ws.take k) (fun y hy => by
            rcases List.mem_append.1 hy with hy | hy
            · rcases List.mem_cons.1 hy with rfl | hy
              · exact ⟨hb0, hb1⟩
              · rcases List.mem_cons.1 hy with rfl | hy
                · exact ⟨hs0, hs1⟩
                · cases hy
            · exact HXN.out y (List.mem_of_mem_take hy))
          rw [List.length_append, List.length_take, Nat.min_eq_left (by omega), show ([blk, size] : List Int).length = 2 from rfl] at h1
          omega
        have hn5 : (numL (ws[k]).toNat).length ≤ 5 := numL_len 4 _ (by have : (ws[k]).toNat < 4294967296 := by omega
                                                                       exact Nat.lt_of_lt_of_le this (by decide))
        have HLT := Lib.hid hlt
        generalize hxk : ws[k] = x at *
        obtain ⟨hx0, hx1⟩ := hx
        generalize hLL : numsL ([blk, size] ++ ws.take k) = LL at *
        have HLL := Lib.hid hLL
        clear hM hltw hxk hLL
        go_wp2_with fail
        refine (f86_int x _ hx0 hx1).mono ?_; rintro e w3 ⟨rfl, h3⟩
        have H3 := Lib.hid (HM.out.trans h3)
        clear h3 hlc g2
        go_wp2_with fail
        go_roundg (l - (k + 1))
        case measure => have := HLT.out; omega
        case rel => exact ⟨k + 1, HLT.out, rfl, by go_num, by rw [HT.out, numsL_snoc, HLL.out, bs_append], H3.out⟩
      · obtain rfl : k = l := by omega
        have hfin : [blk, size] ++ ws.take k = blk :: size :: ws := by rw [List.take_of_length_le (by have := HLW.out; omega)]; rfl
        rw [hfin]
        have g3 : wr.cell? ⟨w.heap.size, 3, none⟩ = some (.slice A' m c') := by rw [row_cell (hM.row HG.out (fun h => h))]; rfl
        have HS2 := Lib.hid (HS.out.below hM)
        have hnl : (numsL (blk :: size :: ws)).length ≤ 5 * (k + 2) := by
          have h1 := numsL_len (blk :: size :: ws) (fun y hy => by
            rcases List.mem_cons.1 hy with rfl | hy
            · exact ⟨hb0, hb1⟩
            · rcases List.mem_cons.1 hy with rfl | hy
              · exact ⟨hs0, hs1⟩
              · exact HXN.out y hy)
          simp only [List.length_cons] at h1
          have := HLW.out
          omega
        clear hM hfin
        go_wp2_with fail
        go_loop [6, 4] (fun i s => ∃ j : Nat, j ≤ m ∧ i = .int .i64 (j : Nat) ∧ s = .string ⟨(numsL (blk :: size :: ws) ++ marksL (ms.take j)).toArray⟩) (fun i s => m - (intOf i).toNat)
        case atStart => exact ⟨0, by omega, rfl, by simp [marksL]⟩
        case round =>
          obtain ⟨j, hj, rfl, rfl⟩ := hrel
          by_cases hlt : j < m
          · have hci : (j : Int) < (m : Int) := by omega
            have hltm : j < ms.length := by have := HML.out; omega
            obtain ⟨sb, so, hA, hsc⟩ := HS2.out.str j hltm
            subst hA
            have hX : (ms[j]).size = 32 := HX2.out _ (List.getElem_mem hltm)
            have HT : Hid (ms.take (j + 1) = ms.take j ++ [ms[j]]) := List.take_succ_eq_append_getElem hltm
            have hml := marksL_len (ms.take j) (fun x hx => HX2.out x (List.mem_of_mem_take hx))
            rw [List.length_take, Nat.min_eq_left (by omega)] at hml
            have hll : (numsL (blk :: size :: ws) ++ marksL (ms.take j)).length ≤ 50000000 := by rw [List.length_append]; omega
            generalize ms[j] = x at *
            generalize hLL : numsL (blk :: size :: ws) ++ marksL (ms.take j) = LL at *
            have HLL := Lib.hid hLL
            have hxb : x.size ≤ 32 := by omega
            clear hltm hml hX hLL
            go_wp2_with fail
            go_round
            case rel => exact ⟨j + 1, hlt, by go_num, by rw [HT.out, marksL_snoc, ← List.append_assoc, HLL.out, bs_append']⟩
            case measure => simp [intOf]; omega
          · obtain rfl : j = m := by omega
            have hfin : numsL (blk :: size :: ws) ++ marksL (ms.take j) = sigL blk size ws ms := by
              rw [List.take_of_length_le (by have := HML.out; omega)]
              rfl
            rw [hfin]
            have HF : Hid (Mods Nope w wr) := HM1.out.trans HM.out
            clear hfin
            go_wp2
            go_ret2
            exact ⟨rfl, HF.out⟩
end Go.Proofs.Ytblhbbgkkijkfaa
