/- barquelaw05.SignSigns, walked. -/
import Derived.Test.YtblhbbgkkijkfaaC5
import Derived.Test.YtblhbbgkkijkfaaD6
namespace Go.Proofs.Ytblhbbgkkijkfaa
open Go.RowKit Go.Maps
set_option maxRecDepth 100000 in
set_option maxHeartbeats 4000000 in
theorem signSigns_err (s : ByteArray) (x : Int) (hs : s.size ≤ maxLen) (hf : fitsB x = false) (w : World) :
    Calls Try.prog 4 #[.string s, .int .i64 x] w fun e w' => e = .returned (.bool true) ∧ Mods Nope w w' := by
  have HF := Lib.hid hf
  have HS := Lib.hid hs
  clear hf hs
  go_enter Try.func4, Try.ntmps4
  go_wp2_with fail
  refine (f28_calls s 3000 _ HS.out (by omega)).mono ?_; rintro e w1 ⟨rfl, rfl⟩
  go_wp2_with fail
  refine (f29_calls _).mono ?_; rintro e w2 ⟨b, mb, rfl, hb1, hmb1, hbk, hm⟩
  go_wp2_with fail
  refine (f30_err _ _ _ _ HF.out).mono ?_; rintro e w3 ⟨rfl, h3⟩
  simp only [sigV]
  go_wp2_with fail
  refine (f31_err _ _ _ _ HF.out).mono ?_; rintro e w4 ⟨rfl, h4⟩
  simp only [sigV]
  have hG := h4.row (row_alloc (heap_alloc_new w3 (.cells #[.int .i64 0, .int .i64 0, .slice none 0 0, .slice none 0 0] 31)) _) (fun h => h)
  have g0 : w4.cell? ⟨w3.heap.size, 0, none⟩ = some (.int .i64 0) := by rw [row_cell hG]; rfl
  have g1 : w4.cell? ⟨w3.heap.size, 1, none⟩ = some (.int .i64 0) := by rw [row_cell hG]; rfl
  have g2 : w4.cell? ⟨w3.heap.size, 2, none⟩ = some (.slice none 0 0) := by rw [row_cell hG]; rfl
  have g3 : w4.cell? ⟨w3.heap.size, 3, none⟩ = some (.slice none 0 0) := by rw [row_cell hG]; rfl
  have a2 : ∀ o, (w4.alloc o).cell? ⟨w3.heap.size, 2, none⟩ = some (.slice none 0 0) := fun o => ((Mods.refl Nope _).alloc o).cell g2 (fun h => h)
  have hlt := row_lt hG
  have HM : Hid (Mods Nope w1 w4) := (((hm.trans h3).alloc _).alloc _).trans h4
  have HG := Lib.hid hG
  clear hG hm h3 h4 hb1 hmb1 hbk
  go_wp2_with fail
  refine (f32_at none none 0 0 0 0 [] [] _ rfl rfl (Rd.nil _ _) (Rd.nil _ _) (by omega)).mono ?_; rintro e w5 ⟨rfl, h5⟩
  have hq : intsEq [] [] = true := by simp [intsEq]
  rw [hq]
  clear hq g0 g1 g2 g3 a2
  have hG1 := h5.row (row_alloc HG.out _) (fun h => h)
  have hG2 := h5.row (heap_alloc_new w4 (.cells #[.int .i64 0, .int .i64 0, .slice none 0 0, .slice none 0 0] 31)) (fun h => h)
  have k3 : w5.cell? ⟨w3.heap.size, 3, none⟩ = some (.slice none 0 0) := by rw [row_cell hG1]; rfl
  have m3 : w5.cell? ⟨w4.heap.size, 3, none⟩ = some (.slice none 0 0) := by rw [row_cell hG2]; rfl
  have HM5 : Hid (Mods Nope w1 w5) := (HM.out.alloc _).trans h5
  clear hG1 hG2 h5 hlt
  go_wp2_with fail
  refine wp_loop_once ?_
  go_wp2_with fail
  refine (f27_calls _).mono ?_; rintro e w6 ⟨rfl, h6⟩
  go_wp2
  go_ret
  exact ⟨rfl, (HM5.out.alloc _).trans h6⟩

/-- What the law holds at the loop's start. -/
structure SSAt (b mb : Nat) (L : List ByteArray) (s : ByteArray) (n g l c c' : Nat) (A A' : Option Addr) (w : World) : Prop where
  g : w.heap[g]? = some (.cells #[.int .i64 n, .int .i64 s.size, .slice A (cnt s.size n) c, .slice A' (cnt s.size n) c'] 31 (0, 0))
  weak : Rd w A (ints (sweak s n (cnt s.size n)))
  strong : Rd w A' (strs ((pcs s n (cnt s.size n)).map (Bk.ideal L).mark))
  knows : ∀ t ∈ pcs s n (cnt s.size n), t ∈ L
  book : IsBook w b mb (.ideal L)
theorem SSAt.nope {b mb : Nat} {L : List ByteArray} {s : ByteArray} {n g l c c' : Nat} {A A' : Option Addr} {w w' : World} (h : SSAt b mb L s n g l c c' A A' w) (hm : Mods Nope w w') : SSAt b mb L s n g l c c' A A' w' :=
  ⟨hm.row h.g (fun h => h), h.weak.below hm, h.strong.below hm, h.knows, h.book.nope hm⟩
theorem adds_ideal (L l : List ByteArray) : ∃ L', (Bk.ideal L).adds l = .ideal L' := by
  induction l generalizing L with
  | nil => exact ⟨L, rfl⟩
  | cons s l ih => rw [Bk.adds_cons]; exact ih _
set_option maxRecDepth 100000 in
set_option maxHeartbeats 4000000 in
theorem signSigns_ok (s : ByteArray) (n : Nat) (hs : s.size ≤ maxLen) (h1 : 16 ≤ n) (h2 : n ≤ 1024) (w : World) :
    Calls Try.prog 4 #[.string s, .int .i64 n] w fun e w' => e = .returned (.bool true) ∧ Mods Nope w w' := by
  have HS := Lib.hid hs
  clear hs
  go_enter Try.func4, Try.ntmps4
  go_wp2_with fail
  refine (f28_calls s 3000 _ HS.out (by omega)).mono ?_; rintro e w1 ⟨rfl, rfl⟩
  have hcz := cutT_size s 3000
  generalize hsc : cutT s 3000 = t at hcz
  clear hsc
  have hts : t.size ≤ 524288 := by omega
  have hcc : cnt t.size n ≤ 3000 := Nat.le_trans (cnt_le t.size n (by omega)) hcz
  go_wp2_with fail
  refine (f29_calls _).mono ?_; rintro e w2 ⟨b, mb, rfl, hb1, hmb1, hbk, hm⟩
  go_wp2_with fail
  refine (f30_ok b mb (.ideal []) t n _ hbk (by simp [Bk.len]) hts h1 h2).mono ?_; rintro e w3 ⟨wv, sv, rfl, hw3, hs3, hb3, h3⟩
  obtain ⟨L, hL⟩ := adds_ideal [] (pcs t n (cnt t.size n))
  obtain ⟨A, c, rfl, _, _, hrw, hnw⟩ := Rd.of_owns hw3
  obtain ⟨A', c', rfl, _, _, hrs, hns⟩ := Rd.of_owns hs3
  simp only [sigV]
  unfold smarks at hrs
  rw [hL] at hrs hb3
  have HK : Hid (∀ x ∈ pcs t n (cnt t.size n), x ∈ L) := by
    intro x hx
    have := Bk.knows_of_mem (B := .ideal []) hx
    rw [hL] at this
    exact this
  have HM3 : Hid (Mods Nope w1 w3) := hm.then h3 (fun i hi e => by unfold MB at e; omega)
  have HB3 := Lib.hid hb3
  have HW3 := Lib.hid hrw
  have HS3 := Lib.hid hrs
  clear hw3 hs3 hb3 h3 hrw hrs hnw hns hm hbk hL
  go_wp2_with fail
  refine (f31_ok (w3.heap.size + 1) (w3.heap.size + 1) (.slice none 0 0) (.ideal []) t n _ ?hbk (by simp [Bk.len]) hts h1 h2).mono ?_
  case hbk =>
    have hr := heap_alloc_new (w3.alloc (.cells #[.int .i64 n, .int .i64 t.size, .slice A (cnt t.size n) c, .slice A' (cnt t.size n) c'] 31)) (.cells #[.bool false, .slice none 0 0] 38)
    rw [show (w3.alloc (.cells #[.int .i64 n, .int .i64 t.size, .slice A (cnt t.size n) c, .slice A' (cnt t.size n) c'] 31)).heap.size = w3.heap.size + 1 by simp] at hr
    exact ⟨Nat.le_refl _, hr, World.ownsRow_nil _ _ _ _⟩
  rintro e w4 ⟨wv, sv, rv, rfl, hw4, hs4, hb4, h4, _, _⟩
  obtain ⟨A1, c1, rfl, _, _, hrw, hnw⟩ := Rd.of_owns hw4
  obtain ⟨A1', c1', rfl, _, _, hrs, hns⟩ := Rd.of_owns hs4
  simp only [sigV]
  have hN : Mods Nope w3 w4 := (((Mods.refl Nope w3).alloc _).alloc _).then h4 (fun i hi e => by
    rcases e with e | e
    · omega
    · simp [Value.ownBlock] at e)
  have hG := h4.row (row_alloc (heap_alloc_new w3 (.cells #[.int .i64 n, .int .i64 t.size, .slice A (cnt t.size n) c, .slice A' (cnt t.size n) c'] 31)) _) (fun e => by
    rcases e with e | e
    · omega
    · simp [Value.ownBlock] at e)
  have HA4 : Hid (SSAt b mb L t n w3.heap.size 0 c c' A A' w4) := ⟨hG, HW3.out.below hN, HS3.out.below hN, HK.out, HB3.out.nope hN⟩
  have HM4 : Hid (Mods Nope w1 w4) := HM3.out.trans hN
  have HW4 := Lib.hid hrw
  have hlt := row_lt hG
  clear hb4 h4 hw4 hs4 hrw hrs hnw hns hN hG HM3 HB3 HW3 HS3
  have g0 : w4.cell? ⟨w3.heap.size, 0, none⟩ = some (.int .i64 n) := by rw [row_cell HA4.out.g]; rfl
  have g1 : w4.cell? ⟨w3.heap.size, 1, none⟩ = some (.int .i64 t.size) := by rw [row_cell HA4.out.g]; rfl
  have g2 : w4.cell? ⟨w3.heap.size, 2, none⟩ = some (.slice A (cnt t.size n) c) := by rw [row_cell HA4.out.g]; rfl
  have hq0 : ((n : Int) != (n : Int)) = false := by simp
  have hq1 : ((t.size : Int) != (t.size : Int)) = false := by simp
  go_wp2_with fail
  refine (f32_at A A1 c c1 _ _ (sweak t n (cnt t.size n)) (sweak t n (cnt t.size n)) _ (sweak_length _ _ _) (sweak_length _ _ _) (HA4.out.weak.alloc _) (HW4.out.alloc _) (by omega)).mono ?_; rintro e w5 ⟨rfl, h5⟩
  have hq : intsEq (sweak t n (cnt t.size n)) (sweak t n (cnt t.size n)) = true := by simp [intsEq]
  rw [hq]
  have hN : Mods Nope w4 w5 := ((Mods.refl Nope w4).alloc _).trans h5
  have HA5 := Lib.hid (HA4.out.nope hN)
  have HM5 : Hid (Mods Nope w1 w5) := HM4.out.trans hN
  have hG2 := h5.row (heap_alloc_new w4 (.cells #[.int .i64 n, .int .i64 t.size, .slice A1 (cnt t.size n) c1, .slice A1' (cnt t.size n) c1'] 31)) (fun h => h)
  have m3 : w5.cell? ⟨w4.heap.size, 3, none⟩ = some (.slice A1' (cnt t.size n) c1') := by rw [row_cell hG2]; rfl
  clear hq g0 g1 g2 hlt hN h5 hG2 HA4 HM4 HW4
  have k3 : w5.cell? ⟨w3.heap.size, 3, none⟩ = some (.slice A' (cnt t.size n) c') := by rw [row_cell HA5.out.g]; rfl
  have hq2 : ((cnt t.size n : Int) != (cnt t.size n : Int)) = false := by simp
  go_wp2_with fail
  refine (f33_calls t n _ hts h1 h2).mono ?_; rintro e w6 ⟨lv, rfl, hl6, h6⟩
  have hN : Mods Nope w5 w6 := ((Mods.refl Nope w5).alloc _).trans h6
  have HA6 := Lib.hid (HA5.out.nope hN)
  have HM6 : Hid (Mods Nope w1 w6) := HM5.out.trans hN
  obtain ⟨A2, c2, rfl, _, _, hrl, _⟩ := Rd.of_owns hl6
  have HL6 := Lib.hid hrl
  clear hN hl6 h6 hrl k3 m3 HA5 HM5
  go_wp2_with fail
  have hcL : Hid ((cnt t.size n : Int) ≤ 3000) := by unfold Hid; omega
  have HCC := Lib.hid hcc
  have HTS := Lib.hid hts
  go_loopg [11] (cnt t.size n) (fun gk i wr => ∃ k, k ≤ cnt t.size n ∧ gk = cnt t.size n - k ∧ i = .int .i64 (k : Nat) ∧ Mods Nope w6 wr)
  case atStart => exact ⟨0, by omega, by omega, rfl, Mods.refl _ _⟩
  case round =>
    obtain ⟨k, hk, rfl, rfl, hm⟩ := hrel
    have HMR := Lib.hid hm
    have HA := Lib.hid (HA6.out.nope hm)
    have hL := HL6.out.below hm
    clear hm
    by_cases hlt : k < cnt t.size n
    · have hci : (k : Int) < (cnt t.size n : Int) := by omega
      have hki : (k : Int) ≤ 3000 := by have := HCC.out; omega
      obtain ⟨lb, lo, hA2, hlc⟩ := hL.str k (by rw [pcs_length]; exact hlt)
      obtain ⟨sb, so, hA', hsc⟩ := HA.out.strong.str k (by rw [List.length_map, pcs_length]; exact hlt)
      have g3 : wr.cell? ⟨w3.heap.size, 3, none⟩ = some (.slice A' (cnt t.size n) c') := by rw [row_cell HA.out.g]; rfl
      have HKK : Hid ((Bk.ideal L).knows ((pcs t n (cnt t.size n))[k]'(by rw [pcs_length]; exact hlt))) := HK.out _ (List.getElem_mem _)
      have HSZ : Hid (((pcs t n (cnt t.size n))[k]'(by rw [pcs_length]; exact hlt)).size ≤ maxLen) := by
        unfold Hid
        have h := pc_size t k n
        have h2 := HTS.out
        simp only [pcs, List.getElem_map, List.getElem_range, maxLen]
        omega
      rw [List.getElem_map] at hsc
      generalize (pcs t n (cnt t.size n))[k]'(by rw [pcs_length]; exact hlt) = x at hlc hsc HKK HSZ
      subst hA2
      subst hA'
      have HB := Lib.hid HA.out.book
      have HLT := Lib.hid hlt
      clear hL
      go_upto_region 13 with fail
      go_region_with (go_at_call 34; refine (f34_ideal b mb L x _ _ (HB.out.nope ((Mods.refl _ _).drew)) HSZ.out HKK.out rfl).mono ?_; rintro e w7 ⟨rfl, h7⟩; have H7 : Hid (Mods Nope wr w7) := ((Mods.refl Nope wr).drew).trans h7; clear h7)
      all_goals
        go_wp2_with fail
        go_roundg (cnt t.size n - (k + 1))
        case measure => have := HLT.out; omega
        case rel => exact ⟨k + 1, HLT.out, rfl, by go_num, HMR.out.trans H7.out⟩
    · have HF := Lib.hid (HA.out.g)
      have g0 : wr.cell? ⟨w3.heap.size, 0, none⟩ = some (.int .i64 n) := by rw [row_cell HA.out.g]; rfl
      have g1 : wr.cell? ⟨w3.heap.size, 1, none⟩ = some (.int .i64 t.size) := by rw [row_cell HA.out.g]; rfl
      have g2 : wr.cell? ⟨w3.heap.size, 2, none⟩ = some (.slice A (cnt t.size n) c) := by rw [row_cell HA.out.g]; rfl
      have g3 : wr.cell? ⟨w3.heap.size, 3, none⟩ = some (.slice A' (cnt t.size n) c') := by rw [row_cell HA.out.g]; rfl
      have hz : ∀ m ∈ (pcs t n (cnt t.size n)).map (Bk.ideal L).mark, m.size = 32 := by
        intro m hm
        obtain ⟨x, _, rfl⟩ := List.mem_map.1 hm
        exact mark_size _
      have hz2 : ∀ m ∈ (pcs t n (cnt t.size n)).map (Bk.ideal L).mark, m.size ≤ maxLen := by
        intro m hm
        rw [hz m hm]
        simp [maxLen]
      have hml : ((pcs t n (cnt t.size n)).map (Bk.ideal L).mark).length = cnt t.size n := by rw [List.length_map, pcs_length]
      have hsg : sigB n t.size (sweak t n (cnt t.size n)) ((pcs t n (cnt t.size n)).map (Bk.ideal L).mark) = true := by
        rw [sigB_true]
        refine ⟨by omega, by omega, by omega, by have := HTS.out; omega, by rw [sweak_length]; simp, by rw [sweak_length, hml], ?_, hz⟩
        intro x hx
        simp only [sweak, List.mem_map] at hx
        obtain ⟨t, _, rfl⟩ := hx
        unfold wk
        omega
      have HZ := Lib.hid hz2
      have HML := Lib.hid hml
      clear hz hz2 hml hL
      go_wp2_with fail
      refine (f35_at _ _ A A' c c' _ _ _ _ _ (sweak_length t n _) HML.out HA.out.weak HA.out.strong HZ.out).mono ?_; rintro e w7 ⟨rfl, h7⟩
      rw [hsg]
      have H7 := Lib.hid (HMR.out.trans h7)
      clear h7
      go_wp2_with fail
      refine (f27_calls _).mono ?_; rintro e w8 ⟨rfl, h8⟩
      go_wp2
      go_ret
      exact ⟨rfl, (HM6.out.trans H7.out).trans h8⟩
theorem signSigns_walk (a0 : ByteArray) (a1 : Int) (w0 : a0.size ≤ maxLen) (w1 : (Lit.int .i64 a1).wf = true) (w : World) :
    Calls Try.prog 4 #[.string a0, .int .i64 a1] w fun e w' => e = .returned (.bool true) ∧ Mods Nope w w' := by
  by_cases hf : fitsB a1 = true
  · have h := fitsB_true.1 hf
    obtain ⟨n, rfl⟩ : ∃ n : Nat, a1 = n := ⟨a1.toNat, by omega⟩
    exact signSigns_ok a0 n w0 (by omega) (by omega) w
  · exact signSigns_err a0 a1 w0 (by simpa using hf) w
end Go.Proofs.Ytblhbbgkkijkfaa
