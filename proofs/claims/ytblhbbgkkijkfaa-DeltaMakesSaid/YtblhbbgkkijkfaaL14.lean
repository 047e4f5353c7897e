/- barquelaw05.SignMatches, walked. -/
import Derived.Test.YtblhbbgkkijkfaaMP
import Derived.Test.YtblhbbgkkijkfaaC5
namespace Go.Proofs.Ytblhbbgkkijkfaa
open Go.RowKit Go.Maps
/-- The lists of a signed text under an ideal book. -/
theorem sign_lists (s : ByteArray) (n : Nat) (hs : s.size ≤ 524288) (h1 : 16 ≤ n) (h2 : n ≤ 1024) :
    ∃ L, (Bk.ideal []).adds (pcs s n (cnt s.size n)) = .ideal L ∧ smarks (.ideal []) s n (cnt s.size n) = (pcs s n (cnt s.size n)).map (Bk.ideal L).mark ∧ L.length ≤ 524288 ∧ (∀ y ∈ pcs s n (cnt s.size n), y ∈ L) ∧
      SigOK n s.size (sweak s n (cnt s.size n)) ((pcs s n (cnt s.size n)).map (Bk.ideal L).mark) := by
  obtain ⟨L, hL⟩ : ∃ L, (Bk.ideal []).adds (pcs s n (cnt s.size n)) = .ideal L := by
    generalize pcs s n (cnt s.size n) = l
    generalize ([] : List ByteArray) = M
    induction l generalizing M with
    | nil => exact ⟨M, rfl⟩
    | cons s l ih => rw [Bk.adds_cons]; exact ih _
  have hm : smarks (.ideal []) s n (cnt s.size n) = (pcs s n (cnt s.size n)).map (Bk.ideal L).mark := by unfold smarks; rw [hL]
  refine ⟨L, hL, hm, ?_, ?_, ?_⟩
  · have h := Bk.len_adds (.ideal []) (pcs s n (cnt s.size n))
    rw [hL, pcs_length] at h
    have h3 := cnt_le s.size n (by omega)
    simp only [Bk.len, List.length_nil] at h
    omega
  · intro y hy
    have := Bk.knows_of_mem (B := .ideal []) hy
    rw [hL] at this
    exact this
  · rw [← hm]
    exact sigOK_sign (.ideal []) s n hs h1 h2 (fun l t => ideal_mark_size [] l t)
theorem rng_drop {N k : Nat} (h : k < N) : (rng N).drop k = (k : Int) :: (rng N).drop (k + 1) := by
  rw [List.drop_eq_getElem_cons (by rw [rng_length]; exact h)]
  simp [rng]
/-- The blocks from k on. -/
def ck (s : ByteArray) (n : Nat) (x : Int) (t : ByteArray) (k : Nat) : List Int := ((rng (cnt s.size n)).drop k).filter (isC s n x t)
theorem ck_step {s : ByteArray} {n : Nat} {x : Int} {t : ByteArray} {k : Nat} (h : k < cnt s.size n) : ck s n x t k = if isC s n x t (k : Int) = true then (k : Int) :: ck s n x t (k + 1) else ck s n x t (k + 1) := by
  unfold ck
  rw [rng_drop h, List.filter_cons]
theorem ck_end (s : ByteArray) (n : Nat) (x : Int) (t : ByteArray) : ck s n x t (cnt s.size n) = [] := by
  unfold ck
  rw [List.drop_eq_nil_of_le (by rw [rng_length]; exact Nat.le_refl _)]
  rfl
theorem ck_zero (s : ByteArray) (n : Nat) (x : Int) (t : ByteArray) : ck s n x t 0 = cl s n x t := rfl
/-- Marking one text more. -/
theorem add_more (L : List ByteArray) (t : ByteArray) : ∃ M, (Bk.ideal L).add t = .ideal M ∧ M.length ≤ L.length + 1 ∧ ∀ y ∈ L, y ∈ M ∧ (Bk.ideal M).mark y = (Bk.ideal L).mark y := by
  have hadd : ∃ M, (Bk.ideal L).add t = .ideal M := ⟨_, rfl⟩
  obtain ⟨M, hM⟩ := hadd
  refine ⟨M, hM, ?_, fun y hy => ⟨?_, ?_⟩⟩
  · have := Bk.len_add (.ideal L) t
    rw [hM] at this
    exact this
  · have := Bk.knows_mono (B := .ideal L) (t := y) hy t
    rw [hM] at this
    exact this
  · have := Bk.mark_add (B := .ideal L) (t := y) hy t
    rw [hM] at this
    exact this
set_option maxRecDepth 100000 in
set_option maxHeartbeats 4000000 in
theorem signMatches_err (s : ByteArray) (y x : Int) (t : ByteArray) (wanted : Int) (hs : s.size ≤ maxLen) (ht : t.size ≤ maxLen) (hf : fitsB y = false) (w : World) :
    Calls Try.prog 14 #[.string s, .int .i64 y, .int .i64 x, .string t, .int .i64 wanted] w fun e w' => e = .returned (.bool true) ∧ Mods Nope w w' := by
  have HF := Lib.hid hf
  have HS := Lib.hid hs
  have HT := Lib.hid ht
  have hff := fitsB_false.1 hf
  clear hf hs ht
  go_enter Try.func14, Try.ntmps14
  go_wp2_with fail
  refine (f28_calls s 2000 _ HS.out (by omega)).mono ?_; rintro e w1 ⟨rfl, rfl⟩
  go_wp2_with fail
  refine (f28_calls t 2000 _ HT.out (by omega)).mono ?_; rintro e w1 ⟨rfl, rfl⟩
  go_wp2_with fail
  refine (f29_calls _).mono ?_; rintro e w2 ⟨b, mb, rfl, _, _, _, hm⟩
  go_wp2_with fail
  refine (f30_err _ _ _ _ HF.out).mono ?_; rintro e w3 ⟨rfl, h3⟩
  simp only [sigV]
  have HM3 := Lib.hid ((hm.trans h3).alloc (.cells #[.int .i64 0, .int .i64 0, .slice none 0 0, .slice none 0 0] 31))
  clear hm h3
  by_cases hy : y < 16
  · have hd : decide (y < 16) = true := decide_eq_true hy
    go_wp2_with fail
    refine (f27_calls _).mono ?_; rintro e w4 ⟨rfl, h4⟩
    go_wp2
    go_ret
    exact ⟨rfl, HM3.out.trans h4⟩
  · have hd : decide (1024 < y) = true := decide_eq_true (by omega)
    go_wp2_with fail
    refine (f27_calls _).mono ?_; rintro e w4 ⟨rfl, h4⟩
    go_wp2
    go_ret
    exact ⟨rfl, HM3.out.trans h4⟩
set_option maxRecDepth 100000 in
set_option maxHeartbeats 8000000 in
theorem signMatches_ok (s : ByteArray) (n : Nat) (x : Int) (t : ByteArray) (wanted : Int) (hs : s.size ≤ maxLen) (ht : t.size ≤ maxLen) (h1 : 16 ≤ n) (h2 : n ≤ 1024) (w : World) :
    Calls Try.prog 14 #[.string s, .int .i64 n, .int .i64 x, .string t, .int .i64 wanted] w fun e w' => e = .returned (.bool true) ∧ Mods Nope w w' := by
  have HS := Lib.hid hs
  have HT := Lib.hid ht
  clear hs ht
  go_enter Try.func14, Try.ntmps14
  go_wp2_with fail
  refine (f28_calls s 2000 _ HS.out (by omega)).mono ?_; rintro e w1 ⟨rfl, rfl⟩
  go_wp2_with fail
  refine (f28_calls t 2000 _ HT.out (by omega)).mono ?_; rintro e w1 ⟨rfl, rfl⟩
  have hcz := cutT_size s 2000
  have hct := cutT_size t 2000
  generalize cutT s 2000 = s' at hcz ⊢
  generalize cutT t 2000 = t' at hct ⊢
  have hss : s'.size ≤ 524288 := by omega
  have hcc : cnt s'.size n ≤ 2000 := Nat.le_trans (cnt_le s'.size n (by omega)) hcz
  obtain ⟨L, hL, hsm, hLl, hLk, hOK⟩ := sign_lists s' n hss h1 h2
  go_wp2_with fail
  refine (f29_calls _).mono ?_; rintro e w2 ⟨b, mb, rfl, hb1, hmb1, hbk, hm⟩
  go_wp2_with fail
  refine (f30_ok b mb (.ideal []) s' n _ hbk (by simp [Bk.len]) hss h1 h2).mono ?_; rintro e w3 ⟨wv, sv, rfl, hw3, hs3, hb3, h3⟩
  rw [hL] at hb3
  rw [hsm] at hs3
  obtain ⟨A, c, rfl, _, _, hrw, _⟩ := Rd.of_owns hw3
  obtain ⟨A', c', rfl, _, _, hrs, _⟩ := Rd.of_owns hs3
  simp only [sigV]
  have hmbb := Lib.hid hmb1
  have HM3 : Hid (Mods Nope w1 w3) := hm.then h3 (fun i hi e => by unfold MB at e; omega)
  have HB3 := Lib.hid hb3
  have HW3 := Lib.hid hrw
  have HS3 := Lib.hid hrs
  have HLK := Lib.hid hLk
  have HOK := Lib.hid hOK
  have HLL : Hid (L.length < 1125899906842624) := by unfold Hid; omega
  have HL2 : Hid (L.length ≤ 600000) := by unfold Hid; omega
  clear hw3 hs3 hb3 h3 hrw hrs hm hbk hL hsm hLk hOK hb1 hmb1 hLl
  go_wp2_with fail
  refine (f57_ok n s'.size A A' c c' _ _ (sweak s' n (cnt s'.size n)) ((pcs s' n (cnt s'.size n)).map (Bk.ideal L).mark) _ (sweak_length _ _ _) (by rw [List.length_map, pcs_length]) (HW3.out.alloc _) (HS3.out.alloc _) (fun m hm => by rw [HOK.out.2.2.2.2.2.2.2 m hm]; simp [maxLen]) HOK.out).mono ?_; rintro e w4 ⟨T, wv, sv, kv, bv, bs, rfl, ht, hp, hso, h4⟩
  simp only [Int.toNat_natCast] at hp
  have hN4 := ((Mods.refl Nope w3).alloc (.cells #[.int .i64 n, .int .i64 s'.size, .slice A (cnt s'.size n) c, .slice A' (cnt s'.size n) c'] 31)).trans h4
  have HT4 := Lib.hid ht
  have HP := Lib.hid hp
  have HSO := Lib.hid hso
  have HB4 := Lib.hid (HB3.out.nope hN4)
  have HM4 := Lib.hid (HM3.out.trans hN4)
  clear ht hp hso hN4 h4 HB3 HM3 HW3 HS3
  go_wp2_with fail
  refine (f33_calls s' n _ hss h1 h2).mono ?_; rintro e w5 ⟨lv, rfl, hl5, h5⟩
  obtain ⟨A2, c2, rfl, _, _, hrl, _⟩ := Rd.of_owns hl5
  have HL5 := Lib.hid hrl
  have HT5 := Lib.hid (HT4.out.nope h5)
  have HB5 := Lib.hid (HB4.out.nope h5)
  have HM5 := Lib.hid (HM4.out.trans h5)
  clear hl5 hrl h5
  have HCE := Lib.hid (ck_end s' n x t')
  have HCZ := Lib.hid (ck_zero s' n x t')
  have HCS := Lib.hid (fun k (h : k < cnt s'.size n) => ck_step (s := s') (n := n) (x := x) (t := t') h)
  have HPC := Lib.hid (fun k (h : k < cnt s'.size n) => (show (pcs s' n (cnt s'.size n))[k]'(by rw [pcs_length]; exact h) = pc s' k n by simp [pcs]))
  have ht5 : t'.size ≤ 524288 := by omega
  go_wp2_with fail
  go_loopg [17, 18, 19] (cnt s'.size n) (fun gk m is i wr => ∃ k : Nat, k ≤ cnt s'.size n ∧ gk = k ∧ i = .int .i64 ((k : Int) - 1) ∧ m = .int .i64 ((ck s' n x t' k).headD (-1)) ∧ is = .bool (decide (wanted ∈ ck s' n x t' k)) ∧ wr = w5)
  case atStart => exact ⟨cnt s'.size n, Nat.le_refl _, rfl, rfl, by rw [HCE.out]; rfl, by rw [HCE.out]; rfl, rfl⟩
  case round =>
    obtain ⟨k, hk, hgk, rfl, rfl, rfl, rfl⟩ := hrel
    cases hgk
    by_cases hk0 : 0 < gk
    · obtain ⟨j, rfl⟩ : ∃ j, gk = j + 1 := ⟨gk - 1, by omega⟩
      have hjN : j < cnt s'.size n := by omega
      have HSTEP := Lib.hid (HCS.out j hjN)
      have hji : ((j + 1 : Nat) : Int) - 1 = (j : Int) := by omega
      rw [hji]
      obtain ⟨g1, o1, hA2, hc1⟩ := HL5.out.str j (by rw [pcs_length]; exact hjN)
      rw [HPC.out j hjN] at hc1
      have hcj : (j : Int) < (cnt s'.size n : Int) := by omega
      have hps : (pc s' j n).size ≤ 1024 := Nat.le_trans (pc_size s' j n) h2
      subst hA2
      generalize hck : ck s' n x t' (j + 1) = cj at *
      clear hji hck
      by_cases q1 : (pc s' j n).size = n
      · by_cases q2 : pc s' j n = t'
        · by_cases q3 : wk t' = x
          · have HIC : Hid (ck s' n x t' j = (j : Int) :: cj) := by unfold Hid; rw [HSTEP.out, if_pos (by unfold isC; rw [decide_eq_true_eq]; exact ⟨q1, q2, q3⟩)]
            have e1 : (((pc s' j n).size : Int) == (n : Int)) = true := by simp; omega
            have e2 : ((pc s' j n).toList == t'.toList) = true := str_eq q2
            have e3 : (wk t' == x) = true := by simp [q3]
            generalize pc s' j n = y at *
            clear q1 q2 q3 HSTEP
            go_wp2_with fail
            refine (f59_calls t' _ ht5).mono ?_; rintro e w6 ⟨rfl, rfl⟩
            by_cases q4 : wanted ∈ cj
            · have hd : decide (wanted ∈ cj) = true := decide_eq_true q4
              have HI2 : Hid (decide (wanted ∈ ck s' n x t' j) = true) := by unfold Hid; rw [HIC.out, decide_eq_true_eq]; exact List.mem_cons_of_mem _ q4
              clear q4
              go_wp2_with fail
              go_roundg j
              case measure => omega
              case rel => exact ⟨j, by omega, rfl, by first | rfl | go_num, by rw [HIC.out]; rfl, by rw [HI2.out], rfl⟩
            · have hd : decide (wanted ∈ cj) = false := decide_eq_false q4
              have HI2 : Hid (decide (wanted ∈ ck s' n x t' j) = ((j : Int) == wanted)) := by
                unfold Hid
                rw [HIC.out, Bool.eq_iff_iff, decide_eq_true_eq, List.mem_cons, beq_iff_eq]
                exact ⟨fun h => h.elim (fun h => h.symm) (fun h => absurd h q4), fun h => .inl h.symm⟩
              clear q4
              go_wp2_with fail
              go_roundg j
              case measure => omega
              case rel => exact ⟨j, by omega, rfl, by first | rfl | go_num, by rw [HIC.out]; rfl, by rw [HI2.out], rfl⟩
          · have HIC : Hid (ck s' n x t' j = cj) := by unfold Hid; rw [HSTEP.out, if_neg (by unfold isC; rw [decide_eq_true_eq]; exact fun h => q3 h.2.2)]
            have e1 : (((pc s' j n).size : Int) == (n : Int)) = true := by simp; omega
            have e2 : ((pc s' j n).toList == t'.toList) = true := str_eq q2
            have e3 : (wk t' == x) = false := by simpa using q3
            generalize pc s' j n = y at *
            clear q1 q2 q3 HSTEP
            go_wp2_with fail
            refine (f59_calls t' _ ht5).mono ?_; rintro e w6 ⟨rfl, rfl⟩
            go_wp2_with fail
            go_roundg j
            case measure => omega
            case rel => exact ⟨j, by omega, rfl, by first | rfl | go_num, by first | (rw [HIC.out]; done) | (rw [HIC.out]; simp), by rw [HIC.out], rfl⟩
        · have HIC : Hid (ck s' n x t' j = cj) := by unfold Hid; rw [HSTEP.out, if_neg (by unfold isC; rw [decide_eq_true_eq]; exact fun h => q2 h.2.1)]
          have e1 : (((pc s' j n).size : Int) == (n : Int)) = true := by simp; omega
          have e2 : ((pc s' j n).toList == t'.toList) = false := str_ne q2
          generalize pc s' j n = y at *
          clear q1 q2 HSTEP
          go_wp2_with fail
          go_roundg j
          case measure => omega
          case rel => exact ⟨j, by omega, rfl, by first | rfl | go_num, by first | (rw [HIC.out]; done) | (rw [HIC.out]; simp), by rw [HIC.out], rfl⟩
      · have HIC : Hid (ck s' n x t' j = cj) := by unfold Hid; rw [HSTEP.out, if_neg (by unfold isC; rw [decide_eq_true_eq]; exact fun h => q1 h.1)]
        have e1 : (((pc s' j n).size : Int) == (n : Int)) = false := by simp; omega
        generalize pc s' j n = y at *
        clear q1 HSTEP
        go_wp2_with fail
        go_roundg j
        case measure => omega
        case rel => exact ⟨j, by omega, rfl, by first | rfl | go_num, by first | (rw [HIC.out]; done) | (rw [HIC.out]; simp), by rw [HIC.out], rfl⟩
    · obtain rfl : gk = 0 := by omega
      rw [HCZ.out]
      have HPK : Hid (pick (cl s' n x t') wanted = if decide (wanted ∈ cl s' n x t') = true then wanted else (cl s' n x t').headD (-1)) := by
        unfold Hid pick
        by_cases h : wanted ∈ cl s' n x t'
        · rw [if_pos h, if_pos (decide_eq_true h)]
        · rw [if_neg h, if_neg (by rw [decide_eq_true_eq]; exact h)]
      have HML := Lib.hid (match_law (s := s') (t := t') (n := n) (L := L) (x := x) (wanted := wanted) (by omega) HLL.out HLK.out)
      obtain ⟨M, hM, hMl, hMk⟩ := add_more L t'
      have HQ : Hid (s'.size / n ≤ cnt s'.size n) := div_le_cnt _ _ (by omega)
      have hc41 := f41_calls _ T (s'.size / n) b mb n (.ideal L) s'.size (sweak s' n (cnt s'.size n)) ((pcs s' n (cnt s'.size n)).map (Bk.ideal L).mark) bs wv sv kv bv x t' wanted wr HT5.out HP.out HSO.out (by have := HQ.out; omega) (by rw [List.length_map, pcs_length]; exact HQ.out) HB5.out HLL.out (by omega)
      unfold MtcPost at hc41
      rw [HML.out] at hc41
      obtain ⟨M2, hM2, hM2l, hM2k⟩ : ∃ M2, mtcB (sweak s' n (cnt s'.size n)) (s'.size / n) n (.ideal L) x t' = .ideal M2 ∧ M2.length ≤ L.length + 1 ∧ ∀ y ∈ L, y ∈ M2 ∧ (Bk.ideal M2).mark y = (Bk.ideal L).mark y := by
        unfold mtcB
        split
        · exact ⟨M, hM, hMl, hMk⟩
        · exact ⟨L, rfl, by omega, fun y hy => ⟨hy, rfl⟩⟩
      rw [hM2] at hc41
      have HC41 := Lib.hid hc41
      have HMLL : Hid (M2.length < 1125899906842624) := by unfold Hid; have := HL2.out; omega
      have HTL := Lib.hid (tail_law (s := s') (t := t') (n := n) (L := L) (M := M2) (by omega) HMLL.out (fun y hy => hM2k y (HLK.out y hy)))
      clear hc41 hM hMl hMk hM2 hM2l hM2k
      generalize pick (cl s' n x t') wanted = P at HPK HC41
      obtain ⟨w6, rfl⟩ : ∃ w6 : World, w6 = wr := ⟨_, rfl⟩
      have hmod : s'.size % n < n := Nat.mod_lt _ (by omega)
      have hmle := Nat.mod_le s'.size n
      have HMOD : Hid ((s'.size : Int) % (n : Int) = ((s'.size % n : Nat) : Int)) := by unfold Hid; exact (Int.natCast_emod _ n).symm
      have hmi : 0 ≤ (s'.size : Int) % (n : Int) := by rw [HMOD.out]; exact Int.natCast_nonneg _
      have HRX : Hid (∃ r, r = s'.size % n) := ⟨_, rfl⟩
      generalize hcl : cl s' n x t' = CL at *
      go_upto_if 90 with fail
      go_cut [17] (fun m wx => m = .int .i64 P ∧ wx = w6)
      case first =>
        by_cases q : wanted ∈ CL
        · have hd : decide (wanted ∈ CL) = true := decide_eq_true q
          have HP1 : Hid (P = wanted) := by unfold Hid; rw [HPK.out, if_pos hd]
          go_wp2_with fail
          go_meet
          exact ⟨by rw [HP1.out], rfl⟩
        · have hd : decide (wanted ∈ CL) = false := decide_eq_false q
          have HP1 : Hid (P = CL.headD (-1)) := by unfold Hid; rw [HPK.out, if_neg (by rw [hd]; exact Bool.false_ne_true)]
          go_wp2_with fail
          go_meet
          exact ⟨by first | (rw [HP1.out]; done) | (rw [HP1.out]; simp), rfl⟩
      case rest =>
        obtain ⟨rfl, rfl⟩ := hcut
        obtain ⟨w6, rfl⟩ : ∃ w6 : World, w6 = wc := ⟨_, rfl⟩
        go_upto_region 22 with fail
        rw [HMOD.out]
        generalize hr0 : s'.size % n = r at *
        have hr1 : (r : Int) ≤ (s'.size : Int) := by omega
        have hr2 : 0 ≤ (s'.size : Int) - (r : Int) := by omega
        go_cut [21] (fun tb wx => tb = .bool (decide (0 < r ∧ t' = s'.extract (s'.size - r) s'.size)) ∧ wx = w6)
        case first =>
          by_cases q1 : 0 < r
          · have hp0 : decide ((0 : Int) < (r : Int)) = true := by simp; omega
            by_cases q2 : t' = s'.extract (s'.size - r) s'.size
            · have e2 : (t'.toList == (s'.extract (s'.size - r) s'.size).toList) = true := str_eq q2
              have HD : Hid (decide (0 < r ∧ t' = s'.extract (s'.size - r) s'.size) = true) := decide_eq_true ⟨q1, q2⟩
              clear q2
              go_wp2_with fail
              go_meet
              exact ⟨by rw [HD.out], rfl⟩
            · have e2 : (t'.toList == (s'.extract (s'.size - r) s'.size).toList) = false := str_ne q2
              have HD : Hid (decide (0 < r ∧ t' = s'.extract (s'.size - r) s'.size) = false) := decide_eq_false (fun h => q2 h.2)
              clear q2
              go_wp2_with fail
              go_meet
              exact ⟨by rw [HD.out], rfl⟩
          · have hp0 : decide ((0 : Int) < (r : Int)) = false := by simp; omega
            have HD : Hid (decide (0 < r ∧ t' = s'.extract (s'.size - r) s'.size) = false) := decide_eq_false (fun h => q1 h.1)
            go_wp2_with fail
            go_meet
            exact ⟨by rw [HD.out], rfl⟩
        case rest =>
          obtain ⟨rfl, rfl⟩ := hcut
          obtain ⟨w6, rfl⟩ : ∃ w6 : World, w6 = wc := ⟨_, rfl⟩
          have hpp : (P == P) = true := by simp
          generalize decide (0 < r ∧ t' = s'.extract (s'.size - r) s'.size) = tb at *
          have htb : (tb == tb) = true := by simp
          go_wp2_with fail
          refine HC41.out.mono ?_; rintro e w7 ⟨rfl, hb7, hm7⟩
          have HB7 := Lib.hid hb7
          have HT7 := Lib.hid (HT5.out.marked HB5.out hm7)
          have HM7 : Hid (Mods (fun k => w1.heap.size ≤ k) w1 w7) := (HM5.out.any _).then hm7 (fun i hi e => by have : i = mb := e; have := hmbb.out; omega)
          clear hb7 hm7
          go_wp2_with fail
          have hc42 := f42_calls _ T b mb n s'.size (.ideal M2) (sweak s' n (cnt s'.size n)) ((pcs s' n (cnt s'.size n)).map (Bk.ideal L).mark) bs wv sv kv bv t' w7 HT7.out HB7.out HMLL.out ht5 h1 hss (sweak_length _ _ _) (by rw [List.length_map, pcs_length, sweak_length])
          unfold TlPost at hc42
          rw [HTL.out] at hc42
          have HC42 := Lib.hid hc42
          clear hc42
          refine HC42.out.mono ?_; rintro e w8 ⟨rfl, hb8, hm8⟩
          have HM8 : Hid (Mods (fun k => w1.heap.size ≤ k) w1 w8) := HM7.out.then hm8 (fun i hi e => by have : i = mb := e; have := hmbb.out; omega)
          clear hb8 hm8
          go_wp2_with fail
          refine (f27_calls _).mono ?_; rintro e w9 ⟨rfl, h9⟩
          go_wp2
          go_ret
          exact ⟨rfl, (HM8.out.mono (fun i hi e => absurd e (Nat.not_le.2 hi))).trans h9⟩
theorem signMatches_walk (a0 : ByteArray) (a1 a2 : Int) (a3 : ByteArray) (a4 : Int) (w0 : a0.size ≤ maxLen) (_ : (Lit.int .i64 a1).wf = true) (_ : (Lit.int .i64 a2).wf = true) (w3 : a3.size ≤ maxLen) (_ : (Lit.int .i64 a4).wf = true) (w : World) :
    Calls Try.prog 14 #[.string a0, .int .i64 a1, .int .i64 a2, .string a3, .int .i64 a4] w fun e w' => e = .returned (.bool true) ∧ Mods Nope w w' := by
  by_cases hf : fitsB a1 = true
  · have h := fitsB_true.1 hf
    obtain ⟨n, rfl⟩ : ∃ n : Nat, a1 = n := ⟨a1.toNat, by omega⟩
    exact signMatches_ok a0 n a2 a3 a4 w0 w3 (by omega) (by omega) w
  · exact signMatches_err a0 a1 a2 a3 a4 w0 w3 (by simpa using hf) w
end Go.Proofs.Ytblhbbgkkijkfaa
