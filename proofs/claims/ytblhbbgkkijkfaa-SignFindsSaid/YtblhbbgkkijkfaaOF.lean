/- sign.Of, walked. -/
import Derived.Test.YtblhbbgkkijkfaaOA
namespace Go.Proofs.Ytblhbbgkkijkfaa
open Go.RowKit Go.Maps
set_option maxRecDepth 100000 in
set_option maxHeartbeats 4000000 in
theorem f52_at (s : ByteArray) (X : OfR) (w : World) (hs : s.size ≤ maxLen) (HX : Hid (X = sigOf s)) :
    Calls Try.prog 52 #[.string s] w (OfPost X w) := by
  have HS := Lib.hid hs
  have hle1 := rn_le s 0 0 (Nat.zero_le _)
  have hle2 := rn_le s (rn s 0 0).2.1 (rn s 0 0).2.2 hle1.1
  unfold sigOf at HX
  have hC1 := fun r w h => f90_calls r s 0 0 w h (Nat.zero_le _) hs
  have hC2 := fun r w h => f90_calls r s (rn s 0 0).2.1 (rn s 0 0).2.2 w h hle1.1 hs
  generalize rn s 0 0 = x at *
  generalize rn s x.2.1 x.2.2 = y at *
  obtain ⟨bk, A1, e1⟩ := x
  obtain ⟨sz, A2, e2⟩ := y
  simp only at hC1 hC2 hle1 hle2 HX
  have HC1 := Lib.hid hC1
  have HC2 := Lib.hid hC2
  have HLE := Lib.hid hle2.1
  clear hs hC1 hC2 hle1 hle2
  go_enter Try.func52, Try.ntmps52
  go_wp2_with fail
  refine (f89_calls s _).mono ?_; rintro e w1 ⟨rfl, hr1, hm1⟩
  have hsz : (w.alloc (.cells #[.int .i64 0, .int .i64 0, .slice none 0 0, .slice none 0 0] 31)).heap.size = w.heap.size + 1 := by simp
  rw [hsz] at hr1 ⊢
  have HR1 := Lib.hid hr1
  have hz1 : w.heap.size + 1 < w1.heap.size := row_lt hr1
  have HRES := Lib.hid (hm1.row (heap_alloc_new w (.cells #[.int .i64 0, .int .i64 0, .slice none 0 0, .slice none 0 0] 31)) (fun h => h))
  have HM1 := Lib.hid (((Mods.refl Nope w).alloc _).trans hm1)
  clear hr1 hm1 hsz
  go_wp2_with fail
  refine (HC1.out _ _ HR1.out).mono ?_; rintro e w2 ⟨rfl, hr2, hm2⟩
  have HR2 := Lib.hid hr2
  have HM2 := Lib.hid hm2
  clear hr2 hm2
  go_wp2_with fail
  refine (HC2.out _ _ HR2.out).mono ?_; rintro e w3 ⟨rfl, hr3, hm3⟩
  have HM3 := Lib.hid (HM2.out.trans hm3)
  have hz3 : w.heap.size + 1 < w3.heap.size := row_lt hr3
  have HA : Hid (OfAt 155 w.heap.size (w.heap.size + 1) w3.heap.size s w (w3.alloc (.cells #[.int .i64 bk, .int .i64 sz, .slice none 0 0, .slice none 0 0] 31)) bk sz [] [] (.slice none 0 0) (.slice none 0 0) A2 e2) := by
    refine ⟨⟨by omega, by omega, by omega⟩, row_alloc (HM3.out.row HRES.out (by omega)) _, heap_alloc_new _ _, World.ownsRow_nil _ _ _ _, World.ownsRow_nil _ _ _ _, row_alloc hr3 _, ?_⟩
    exact (HM1.out.then HM3.out (fun i hi e => by omega)).alloc _
  clear hr3 hm3 HM3 HM2 HM1 HRES HR1 HR2 HC1 HC2
  go_wp2_with fail
  refine (f91_calls _ s A2 e2 _ HA.out.rd).mono ?_; rintro e w4 ⟨rfl, rfl⟩
  obtain ⟨W0, hW0⟩ : ∃ W0, W0 = w3.alloc (.cells #[.int .i64 bk, .int .i64 sz, .slice none 0 0, .slice none 0 0] 31) := ⟨_, rfl⟩
  rw [← hW0] at HA ⊢
  obtain ⟨G, hG⟩ : ∃ G, G = w3.heap.size := ⟨_, rfl⟩
  rw [← hG] at HA ⊢
  clear hW0 hG
  by_cases h2 : e2 = 0
  rotate_left
  · have HV : Hid (X = .bad e2) := by unfold Hid; rw [HX.out, sigOf0, if_neg h2]
    have hne : (e2 != 0) = true := by simpa using h2
    obtain ⟨r0, r1, r2, r3, f0⟩ := HA.out.rcell
    clear HX h2
    go_wp2_with fail
    refine (f91_calls _ s A2 e2 _ HA.out.rd).mono ?_; rintro e w4 ⟨rfl, rfl⟩
    go_wp2
    refine bodyPost_ret (v := .tuple #[sigV 0 0 (.slice none 0 0) (.slice none 0 0), .int .i64 e2]) (by simp [results, Try.results52, go_sem, r0, r1, r2, r3, sigV]) rfl ?_
    exact OfPost.bad HV.out (HA.out.mods.setCell _ (fun h => absurd h (Nat.lt_irrefl _)) _ |>.setCell _ (fun h => absurd h (Nat.lt_irrefl _)) _ |>.setCell _ (fun h => absurd h (Nat.lt_irrefl _)) _ |>.setCell _ (fun h => absurd h (Nat.lt_irrefl _)) _)
  subst h2
  obtain ⟨g0, g1, g2, g3⟩ := HA.out.gc
  rw [sigOf0, if_pos rfl] at HX
  simp only at HX
  by_cases hfit : fitsB bk = true
  rotate_left
  · have hf : fitsB bk = false := by simpa using hfit
    have hff := fitsB_false.1 hf
    have HV : Hid (X = .bad 5) := by unfold Hid; rw [HX.out, sigOf1, if_neg (by omega)]
    obtain ⟨r0, r1, r2, r3, f0⟩ := HA.out.rcell
    clear HX hfit hff
    go_wp2_with fail
    refine (f74_calls _ _).mono ?_; rintro e w5 ⟨rfl, rfl⟩
    rw [hf]
    go_wp2
    refine bodyPost_ret (v := .tuple #[sigV 0 0 (.slice none 0 0) (.slice none 0 0), .int .i64 5]) (by simp [results, Try.results52, go_sem, r0, r1, r2, r3, sigV]) rfl ?_
    exact OfPost.bad HV.out (HA.out.mods.setCell _ (fun h => absurd h (Nat.lt_irrefl _)) _ |>.setCell _ (fun h => absurd h (Nat.lt_irrefl _)) _ |>.setCell _ (fun h => absurd h (Nat.lt_irrefl _)) _ |>.setCell _ (fun h => absurd h (Nat.lt_irrefl _)) _)
  have hfb := fitsB_true.1 hfit
  by_cases hsz : sz ≤ 524288
  rotate_left
  · have HV : Hid (X = .bad 5) := by unfold Hid; rw [HX.out, sigOf1, if_neg (by omega)]
    obtain ⟨r0, r1, r2, r3, f0⟩ := HA.out.rcell
    have hs1 : 524288 < sz := by omega
    clear HX hsz
    go_wp2_with fail
    refine (f74_calls _ _).mono ?_; rintro e w5 ⟨rfl, rfl⟩
    rw [hfit]
    clear hfit
    go_wp2
    refine bodyPost_ret (v := .tuple #[sigV 0 0 (.slice none 0 0) (.slice none 0 0), .int .i64 5]) (by simp [results, Try.results52, go_sem, r0, r1, r2, r3, sigV]) rfl ?_
    exact OfPost.bad HV.out (HA.out.mods.setCell _ (fun h => absurd h (Nat.lt_irrefl _)) _ |>.setCell _ (fun h => absurd h (Nat.lt_irrefl _)) _ |>.setCell _ (fun h => absurd h (Nat.lt_irrefl _)) _ |>.setCell _ (fun h => absurd h (Nat.lt_irrefl _)) _)
  have hb1 : 16 ≤ bk := by omega
  have hb2 : bk ≤ 1024 := by omega
  have hcl : cnt sz bk ≤ 524288 := Nat.le_trans (cnt_le sz bk (by omega)) hsz
  rw [sigOf1, if_pos ⟨⟨hb1, hb2⟩, hsz⟩] at HX
  go_wp2_with fail
  refine (f74_calls _ _).mono ?_; rintro e w5 ⟨rfl, rfl⟩
  rw [hfit]
  clear hfit
  go_wp2_with fail
  refine (f75_calls sz bk _ hsz hb1 hb2).mono ?_; rintro e w6 ⟨rfl, rfl⟩
  clear g0 g1 g2 g3
  obtain ⟨N, hN⟩ : ∃ N, N = cnt sz bk := ⟨_, rfl⟩
  rw [← hN] at HX hcl ⊢
  clear hN
  obtain ⟨P, hP⟩ : ∃ P, P = rcs s N A2 := ⟨_, rfl⟩
  rw [← hP] at HX
  obtain ⟨Q, hQ⟩ : ∃ Q, Q = rds s N P.2.1 := ⟨_, rfl⟩
  rw [← hQ] at HX
  have HP := Lib.hid hP
  have HQ := Lib.hid hQ
  clear hP hQ
  go_wp2_with fail
  go_loopg [39] N (fun gk i wr => ∃ k A ws wv, k ≤ N ∧ gk = N - k ∧ i = .int .i64 (k : Nat) ∧ A ≤ s.size ∧ ws.length = k ∧ OfAt 155 w.heap.size (w.heap.size + 1) G s w wr bk sz ws [] wv (.slice none 0 0) A 0 ∧ RcAt s N P k A ws)
  case atStart => exact ⟨0, A2, [], _, by omega, by omega, rfl, HLE.out, rfl, HA.out, by unfold RcAt; rw [HP.out]; rfl⟩
  case round =>
    obtain ⟨k, A, ws, wv, hk, rfl, rfl, hAle, hwl, hO, hRc⟩ := hrel
    have HO := Lib.hid hO
    have HRC := Lib.hid hRc
    have HWL := Lib.hid hwl
    clear hO hRc hwl
    by_cases hlt : k < N
    · have hC := fun (wx : World) h => f92_calls (w.heap.size + 1) s A 0 4294967295 wx h hAle HS.out
      have hle := rc_le s A 0 4294967295 hAle
      have HST := Lib.hid (fun x A' (h : rc s A 0 4294967295 = (x, A', 0)) => HRC.out.step hlt h)
      have HFL := Lib.hid (fun x A' e (h : rc s A 0 4294967295 = (x, A', e)) (he : e ≠ 0) => HRC.out.fail hlt h he)
      have HBD := Lib.hid (rc_bound s A 4294967295)
      generalize rc s A 0 4294967295 = xx at hC hle HST HFL HBD
      obtain ⟨v, A', e'⟩ := xx
      simp only at hC hle HBD
      have HC := Lib.hid hC
      have HLT := Lib.hid hlt
      clear hC
      go_wp2_with fail
      refine (HC.out _ HO.out.rd).mono ?_; rintro e w7 ⟨rfl, hr7, hm7⟩
      have HO7 := Lib.hid (HO.out.read (by decide) rfl hm7 hr7)
      clear hr7 hm7
      go_wp2_with fail
      refine (f91_calls _ s A' e' _ HO7.out.rd).mono ?_; rintro e w8 ⟨rfl, rfl⟩
      by_cases he : e' = 0
      · subst he
        have HRC' := Lib.hid (HST.out v A' rfl)
        obtain ⟨g0, g1, g2, g3⟩ := HO7.out.gc
        have hwz : w.heap.size ≤ w8.heap.size := HO7.out.mods.size
        have HWI := Lib.hid (show (ints ws).length = k by rw [ints_length, HWL.out])
        have HW := Lib.hid (show w8.ownsRow w.heap.size 3 1 wv (ints ws).length (ints ws) by rw [ints_length]; exact HO7.out.weak)
        clear HST HFL HBD
        go_wp2_with (at_builtin; refine wpList_app1 _ rfl _ _ 28 3 (.int .i64 0) 8 rfl Try.underlying28 info3 rfl (by decide) _ (ints ws) (.int .i64 (v : Int)) _ rfl rfl (by simp) rfl w.heap.size (by exact HW.out.alloc _) (by simp; omega) (by rw [HWI.out]; omega) ?_)
        intro g cap w9 hown9 hg9 _
        rw [HWI.out] at hown9 ⊢
        have HA9 := Lib.hid (HO7.out.addWeak (by decide) rfl HWL.out ((Mods.refl Nope w8).alloc _) hg9 hown9)
        have hG := grown_row hg9 (row_alloc HO7.out.g _) (own_ne_row HO7.out.weak HO7.out.g (by decide))
        have hcc : w9.cell? ⟨G, 2, none⟩ = some wv := by rw [row_cell hG]; rfl
        have hff : w9.frozen? ⟨G, 2, none⟩ = false := row_frozen hG 2
        clear hown9 hg9 hG g0 g1 g2 g3
        go_wp2_with fail
        go_roundg (N - (k + 1))
        case measure => have := HLT.out; omega
        case rel => exact ⟨k + 1, A', _, _, HLT.out, rfl, by go_num, hle.1, by rw [List.length_append, HWL.out]; rfl, HA9.out, HRC'.out⟩
      · have hPe : P.2 = (A', e') := HFL.out v A' e' rfl he
        have HV : Hid (X = .bad e') := by unfold Hid; rw [HX.out, sigOf2, hPe, if_neg he]
        have hne : (e' != 0) = true := by simpa using he
        obtain ⟨r0, r1, r2, r3, f0⟩ := HO7.out.rcell
        clear hPe HST HFL HBD he
        go_wp2_with fail
        refine (f91_calls _ s A' e' _ HO7.out.rd).mono ?_; rintro e w4 ⟨rfl, rfl⟩
        go_wp2
        refine bodyPost_ret (v := .tuple #[sigV 0 0 (.slice none 0 0) (.slice none 0 0), .int .i64 e']) (by simp [results, Try.results52, go_sem, r0, r1, r2, r3, sigV]) rfl ?_
        exact OfPost.bad HV.out (HO7.out.mods.setCell _ (fun h => absurd h (Nat.lt_irrefl _)) _ |>.setCell _ (fun h => absurd h (Nat.lt_irrefl _)) _ |>.setCell _ (fun h => absurd h (Nat.lt_irrefl _)) _ |>.setCell _ (fun h => absurd h (Nat.lt_irrefl _)) _)
    · obtain rfl : k = N := by omega
      have hPd := HRC.out.done
      subst hPd
      simp only at HQ HX
      obtain ⟨wo, rfl⟩ : ∃ wo : World, wo = wr := ⟨_, rfl⟩
      go_wp2_with fail
      go_loopg [57] k (fun gk i wr => ∃ j A' ms sv, j ≤ k ∧ gk = k - j ∧ i = .int .i64 (j : Nat) ∧ A' ≤ s.size ∧ ms.length = j ∧ OfAt 155 w.heap.size (w.heap.size + 1) G s w wr bk sz ws ms wv sv A' 0 ∧ RdAt s k Q j A' ms)
      case atStart => exact ⟨0, A, [], _, by omega, by omega, rfl, hAle, rfl, HO.out, by unfold RdAt; rw [HQ.out]; rfl⟩
      case round =>
        obtain ⟨j, A3, ms, sv, hj, rfl, rfl, hAle3, hml, hO3, hRd⟩ := hrel
        have HO3 := Lib.hid hO3
        have HRD := Lib.hid hRd
        have HML := Lib.hid hml
        clear hO3 hRd hml
        by_cases hlt : j < k
        · have hC := fun (wx : World) h => f93_calls (w.heap.size + 1) s A3 0 32 wx h hAle3 HS.out (by omega)
          have hle := rr_le s A3 0 32 hAle3
          have HST := Lib.hid (fun x A' (h : rr s A3 0 32 = (x, A', 0)) => HRD.out.step hlt h)
          have HFL := Lib.hid (fun x A' e (h : rr s A3 0 32 = (x, A', e)) (he : e ≠ 0) => HRD.out.fail hlt h he)
          generalize rr s A3 0 32 = xx at hC hle HST HFL
          obtain ⟨v, A', e'⟩ := xx
          simp only at hC hle
          have HC := Lib.hid hC
          have HLT := Lib.hid hlt
          clear hC
          go_wp2_with fail
          refine (HC.out _ HO3.out.rd).mono ?_; rintro e w7 ⟨rfl, hr7, hm7⟩
          have HO7 := Lib.hid (HO3.out.read (by decide) rfl hm7 hr7)
          clear hr7 hm7
          go_wp2_with fail
          refine (f91_calls _ s A' e' _ HO7.out.rd).mono ?_; rintro e w8 ⟨rfl, rfl⟩
          by_cases he : e' = 0
          · subst he
            have HRD' := Lib.hid (HST.out v A' rfl)
            obtain ⟨g0, g1, g2, g3⟩ := HO7.out.gc
            have hwz : w.heap.size ≤ w8.heap.size := HO7.out.mods.size
            have HWI := Lib.hid (show (strs ms).length = j by rw [strs_length, HML.out])
            have HW := Lib.hid (show w8.ownsRow w.heap.size 9 1 sv (strs ms).length (strs ms) by rw [strs_length]; exact HO7.out.strong)
            clear HST HFL
            go_wp2_with (at_builtin; refine wpList_app1 _ rfl _ _ 29 9 (.string ⟨#[]⟩) 16 rfl Try.underlying29 info9 rfl (by decide) _ (strs ms) (.string v) _ rfl rfl (by simp) rfl w.heap.size (by exact HW.out.alloc _) (by simp; omega) (by rw [HWI.out]; omega) ?_)
            intro g cap w9 hown9 hg9 _
            rw [HWI.out] at hown9 ⊢
            have HA9 := Lib.hid (HO7.out.addStrong (by decide) rfl HML.out ((Mods.refl Nope w8).alloc _) hg9 hown9)
            have hG := grown_row hg9 (row_alloc HO7.out.g _) (own_ne_row HO7.out.strong HO7.out.g (by decide))
            have hcc : w9.cell? ⟨G, 3, none⟩ = some sv := by rw [row_cell hG]; rfl
            have hff : w9.frozen? ⟨G, 3, none⟩ = false := row_frozen hG 3
            clear hown9 hg9 hG g0 g1 g2 g3
            go_wp2_with fail
            go_roundg (k - (j + 1))
            case measure => have := HLT.out; omega
            case rel => exact ⟨j + 1, A', _, _, HLT.out, rfl, by go_num, hle.1, by rw [List.length_append, HML.out]; rfl, HA9.out, HRD'.out⟩
          · have hQe : Q.2 = (A', e') := HFL.out v A' e' rfl he
            have HV : Hid (X = .bad e') := by unfold Hid; rw [HX.out, sigOf2, if_pos rfl, hQe, if_neg he]
            have hne : (e' != 0) = true := by simpa using he
            obtain ⟨r0, r1, r2, r3, f0⟩ := HO7.out.rcell
            clear hQe HST HFL he
            go_wp2_with fail
            refine (f91_calls _ s A' e' _ HO7.out.rd).mono ?_; rintro e w4 ⟨rfl, rfl⟩
            go_wp2
            refine bodyPost_ret (v := .tuple #[sigV 0 0 (.slice none 0 0) (.slice none 0 0), .int .i64 e']) (by simp [results, Try.results52, go_sem, r0, r1, r2, r3, sigV]) rfl ?_
            exact OfPost.bad HV.out (HO7.out.mods.setCell _ (fun h => absurd h (Nat.lt_irrefl _)) _ |>.setCell _ (fun h => absurd h (Nat.lt_irrefl _)) _ |>.setCell _ (fun h => absurd h (Nat.lt_irrefl _)) _ |>.setCell _ (fun h => absurd h (Nat.lt_irrefl _)) _)
        · obtain rfl : j = k := by omega
          have hQd := HRD.out.done
          subst hQd
          go_wp2_with fail
          refine (f94_calls _ s A3 0 _ HO3.out.rd hAle3 HS.out).mono ?_; rintro e w7 ⟨rfl, hr7, hm7⟩
          have HO7 := Lib.hid (HO3.out.read (by decide) rfl hm7 hr7)
          clear hr7 hm7
          obtain ⟨r0, r1, r2, r3, f0⟩ := HO7.out.rcell
          obtain ⟨e', he'⟩ : ∃ e', e' = re s A3 0 := ⟨_, rfl⟩
          have HE' := Lib.hid he'
          rw [← he'] at HO7 ⊢
          clear he'
          by_cases he : e' = 0
          · have HV : Hid (X = ⟨bk, sz, ws, ms, 0⟩) := by unfold Hid; rw [HX.out]; unfold sigOf2; rw [if_pos rfl, if_pos rfl]; show (if re s A3 0 = 0 then _ else OfR.bad (re s A3 0)) = _; rw [← HE'.out, if_pos he]
            subst he
            obtain ⟨g0, g1, g2, g3⟩ := HO7.out.gc
            obtain ⟨Aw, cw, hAw, _, _, hrd, _⟩ := Rd.of_owns HO7.out.weak
            obtain ⟨As, cs, hAs, _, _, hrd', _⟩ := Rd.of_owns HO7.out.strong
            subst hAw
            subst hAs
            clear hrd hrd'
            go_wp2
            refine bodyPost_ret (v := .tuple #[sigV bk sz (.slice Aw ws.length cw) (.slice As ms.length cs), .int .i64 0]) (by simp [results, Try.results52, go_sem, r0, r1, r2, r3, sigV]) rfl ?_
            have hM := Lib.hid (((((Mods.refl (fun j => j = w.heap.size) w7).setCell ⟨w.heap.size, 0, none⟩ (fun _ => rfl) (.int .i64 bk)).setCell ⟨w.heap.size, 1, none⟩ (fun _ => rfl) (.int .i64 sz)).setCell ⟨w.heap.size, 2, none⟩ (fun _ => rfl) (.slice Aw ws.length cw)).setCell ⟨w.heap.size, 3, none⟩ (fun _ => rfl) (.slice As ms.length cs))
            obtain rfl := HV.out
            refine ⟨_, _, rfl, hM.out.owns HO7.out.weak ?_, hM.out.owns HO7.out.strong ?_, HO7.out.mods.then hM.out (fun j hj e => by omega)⟩
            · exact own_ne_row HO7.out.weak HO7.out.res (by decide)
            · exact own_ne_row HO7.out.strong HO7.out.res (by decide)
          · have HV : Hid (X = .bad e') := by unfold Hid; rw [HX.out]; unfold sigOf2; rw [if_pos rfl, if_pos rfl]; show (if re s A3 0 = 0 then _ else OfR.bad (re s A3 0)) = _; rw [← HE'.out, if_neg he]
            have hne : (e' != 0) = true := by simpa using he
            clear HX he
            go_wp2
            refine bodyPost_ret (v := .tuple #[sigV 0 0 (.slice none 0 0) (.slice none 0 0), .int .i64 e']) (by simp [results, Try.results52, go_sem, r0, r1, r2, r3, sigV]) rfl ?_
            exact OfPost.bad HV.out (HO7.out.mods.setCell _ (fun h => absurd h (Nat.lt_irrefl _)) _ |>.setCell _ (fun h => absurd h (Nat.lt_irrefl _)) _ |>.setCell _ (fun h => absurd h (Nat.lt_irrefl _)) _ |>.setCell _ (fun h => absurd h (Nat.lt_irrefl _)) _)
theorem f52_calls (s : ByteArray) (w : World) (hs : s.size ≤ maxLen) : Calls Try.prog 52 #[.string s] w (OfPost (sigOf s) w) := f52_at s _ w hs (Lib.hid rfl)
end Go.Proofs.Ytblhbbgkkijkfaa
