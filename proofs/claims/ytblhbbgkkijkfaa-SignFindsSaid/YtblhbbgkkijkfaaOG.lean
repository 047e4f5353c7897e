/- barqueref05.Of, walked. -/
import Derived.Test.YtblhbbgkkijkfaaOF
namespace Go.Proofs.Ytblhbbgkkijkfaa
open Go.RowKit Go.Maps
theorem OfAt.cellsAt {T B R G : Nat} {s : ByteArray} {w wr : World} {blk size : Int} {ws : List Int} {ms : List ByteArray} {wv sv : Value} {A : Nat} {e1 : Int} (h : OfAt T B R G s w wr blk size ws ms wv sv A e1) :
    wr.cell? ⟨R, 2, none⟩ = some (.int .i64 e1) := by rw [row_cell h.rd]; rfl
theorem OfAt.setBlk {T B R G : Nat} {s : ByteArray} {w wr : World} {blk size : Int} {A : Nat} {e1 : Int} {ws : List Int} {ms : List ByteArray} {wv sv : Value} (h : OfAt T B R G s w wr blk size ws ms wv sv A e1) (hB : w.heap.size = B) (x : Int) :
    OfAt T B R G s w (wr.setCell ⟨G, 0, none⟩ (.int .i64 x)) x size ws ms wv sv A e1 := by
  have ho := h.ord
  have hM := (Mods.refl (fun j => j = G) wr).setCell ⟨G, 0, none⟩ (fun _ => rfl) (.int .i64 x)
  exact ⟨h.ord, hM.row h.res (by omega), row_set h.g 0 _, hM.owns h.weak (own_ne_row h.weak h.g (by decide)), hM.owns h.strong (own_ne_row h.strong h.g (by decide)), hM.row h.rd (by omega), h.mods.then hM (fun i hi e => by omega)⟩
theorem OfAt.setSize {T B R G : Nat} {s : ByteArray} {w wr : World} {blk size : Int} {A : Nat} {e1 : Int} {ws : List Int} {ms : List ByteArray} {wv sv : Value} (h : OfAt T B R G s w wr blk size ws ms wv sv A e1) (hB : w.heap.size = B) (x : Int) :
    OfAt T B R G s w (wr.setCell ⟨G, 1, none⟩ (.int .i64 x)) blk x ws ms wv sv A e1 := by
  have ho := h.ord
  have hM := (Mods.refl (fun j => j = G) wr).setCell ⟨G, 1, none⟩ (fun _ => rfl) (.int .i64 x)
  exact ⟨h.ord, hM.row h.res (by omega), row_set h.g 1 _, hM.owns h.weak (own_ne_row h.weak h.g (by decide)), hM.owns h.strong (own_ne_row h.strong h.g (by decide)), hM.row h.rd (by omega), h.mods.then hM (fun i hi e => by omega)⟩
set_option maxRecDepth 100000 in
set_option maxHeartbeats 4000000 in
theorem f53_at (s : ByteArray) (X : OfR) (w : World) (hs : s.size ≤ maxLen) (HX : Hid (X = sigOf s)) :
    Calls Try.prog 53 #[.string s] w (OfPost X w) := by
  have HS := Lib.hid hs
  have hle1 := rn_le s 0 0 (Nat.zero_le _)
  have hle2 := rn_le s (rn s 0 0).2.1 (rn s 0 0).2.2 hle1.1
  unfold sigOf at HX
  have hC1 := fun r w h => f95_calls r s 0 0 w h (Nat.zero_le _) hs
  have hC2 := fun r w h => f95_calls r s (rn s 0 0).2.1 (rn s 0 0).2.2 w h hle1.1 hs
  generalize rn s 0 0 = x at *
  generalize rn s x.2.1 x.2.2 = y at *
  obtain ⟨bk, A1, e1⟩ := x
  obtain ⟨sz, A2, e2⟩ := y
  simp only at hC1 hC2 hle1 hle2 HX
  have HC1 := Lib.hid hC1
  have HC2 := Lib.hid hC2
  have HLE := Lib.hid hle2.1
  clear hs hC1 hC2 hle1 hle2
  go_enter Try.func53, Try.ntmps53
  have HA0 : Hid (OfAt 123 w.heap.size (w.heap.size + 1) (w.heap.size + 2) s w (((w.alloc (.cells #[.int .i64 0, .int .i64 0, .slice none 0 0, .slice none 0 0] 31)).alloc (.cells #[.string s, .int .i64 0, .int .i64 0] 123)).alloc (.cells #[.int .i64 0, .int .i64 0, .slice none 0 0, .slice none 0 0] 31)) 0 0 [] [] (.slice none 0 0) (.slice none 0 0) 0 0) := by
    have k0 := heap_alloc_new w (.cells #[.int .i64 0, .int .i64 0, .slice none 0 0, .slice none 0 0] 31)
    have k1 := heap_alloc_new (w.alloc (.cells #[.int .i64 0, .int .i64 0, .slice none 0 0, .slice none 0 0] 31)) (.cells #[.string s, .int .i64 0, .int .i64 0] 123)
    have k2 := heap_alloc_new ((w.alloc (.cells #[.int .i64 0, .int .i64 0, .slice none 0 0, .slice none 0 0] 31)).alloc (.cells #[.string s, .int .i64 0, .int .i64 0] 123)) (.cells #[.int .i64 0, .int .i64 0, .slice none 0 0, .slice none 0 0] 31)
    rw [show (w.alloc (.cells #[.int .i64 0, .int .i64 0, .slice none 0 0, .slice none 0 0] 31)).heap.size = w.heap.size + 1 by simp] at k1
    rw [show ((w.alloc (.cells #[.int .i64 0, .int .i64 0, .slice none 0 0, .slice none 0 0] 31)).alloc (.cells #[.string s, .int .i64 0, .int .i64 0] 123)).heap.size = w.heap.size + 2 by simp] at k2
    exact ⟨⟨by omega, by omega, by omega⟩, row_alloc (row_alloc k0 _) _, k2, World.ownsRow_nil _ _ _ _, World.ownsRow_nil _ _ _ _, row_alloc k1 _, (((Mods.refl _ _).alloc _).alloc _).alloc _⟩
  go_wp2_with fail
  refine (HC1.out _ _ HA0.out.rd).mono ?_; rintro e w2 ⟨rfl, hr2, hm2⟩
  have HA2 := Lib.hid (HA0.out.read (by decide) rfl hm2 hr2)
  obtain ⟨g0, g1, g2, g3⟩ := HA2.out.gc
  have gf : ∀ j, w2.frozen? ⟨w.heap.size + 2, j, none⟩ = false := fun j => row_frozen HA2.out.g j
  have HA3 := Lib.hid (HA2.out.setBlk rfl (bk : Int))
  clear hr2 hm2
  go_wp2_with fail
  refine (HC2.out _ _ HA3.out.rd).mono ?_; rintro e w3 ⟨rfl, hr3, hm3⟩
  have HA4 := Lib.hid (HA3.out.read (by decide) rfl hm3 hr3)
  clear hr3 hm3 g0 g1 g2 g3 gf
  obtain ⟨g0, g1, g2, g3⟩ := HA4.out.gc
  have gf : ∀ j, w3.frozen? ⟨w.heap.size + 2, j, none⟩ = false := fun j => row_frozen HA4.out.g j
  have q2 := HA4.out.cellsAt
  have HA := Lib.hid (HA4.out.setSize rfl (sz : Int))
  clear HA0 HA2 HA3 HC1 HC2
  by_cases h2 : e2 = 0
  rotate_left
  · have HV : Hid (X = .bad e2) := by unfold Hid; rw [HX.out, sigOf0, if_neg h2]
    have hne : (e2 != 0) = true := by simpa using h2
    clear HX h2
    go_upto_region 6 with fail
    obtain ⟨W0, hW0⟩ : ∃ W0, W0 = w3.setCell ⟨w.heap.size + 2, 1, none⟩ (.int .i64 sz) := ⟨_, rfl⟩
    rw [← hW0] at HA ⊢
    obtain ⟨r0, r1, r2, r3, f0⟩ := HA.out.rcell
    have q3 := HA.out.cellsAt
    clear hW0 q2 HA4 g0 g1 g2 g3 gf
    go_region
    all_goals
      go_wp2
      refine bodyPost_ret (v := .tuple #[sigV 0 0 (.slice none 0 0) (.slice none 0 0), .int .i64 e2]) (by simp [results, Try.results53, go_sem, r0, r1, r2, r3, sigV]) rfl ?_
      exact OfPost.bad HV.out (HA.out.mods.drew |>.setCell _ (fun h => absurd h (Nat.lt_irrefl _)) _ |>.setCell _ (fun h => absurd h (Nat.lt_irrefl _)) _ |>.setCell _ (fun h => absurd h (Nat.lt_irrefl _)) _ |>.setCell _ (fun h => absurd h (Nat.lt_irrefl _)) _)
  subst h2
  rw [sigOf0, if_pos rfl] at HX
  simp only at HX
  by_cases hfit : 16 ≤ bk ∧ bk ≤ 1024 ∧ sz ≤ 524288
  rotate_left
  · have HV : Hid (X = .bad 5) := by unfold Hid; rw [HX.out, sigOf1, if_neg (by omega)]
    go_upto_region 7 with fail
    obtain ⟨W0, hW0⟩ : ∃ W0, W0 = w3.setCell ⟨w.heap.size + 2, 1, none⟩ (.int .i64 sz) := ⟨_, rfl⟩
    rw [← hW0] at HA ⊢
    obtain ⟨r0, r1, r2, r3, f0⟩ := HA.out.rcell
    clear q2 g0 g1 g2 g3 gf
    obtain ⟨g0, g1, g2, g3⟩ := HA.out.gc
    clear hW0 HA4 HX
    by_cases k1 : bk < 16
    · clear hfit
      go_wp2
      refine bodyPost_ret (v := .tuple #[sigV 0 0 (.slice none 0 0) (.slice none 0 0), .int .i64 5]) (by simp [results, Try.results53, go_sem, r0, r1, r2, r3, sigV]) rfl ?_
      exact OfPost.bad HV.out (HA.out.mods.setCell _ (fun h => absurd h (Nat.lt_irrefl _)) _ |>.setCell _ (fun h => absurd h (Nat.lt_irrefl _)) _ |>.setCell _ (fun h => absurd h (Nat.lt_irrefl _)) _ |>.setCell _ (fun h => absurd h (Nat.lt_irrefl _)) _)
    by_cases k2 : 1024 < bk
    · clear hfit
      go_wp2
      refine bodyPost_ret (v := .tuple #[sigV 0 0 (.slice none 0 0) (.slice none 0 0), .int .i64 5]) (by simp [results, Try.results53, go_sem, r0, r1, r2, r3, sigV]) rfl ?_
      exact OfPost.bad HV.out (HA.out.mods.setCell _ (fun h => absurd h (Nat.lt_irrefl _)) _ |>.setCell _ (fun h => absurd h (Nat.lt_irrefl _)) _ |>.setCell _ (fun h => absurd h (Nat.lt_irrefl _)) _ |>.setCell _ (fun h => absurd h (Nat.lt_irrefl _)) _)
    have k3 : 524288 < sz := by omega
    clear hfit
    go_wp2
    refine bodyPost_ret (v := .tuple #[sigV 0 0 (.slice none 0 0) (.slice none 0 0), .int .i64 5]) (by simp [results, Try.results53, go_sem, r0, r1, r2, r3, sigV]) rfl ?_
    exact OfPost.bad HV.out (HA.out.mods.setCell _ (fun h => absurd h (Nat.lt_irrefl _)) _ |>.setCell _ (fun h => absurd h (Nat.lt_irrefl _)) _ |>.setCell _ (fun h => absurd h (Nat.lt_irrefl _)) _ |>.setCell _ (fun h => absurd h (Nat.lt_irrefl _)) _)
  obtain ⟨hb1, hb2, hsz⟩ := hfit
  go_upto_region 7 with fail
  obtain ⟨W0, hW0⟩ : ∃ W0, W0 = w3.setCell ⟨w.heap.size + 2, 1, none⟩ (.int .i64 sz) := ⟨_, rfl⟩
  rw [← hW0] at HA ⊢
  clear q2 g0 g1 g2 g3 gf hW0 HA4
  obtain ⟨g0, g1, g2, g3⟩ := HA.out.gc
  have hcl : cnt sz bk ≤ 524288 := Nat.le_trans (cnt_le sz bk (by omega)) hsz
  rw [sigOf1, if_pos ⟨⟨hb1, hb2⟩, hsz⟩] at HX
  have HCN : Hid (((sz : Int) + bk - 1) / bk = (cnt sz bk : Nat)) := by
    unfold Hid
    rw [show ((sz : Int) + bk - 1) = ((sz + bk - 1 : Nat) : Int) by omega]; rfl
  go_wp2_with fail
  rw [HCN.out]
  have HAG : Hid (OfAt 123 w.heap.size (w.heap.size + 1) (w.heap.size + 1 + 1) s w W0 bk sz [] [] (.slice none 0 0) (.slice none 0 0) A2 0) := HA
  clear g0 g1 g2 g3 HA HCN
  generalize w.heap.size + 1 + 1 = G at HAG ⊢
  have HN : Hid (∃ n, n = cnt sz bk) := ⟨_, rfl⟩
  obtain ⟨N, hN⟩ := HN.out
  rw [← hN] at HX hcl ⊢
  clear hN HN
  obtain ⟨P, hP⟩ : ∃ P, P = rcs s N A2 := ⟨_, rfl⟩
  rw [← hP] at HX
  obtain ⟨Q, hQ⟩ : ∃ Q, Q = rds s N P.2.1 := ⟨_, rfl⟩
  rw [← hQ] at HX
  have HP := Lib.hid hP
  have HQ := Lib.hid hQ
  clear hP hQ
  go_loopg [7] (N + 1) (fun gk i wr => ∃ k A ws wv e1, k ≤ N ∧ gk = N + 1 - k ∧ i = .int .i64 (k : Nat) ∧ A ≤ s.size ∧ ws.length = k ∧ OfAt 123 w.heap.size (w.heap.size + 1) G s w wr bk sz ws [] wv (.slice none 0 0) A e1 ∧ (e1 = 0 → RcAt s N P k A ws) ∧ (e1 ≠ 0 → P.2 = (A, e1)))
  case atStart => exact ⟨0, A2, [], _, 0, by omega, by omega, rfl, HLE.out, rfl, HAG.out, fun _ => by unfold RcAt; rw [HP.out]; rfl, fun h => absurd rfl h⟩
  case round =>
    obtain ⟨k, A, ws, wv, e1, hk, rfl, rfl, hAle, hwl, hO, hRc, hPf⟩ := hrel
    have HO := Lib.hid hO
    have HRC := Lib.hid hRc
    have HPF := Lib.hid hPf
    have HWL := Lib.hid hwl
    have q2 := HO.out.cellsAt
    clear hO hRc hwl hPf
    by_cases he1 : e1 = 0
    · subst he1
      by_cases hlt : k < N
      · have hC := fun (wx : World) h => f96_calls (w.heap.size + 1) s A 0 4294967295 wx h hAle HS.out
        have hle := rc_le s A 0 4294967295 hAle
        have HST := Lib.hid (fun x A' (h : rc s A 0 4294967295 = (x, A', 0)) => (HRC.out rfl).step hlt h)
        have HFL := Lib.hid (fun x A' e (h : rc s A 0 4294967295 = (x, A', e)) (he : e ≠ 0) => (HRC.out rfl).fail hlt h he)
        generalize rc s A 0 4294967295 = xx at hC hle HST HFL
        obtain ⟨v, A', e'⟩ := xx
        simp only at hC hle
        have HC := Lib.hid hC
        have HLT := Lib.hid hlt
        have HRC' : Hid (e' = 0 → RcAt s N P (k + 1) A' (ws ++ [(v : Int)])) := fun h => HST.out v A' (by rw [h])
        have HPF' : Hid (e' ≠ 0 → P.2 = (A', e')) := fun h => HFL.out v A' e' rfl h
        clear hC HST HFL
        have hc2 : wr.cell? ⟨G, 2, none⟩ = some wv := HO.out.gc.2.2.1
        have ha2 : ∀ o, (wr.alloc o).cell? ⟨G, 2, none⟩ = some wv := fun o => ((Mods.refl Nope _).alloc o).cell hc2 (fun h => h)
        have HWI := Lib.hid (show (ints ws).length = k by rw [ints_length, HWL.out])
        have hwz : w.heap.size ≤ wr.heap.size := HO.out.mods.size
        go_upto_region 13 with fail
        go_region_law (first
          | (refine step_app1 _ rfl _ _ 28 3 (.int .i64 0) 8 rfl Try.underlying28 info3 rfl (by decide) wv (ints ws) (.int .i64 (v : Int)) _ rfl rfl (by simp) rfl w.heap.size (by exact HSO.out.alloc _) (by simp; omega) (by rw [HWI.out]; omega) ?_; intro g cap w3 hown3 hg3 hat3
             have HG : Hid (w3.heap[G]? = some (.cells #[.int .i64 bk, .int .i64 sz, wv, .slice none 0 0] 31 (0, 0))) := grown_row hg3 (row_alloc HO4.out.g _) (own_ne_row HSO.out HO4.out.g (by decide))
             have hcc : w3.cell? ⟨G, 2, none⟩ = some wv := by rw [row_cell HG.out]; rfl
             have hff : w3.frozen? ⟨G, 2, none⟩ = false := row_frozen HG.out 2
             rw [HWI.out] at hown3 ⊢
             have HA := Lib.hid (HO4.out.addWeak (by decide) rfl HWL.out ((Mods.refl Nope _).alloc _) hg3 hown3))
          | (go_simp; go_at_call 96; refine (HC.out _ (by exact HO.out.rd)).mono ?_; rintro e w4 ⟨rfl, hr4, hm4⟩
             have HO4 := Lib.hid (OfAt.read HO.out (by decide) rfl (((Mods.refl _ wr).drew).trans hm4) hr4)
             have HSO : Hid (w4.ownsRow w.heap.size 3 1 wv (ints ws).length (ints ws)) := by unfold Hid; rw [ints_length]; exact HO4.out.weak
             have hz4 : w.heap.size ≤ w4.heap.size := HO4.out.mods.size
             have hc4 : w4.cell? ⟨G, 2, none⟩ = some wv := HO4.out.gc.2.2.1
             have ha4 : ∀ o, (w4.alloc o).cell? ⟨G, 2, none⟩ = some wv := fun o => ((Mods.refl Nope _).alloc o).cell hc4 (fun h => h)
             clear hr4 hm4))
        all_goals
          go_wp2_with fail
          go_roundg (N + 1 - (k + 1))
          case measure => have := HLT.out; omega
          case rel => exact ⟨k + 1, A', _, _, e', HLT.out, rfl, by go_num, hle.1, by rw [List.length_append, HWL.out]; rfl, HA.out, HRC'.out, HPF'.out⟩
      · obtain rfl : k = N := by omega
        have hPd := (HRC.out rfl).done
        subst hPd
        simp only at HQ HX
        obtain ⟨wo, rfl⟩ : ∃ wo : World, wo = wr := ⟨_, rfl⟩
        go_wp2_with fail
        go_loopg [8] (k + 1) (fun gk i wr => ∃ j A' ms sv e1, j ≤ k ∧ gk = k + 1 - j ∧ i = .int .i64 (j : Nat) ∧ A' ≤ s.size ∧ ms.length = j ∧ OfAt 123 w.heap.size (w.heap.size + 1) G s w wr bk sz ws ms wv sv A' e1 ∧ (e1 = 0 → RdAt s k Q j A' ms) ∧ (e1 ≠ 0 → Q.2 = (A', e1)))
        case atStart => exact ⟨0, A, [], _, 0, by omega, by omega, rfl, hAle, rfl, HO.out, fun _ => by unfold RdAt; rw [HQ.out]; rfl, fun h => absurd rfl h⟩
        case round =>
          obtain ⟨j, A3, ms, sv, e1, hj, rfl, rfl, hAle3, hml, hO3, hRd, hQf⟩ := hrel
          have HO3 := Lib.hid hO3
          have HRD := Lib.hid hRd
          have HQF := Lib.hid hQf
          have HML := Lib.hid hml
          have q4 := HO3.out.cellsAt
          clear hO3 hRd hml hQf
          by_cases he1 : e1 = 0
          · subst he1
            by_cases hlt : j < k
            · have hC := fun (wx : World) h => f97_calls (w.heap.size + 1) s A3 0 32 wx h hAle3 HS.out (by omega)
              have hle := rr_le s A3 0 32 hAle3
              have HST := Lib.hid (fun x A' (h : rr s A3 0 32 = (x, A', 0)) => (HRD.out rfl).step hlt h)
              have HFL := Lib.hid (fun x A' e (h : rr s A3 0 32 = (x, A', e)) (he : e ≠ 0) => (HRD.out rfl).fail hlt h he)
              generalize rr s A3 0 32 = xx at hC hle HST HFL
              obtain ⟨v, A', e'⟩ := xx
              simp only at hC hle
              have HC := Lib.hid hC
              have HLT := Lib.hid hlt
              have HRD' : Hid (e' = 0 → RdAt s k Q (j + 1) A' (ms ++ [v])) := fun h => HST.out v A' (by rw [h])
              have HQF' : Hid (e' ≠ 0 → Q.2 = (A', e')) := fun h => HFL.out v A' e' rfl h
              clear hC HST HFL
              have hc2 : wr.cell? ⟨G, 3, none⟩ = some sv := HO3.out.gc.2.2.2
              have ha2 : ∀ o, (wr.alloc o).cell? ⟨G, 3, none⟩ = some sv := fun o => ((Mods.refl Nope _).alloc o).cell hc2 (fun h => h)
              have HWI := Lib.hid (show (strs ms).length = j by rw [strs_length, HML.out])
              have hwz : w.heap.size ≤ wr.heap.size := HO3.out.mods.size
              go_upto_region 17 with fail
              go_region_law (first
                | (refine step_app1 _ rfl _ _ 29 9 (.string ⟨#[]⟩) 16 rfl Try.underlying29 info9 rfl (by decide) sv (strs ms) (.string v) _ rfl rfl (by simp) rfl w.heap.size (by exact HSO.out.alloc _) (by simp; omega) (by rw [HWI.out]; omega) ?_; intro g cap w3 hown3 hg3 hat3
                   have HG : Hid (w3.heap[G]? = some (.cells #[.int .i64 bk, .int .i64 sz, wv, sv] 31 (0, 0))) := grown_row hg3 (row_alloc HO4.out.g _) (own_ne_row HSO.out HO4.out.g (by decide))
                   have hcc : w3.cell? ⟨G, 3, none⟩ = some sv := by rw [row_cell HG.out]; rfl
                   have hff : w3.frozen? ⟨G, 3, none⟩ = false := row_frozen HG.out 3
                   rw [HWI.out] at hown3 ⊢
                   have HA := Lib.hid (HO4.out.addStrong (by decide) rfl HML.out ((Mods.refl Nope _).alloc _) hg3 hown3))
                | (go_simp; go_at_call 97; refine (HC.out _ (by exact HO3.out.rd)).mono ?_; rintro e w4 ⟨rfl, hr4, hm4⟩
                   have HO4 := Lib.hid (OfAt.read HO3.out (by decide) rfl (((Mods.refl _ wr).drew).trans hm4) hr4)
                   have HSO : Hid (w4.ownsRow w.heap.size 9 1 sv (strs ms).length (strs ms)) := by unfold Hid; rw [strs_length]; exact HO4.out.strong
                   have hz4 : w.heap.size ≤ w4.heap.size := HO4.out.mods.size
                   have hc4 : w4.cell? ⟨G, 3, none⟩ = some sv := HO4.out.gc.2.2.2
                   have ha4 : ∀ o, (w4.alloc o).cell? ⟨G, 3, none⟩ = some sv := fun o => ((Mods.refl Nope _).alloc o).cell hc4 (fun h => h)
                   clear hr4 hm4))
              all_goals
                go_wp2_with fail
                go_roundg (k + 1 - (j + 1))
                case measure => have := HLT.out; omega
                case rel => exact ⟨j + 1, A', _, _, e', HLT.out, rfl, by go_num, hle.1, by rw [List.length_append, HML.out]; rfl, HA.out, HRD'.out, HQF'.out⟩
            · obtain rfl : j = k := by omega
              have hQd := (HRD.out rfl).done
              subst hQd
              go_wp2_with fail
              refine (f98_calls _ s A3 0 _ HO3.out.rd HS.out).mono ?_; rintro e w7 ⟨rfl, hr7, hm7⟩
              have HO7 := Lib.hid (HO3.out.read (by decide) rfl hm7 hr7)
              clear hr7 hm7
              obtain ⟨r0, r1, r2, r3, f0⟩ := HO7.out.rcell
              obtain ⟨e', he'⟩ : ∃ e', e' = re s A3 0 := ⟨_, rfl⟩
              have HE' := Lib.hid he'
              rw [← he'] at HO7 ⊢
              clear he'
              by_cases he : e' = 0
              · have HV : Hid (X = ⟨bk, sz, ws, ms, 0⟩) := by unfold Hid; rw [HX.out]; unfold sigOf2; rw [if_pos rfl, if_pos rfl]; show (if re s A3 0 = 0 then _ else OfR.bad (re s A3 0)) = _; rw [← HE'.out, if_pos he]
                subst he
                obtain ⟨g0, g1, g2, g3⟩ := HO7.out.gc
                obtain ⟨Aw, cw, hAw, _, _, hrd, _⟩ := Rd.of_owns HO7.out.weak
                obtain ⟨As, cs, hAs, _, _, hrd', _⟩ := Rd.of_owns HO7.out.strong
                subst hAw
                subst hAs
                clear hrd hrd'
                go_wp2
                refine bodyPost_ret (v := .tuple #[sigV bk sz (.slice Aw ws.length cw) (.slice As ms.length cs), .int .i64 0]) (by simp [results, Try.results53, go_sem, r0, r1, r2, r3, sigV]) rfl ?_
                have hM := Lib.hid (((((Mods.refl (fun j => j = w.heap.size) w7).setCell ⟨w.heap.size, 0, none⟩ (fun _ => rfl) (.int .i64 bk)).setCell ⟨w.heap.size, 1, none⟩ (fun _ => rfl) (.int .i64 sz)).setCell ⟨w.heap.size, 2, none⟩ (fun _ => rfl) (.slice Aw ws.length cw)).setCell ⟨w.heap.size, 3, none⟩ (fun _ => rfl) (.slice As ms.length cs))
                obtain rfl := HV.out
                refine ⟨_, _, rfl, hM.out.owns HO7.out.weak ?_, hM.out.owns HO7.out.strong ?_, HO7.out.mods.then hM.out (fun j hj e => by omega)⟩
                · exact own_ne_row HO7.out.weak HO7.out.res (by decide)
                · exact own_ne_row HO7.out.strong HO7.out.res (by decide)
              · have HV : Hid (X = .bad e') := by unfold Hid; rw [HX.out]; unfold sigOf2; rw [if_pos rfl, if_pos rfl]; show (if re s A3 0 = 0 then _ else OfR.bad (re s A3 0)) = _; rw [← HE'.out, if_neg he]
                have hne : (e' != 0) = true := by simpa using he
                clear HX he
                go_wp2
                refine bodyPost_ret (v := .tuple #[sigV 0 0 (.slice none 0 0) (.slice none 0 0), .int .i64 e']) (by simp [results, Try.results53, go_sem, r0, r1, r2, r3, sigV]) rfl ?_
                exact OfPost.bad HV.out (HO7.out.mods.setCell _ (fun h => absurd h (Nat.lt_irrefl _)) _ |>.setCell _ (fun h => absurd h (Nat.lt_irrefl _)) _ |>.setCell _ (fun h => absurd h (Nat.lt_irrefl _)) _ |>.setCell _ (fun h => absurd h (Nat.lt_irrefl _)) _)
          · have hQe := HQF.out he1
            have HV : Hid (X = .bad e1) := by unfold Hid; rw [HX.out, sigOf2, if_pos rfl, hQe, if_neg he1]
            have hne : (e1 == 0) = false := by simpa using he1
            have hn2 : (e1 != 0) = true := by simpa using he1
            have hre : re s A3 e1 = e1 := by unfold re; rw [if_neg (fun h => he1 h.1)]
            have hC := fun (wx : World) h => f98_calls (w.heap.size + 1) s A3 e1 wx h HS.out
            rw [hre] at hC
            have HC := Lib.hid hC
            clear hQe he1 hC hre
            by_cases hlt : j < k
            · go_wp2_with fail
              refine (HC.out _ HO3.out.rd).mono ?_; rintro e w7 ⟨rfl, hr7, hm7⟩
              have HO7 := Lib.hid (HO3.out.read (by decide) rfl hm7 hr7)
              clear hr7 hm7
              obtain ⟨r0, r1, r2, r3, f0⟩ := HO7.out.rcell
              go_wp2
              refine bodyPost_ret (v := .tuple #[sigV 0 0 (.slice none 0 0) (.slice none 0 0), .int .i64 e1]) (by simp [results, Try.results53, go_sem, r0, r1, r2, r3, sigV]) rfl ?_
              exact OfPost.bad HV.out (HO7.out.mods.setCell _ (fun h => absurd h (Nat.lt_irrefl _)) _ |>.setCell _ (fun h => absurd h (Nat.lt_irrefl _)) _ |>.setCell _ (fun h => absurd h (Nat.lt_irrefl _)) _ |>.setCell _ (fun h => absurd h (Nat.lt_irrefl _)) _)
            · go_wp2_with fail
              refine (HC.out _ HO3.out.rd).mono ?_; rintro e w7 ⟨rfl, hr7, hm7⟩
              have HO7 := Lib.hid (HO3.out.read (by decide) rfl hm7 hr7)
              clear hr7 hm7
              obtain ⟨r0, r1, r2, r3, f0⟩ := HO7.out.rcell
              go_wp2
              refine bodyPost_ret (v := .tuple #[sigV 0 0 (.slice none 0 0) (.slice none 0 0), .int .i64 e1]) (by simp [results, Try.results53, go_sem, r0, r1, r2, r3, sigV]) rfl ?_
              exact OfPost.bad HV.out (HO7.out.mods.setCell _ (fun h => absurd h (Nat.lt_irrefl _)) _ |>.setCell _ (fun h => absurd h (Nat.lt_irrefl _)) _ |>.setCell _ (fun h => absurd h (Nat.lt_irrefl _)) _ |>.setCell _ (fun h => absurd h (Nat.lt_irrefl _)) _)
    · have hPe := HPF.out he1
      have HV : Hid (X = .bad e1) := by unfold Hid; rw [HX.out, sigOf2, hPe, if_neg he1]
      have hne : (e1 == 0) = false := by simpa using he1
      have hn2 : (e1 != 0) = true := by simpa using he1
      have hre : re s A e1 = e1 := by unfold re; rw [if_neg (fun h => he1 h.1)]
      have hC := fun (wx : World) h => f98_calls (w.heap.size + 1) s A e1 wx h HS.out
      rw [hre] at hC
      have HC := Lib.hid hC
      clear hPe he1 hC hre
      by_cases h0N : 0 < N
      · by_cases hlt : k < N
        · go_wp2_with fail
          refine wp_loop_once ?_
          go_wp2_with fail
          refine (HC.out _ HO.out.rd).mono ?_; rintro e w7 ⟨rfl, hr7, hm7⟩
          have HO7 := Lib.hid (HO.out.read (by decide) rfl hm7 hr7)
          clear hr7 hm7
          obtain ⟨r0, r1, r2, r3, f0⟩ := HO7.out.rcell
          go_wp2
          refine bodyPost_ret (v := .tuple #[sigV 0 0 (.slice none 0 0) (.slice none 0 0), .int .i64 e1]) (by simp [results, Try.results53, go_sem, r0, r1, r2, r3, sigV]) rfl ?_
          exact OfPost.bad HV.out (HO7.out.mods.setCell _ (fun h => absurd h (Nat.lt_irrefl _)) _ |>.setCell _ (fun h => absurd h (Nat.lt_irrefl _)) _ |>.setCell _ (fun h => absurd h (Nat.lt_irrefl _)) _ |>.setCell _ (fun h => absurd h (Nat.lt_irrefl _)) _)
        · go_wp2_with fail
          refine wp_loop_once ?_
          go_wp2_with fail
          refine (HC.out _ HO.out.rd).mono ?_; rintro e w7 ⟨rfl, hr7, hm7⟩
          have HO7 := Lib.hid (HO.out.read (by decide) rfl hm7 hr7)
          clear hr7 hm7
          obtain ⟨r0, r1, r2, r3, f0⟩ := HO7.out.rcell
          go_wp2
          refine bodyPost_ret (v := .tuple #[sigV 0 0 (.slice none 0 0) (.slice none 0 0), .int .i64 e1]) (by simp [results, Try.results53, go_sem, r0, r1, r2, r3, sigV]) rfl ?_
          exact OfPost.bad HV.out (HO7.out.mods.setCell _ (fun h => absurd h (Nat.lt_irrefl _)) _ |>.setCell _ (fun h => absurd h (Nat.lt_irrefl _)) _ |>.setCell _ (fun h => absurd h (Nat.lt_irrefl _)) _ |>.setCell _ (fun h => absurd h (Nat.lt_irrefl _)) _)
      · have hlt : ¬ k < N := by omega
        go_wp2_with fail
        refine wp_loop_once ?_
        go_wp2_with fail
        refine (HC.out _ HO.out.rd).mono ?_; rintro e w7 ⟨rfl, hr7, hm7⟩
        have HO7 := Lib.hid (HO.out.read (by decide) rfl hm7 hr7)
        clear hr7 hm7
        obtain ⟨r0, r1, r2, r3, f0⟩ := HO7.out.rcell
        go_wp2
        refine bodyPost_ret (v := .tuple #[sigV 0 0 (.slice none 0 0) (.slice none 0 0), .int .i64 e1]) (by simp [results, Try.results53, go_sem, r0, r1, r2, r3, sigV]) rfl ?_
        exact OfPost.bad HV.out (HO7.out.mods.setCell _ (fun h => absurd h (Nat.lt_irrefl _)) _ |>.setCell _ (fun h => absurd h (Nat.lt_irrefl _)) _ |>.setCell _ (fun h => absurd h (Nat.lt_irrefl _)) _ |>.setCell _ (fun h => absurd h (Nat.lt_irrefl _)) _)
theorem f53_calls (s : ByteArray) (w : World) (hs : s.size ≤ maxLen) : Calls Try.prog 53 #[.string s] w (OfPost (sigOf s) w) := f53_at s _ w hs (Lib.hid rfl)
end Go.Proofs.Ytblhbbgkkijkfaa
