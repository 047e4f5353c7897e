/- symMerge, walked. -/
import Derived.Test.YtblhbbgkkijkfaaT4
namespace Go.Proofs.Ytblhbbgkkijkfaa
open Go.RowKit Go.Maps
theorem cells_two {w : World} {g cap a m b : Nat} {p l r q : List Int} (hA : Arr w g cap (p ++ l ++ r ++ q)) (ha : p.length = a) (hm : a + l.length = m) (hb : m + r.length = b) :
    (∀ h, a ≤ h → h < m → w.cell? ⟨g, h, none⟩ = some (.int .i64 (l.getD (h - a) 0))) ∧ ∀ h, m ≤ h → h < b → w.cell? ⟨g, h, none⟩ = some (.int .i64 (r.getD (h - m) 0)) := by
  constructor
  · intro h h1 h2
    have hl : h < (p ++ l ++ r ++ q).length := by simp; omega
    rw [hA.at h hl, List.append_assoc, List.append_assoc, getD_right (by omega), ha, getD_left (by omega)]
  · intro h h1 h2
    have hl : h < (p ++ l ++ r ++ q).length := by simp; omega
    rw [hA.at h hl, List.append_assoc, getD_right (by simp; omega), show h - (p ++ l).length = h - m by simp; omega, getD_left (by omega)]
/-- What symMerge is asked for. -/
structure SymPre (g cap N G : Nat) (A : Option Addr) (c : Nat) (ws p l r q : List Int) (w : World) : Prop where
  arr : Arr w g cap (p ++ l ++ r ++ q)
  len : (p ++ l ++ r ++ q).length = N
  l0 : 0 < l.length
  r0 : 0 < r.length
  ks : KS w G A c ws
  inl : InR ws l
  inr : InR ws r
  sl : l.Pairwise (Rl ws)
  sr : r.Pairwise (Rl ws)
  cross : ∀ x ∈ l, ∀ y ∈ r, x < y
/-- What holds between the parts. -/
structure SymMid (g cap G : Nat) (A : Option Addr) (c : Nat) (ws p s1 l2 r2 q : List Int) (l1r1 : List Int) (w wx : World) : Prop where
  arr : Arr wx g cap (p ++ s1 ++ l2 ++ r2 ++ q)
  perm : s1.Perm l1r1
  sort : s1.Pairwise (Rl ws)
  mods : Mods (fun j => j = g) w wx
set_option maxRecDepth 100000 in
set_option maxHeartbeats 8000000 in
theorem f150_step (g cap N G : Nat) (A : Option Addr) (c : Nat) (ws : List Int) (hgG : g ≠ G) (hAg : ∀ ad, A = some ad → ad.block ≠ g) (hcap : N ≤ 1000000) (F : Nat)
    (IH : ∀ (p l r q : List Int) (ai mi bi : Int) (w : World), l.length + r.length ≤ F → SymPre g cap N G A c ws p l r q w → ai = p.length → mi = ai + l.length → bi = mi + r.length → Calls Try.prog 150 #[.slice (some ⟨g, 0, none⟩) N cap, .int .i64 ai, .int .i64 mi, .int .i64 bi, cmpV G] w (SymPost ws g cap p l r q w))
    (p l r q : List Int) (a m b : Nat) (w : World) (hF : l.length + r.length ≤ F + 1) (h : SymPre g cap N G A c ws p l r q w) (ha : p.length = a) (hm : a + l.length = m) (hb : m + r.length = b) (hl2 : 2 ≤ l.length) (hr2 : 2 ≤ r.length) :
    Calls Try.prog 150 #[.slice (some ⟨g, 0, none⟩) N cap, .int .i64 a, .int .i64 m, .int .i64 b, cmpV G] w (SymPost ws g cap p l r q w) := by
  have hbN : b ≤ N := by rw [← h.len]; simp; omega
  have ham : a + 1 < m := by omega
  have hmb : m + 1 < b := by omega
  have hq1 : (((m : Int) - (a : Int)) == 1) = false := by simp; omega
  have hq2 : (((b : Int) - (m : Int)) == 1) = false := by simp; omega
  have H := Lib.hid h
  have HIH := Lib.hid IH
  have HG := Lib.hid hgG
  have HAG := Lib.hid hAg
  have HR : Hid (p.length = a ∧ a + l.length = m ∧ m + r.length = b) := ⟨ha, hm, hb⟩
  have HF : Hid (b - a ≤ F + 1) := by unfold Hid; omega
  clear h IH hgG hAg ha hm hb hl2 hr2 hF
  obtain ⟨mid, hmid⟩ : ∃ mid, mid = (a + b) / 2 := ⟨_, rfl⟩
  have HMID := Lib.hid hmid
  have HMI : Hid (((a : Int) + (b : Int)) / 2 = (mid : Nat)) := by unfold Hid; omega
  have hm1 : a < mid := by omega
  have hm2 : mid < b := by omega
  have hm3 : 2 * mid ≤ a + b := by omega
  have hm4 : a + b ≤ 2 * mid + 1 := by omega
  clear hmid
  obtain ⟨s0, hs0⟩ : ∃ s0, s0 = if mid < m then mid + m - b else a := ⟨_, rfl⟩
  obtain ⟨t0, ht0⟩ : ∃ t0, t0 = if mid < m then mid else m := ⟨_, rfl⟩
  have HS0 := Lib.hid hs0
  have HT0 := Lib.hid ht0
  have hst : a ≤ s0 ∧ s0 ≤ t0 ∧ t0 ≤ m ∧ t0 ≤ mid ∧ mid + m ≤ s0 + b := by
    by_cases hc : mid < m
    · rw [if_pos hc] at hs0 ht0; omega
    · rw [if_neg hc] at hs0 ht0; omega
  obtain ⟨hst1, hst2, hst3, hst4, hst5⟩ := hst
  clear hs0 ht0
  unfold cmpV
  go_enter Try.func150, Try.ntmps150
  go_upto_if 140 with fail
  rw [HMI.out]
  go_cut [20, 21] (fun x y wx => x = .int .i64 (s0 : Nat) ∧ y = .int .i64 (t0 : Nat) ∧ wx = w)
  case first => as_aux_lemma =>
    by_cases hc : mid < m
    · have h1 := HS0.out
      have h2 := HT0.out
      rw [if_pos hc] at h1 h2
      have H1 := Lib.hid h1
      have H2 := Lib.hid h2
      clear h1 h2
      go_wp2_with fail
      go_meet
      exact ⟨val_int (by have := H1.out; omega), val_int (by rw [H2.out]), rfl⟩
    · have h1 := HS0.out
      have h2 := HT0.out
      rw [if_neg hc] at h1 h2
      have H1 := Lib.hid h1
      have H2 := Lib.hid h2
      clear h1 h2
      go_wp2_with fail
      go_meet
      exact ⟨val_int (by rw [H1.out]), val_int (by rw [H2.out]), rfl⟩
  case rest => as_aux_lemma =>
    obtain ⟨rfl, rfl, rfl⟩ := hcut
    obtain ⟨w0, rfl⟩ : ∃ w0 : World, w0 = wc := ⟨_, rfl⟩
    have HW0 := Lib.hid H.out.arr
    go_wp2_with fail
    go_loopw [20, 21] (fun i j wr => ∃ s t : Nat, s0 ≤ s ∧ s ≤ t ∧ t ≤ t0 ∧ i = .int .i64 (s : Nat) ∧ j = .int .i64 (t : Nat) ∧ (∀ k, s0 ≤ k → k < s → ¬ kw ws (r.getD (mid + m - 1 - k - m) 0) < kw ws (l.getD (k - a) 0)) ∧ (∀ k, t ≤ k → k < t0 → kw ws (r.getD (mid + m - 1 - k - m) 0) < kw ws (l.getD (k - a) 0)) ∧ Mods Nope w0 wr) (fun i j _ => (intOf j - intOf i).toNat)
    case atStart => exact ⟨s0, t0, by omega, hst2, by omega, rfl, rfl, fun k h1 h2 => by omega, fun k h1 h2 => by omega, Mods.refl _ _⟩
    case round =>
      obtain ⟨s, t, hms, hst, htb, rfl, rfl, h1, h2, hM⟩ := hrel
      have H1 := Lib.hid h1
      have H2 := Lib.hid h2
      have HM := Lib.hid hM
      have HA1 := Lib.hid (H.out.arr.nope hM)
      have HK1 := Lib.hid (H.out.ks.nope hM)
      clear h1 h2 hM
      by_cases hlt : s < t
      · as_aux_lemma =>
        obtain ⟨h, hh⟩ : ∃ h, h = (s + t) / 2 := ⟨_, rfl⟩
        have HE : Hid (((s : Int) + (t : Int)) / 2 = (h : Nat)) := by unfold Hid; omega
        have hs1 : s ≤ h := by omega
        have hs2 : h < t := by omega
        have hr := HR.out
        obtain ⟨cc1, cc2⟩ := cells_two HA1.out hr.1 hr.2.1 hr.2.2
        have c1 := cc1 h (by omega) (by omega)
        have c2 := cc2 (mid + m - 1 - h) (by omega) (by omega)
        have hy := H.out.inl.at (i := h - a) (by omega)
        have hz := H.out.inr.at (i := mid + m - 1 - h - m) (by omega)
        have HL : Hid (∀ k, s0 ≤ k → k ≤ h → kw ws (l.getD (k - a) 0) ≤ kw ws (l.getD (h - a) 0) ∧ kw ws (r.getD (mid + m - 1 - h - m) 0) ≤ kw ws (r.getD (mid + m - 1 - k - m) 0)) := fun k hk0 hk => ⟨Rl.mono H.out.sl (by omega) (by omega), Rl.mono H.out.sr (by omega) (by omega)⟩
        have HL2 : Hid (∀ k, h ≤ k → k < t0 → kw ws (l.getD (h - a) 0) ≤ kw ws (l.getD (k - a) 0) ∧ kw ws (r.getD (mid + m - 1 - k - m) 0) ≤ kw ws (r.getD (mid + m - 1 - h - m) 0)) := fun k hk hkl => ⟨Rl.mono H.out.sl (by omega) (by omega), Rl.mono H.out.sr (by omega) (by omega)⟩
        have hhN : (h : Int) < (N : Int) := by omega
        have haN : (mid : Int) + m - 1 - h < (N : Int) := by omega
        have haN0 : 0 ≤ (mid : Int) + m - 1 - h := by omega
        clear hh hr cc1 cc2
        generalize hy0 : l.getD (h - a) 0 = y at *
        generalize hz0 : r.getD (mid + m - 1 - h - m) 0 = z at *
        clear hy0 hz0
        have r1 := kw_range H.out.ks.range y
        have r2 := kw_range H.out.ks.range z
        have HQ := Lib.hid (fun n => HK1.out.drewN n)
        by_cases hkk : kw ws z < kw ws y
        · have hd : decide (kw ws z - kw ws y < 0) = true := by simp; omega
          have H2' : Hid (∀ k, h ≤ k → k < t0 → kw ws (r.getD (mid + m - 1 - k - m) 0) < kw ws (l.getD (k - a) 0)) := fun k hk hkl => by have := HL2.out k hk hkl; omega
          go_upto_region 35 with fail
          rw [HE.out]
          go_quiet ((go_at_call 105; exact Calls.quiet_of (f105_calls G A c ws z y _ (HQ.out _) hz hy)))
          go_wp2_with fail
          go_roundw
          case rel => exact ⟨s, h, hms, hs1, by omega, rfl, rfl, H1.out, H2'.out, HM.out.drewN _⟩
          case measure => simp [intOf]; omega
        · have hd : decide (kw ws z - kw ws y < 0) = false := by simp; omega
          have H1' : Hid (∀ k, s0 ≤ k → k < h + 1 → ¬ kw ws (r.getD (mid + m - 1 - k - m) 0) < kw ws (l.getD (k - a) 0)) := fun k hk0 hk => by have := HL.out k hk0 (by omega); omega
          go_upto_region 35 with fail
          rw [HE.out]
          go_quiet ((go_at_call 105; exact Calls.quiet_of (f105_calls G A c ws z y _ (HQ.out _) hz hy)))
          go_wp2_with fail
          go_roundw
          case rel => exact ⟨h + 1, t, by omega, by omega, htb, by go_num, rfl, H1'.out, H2.out, HM.out.drewN _⟩
          case measure => simp [intOf]; omega
      · obtain rfl : s = t := by omega
        have hr := HR.out
        obtain ⟨b1, b2, b3, b4, l1, l2, r1, r2, el, er, n1, n2, n3, n4, f1, f2⟩ := sym_split H.out.sl H.out.sr H.out.cross (by omega) (by omega) (by omega) (by omega) HMID.out HS0.out HT0.out hms htb H1.out H2.out
        obtain ⟨E, hE⟩ : ∃ E, E = mid + m - s := ⟨_, rfl⟩
        have HEE : Hid (((mid : Int) + (m : Int)) - (s : Int) = (E : Nat)) := by unfold Hid; omega
        rw [← hE] at n4 b4
        have e1 : E + s ≤ mid + m := by omega
        have e2 : mid + m ≤ E + s := by omega
        have HF1 := Lib.hid f1
        have HF2 := Lib.hid f2
        have HEL := Lib.hid el
        have HER := Lib.hid er
        have HN1 : Hid (l1.length = s - a ∧ l2.length = m - s ∧ r1.length = mid - s ∧ r2.length = b - E) := ⟨n1, n2, n3, n4⟩
        have HA0 : Hid (Arr wr g cap (p ++ l1 ++ l2 ++ r1 ++ (r2 ++ q))) := by
          unfold Hid
          have := HA1.out
          rw [el, er] at this
          simpa using this
        have HLN : Hid ((p ++ l1 ++ l2 ++ r1 ++ (r2 ++ q)).length = N) := by
          unfold Hid
          have := H.out.len
          rw [el, er] at this
          simpa using this
        clear hE f1 f2 el er n1 n2 n3 n4 hr H1 H2 HA1
        obtain ⟨w1, rfl⟩ : ∃ w1 : World, w1 = wr := ⟨_, rfl⟩
        go_upto_region 39 with fail
        rw [HEE.out]
        go_cut [185] (fun x wx => x = .bool (decide (s < m ∧ m < E)) ∧ wx = w1)
        case first => as_aux_lemma =>
          by_cases q1 : s < m
          · by_cases q2 : m < E
            · go_wp2_with fail
              go_meet
              exact ⟨by simp [q1, q2], rfl⟩
            · go_wp2_with fail
              go_meet
              exact ⟨by simp [q1, q2], rfl⟩
          · go_wp2_with fail
            go_meet
            exact ⟨by simp [q1], rfl⟩
        case rest => as_aux_lemma =>
          obtain ⟨rfl, rfl⟩ := hcut
          obtain ⟨w1, rfl⟩ : ∃ w1 : World, w1 = wc := ⟨_, rfl⟩
          go_upto_if 185 with fail
          go_cut [] (fun wx => Arr wx g cap (p ++ l1 ++ r1 ++ l2 ++ (r2 ++ q)) ∧ Mods (fun j => j = g) w0 wx)
          case first => as_aux_lemma =>
            by_cases hP : s < m ∧ m < E
            · have hd : decide (s < m ∧ m < E) = true := decide_eq_true hP
              have hn := HN1.out
              have hr := HR.out
              have HC := Lib.hid (f153_calls g cap N (cmpV G) (p ++ l1) l2 r1 (r2 ++ q) s m E w1 HA0.out HLN.out (by rw [List.length_append]; omega) (by rw [List.length_append]; omega) (by rw [List.length_append]; omega) (by intro h; rw [h] at hn; simp at hn; omega) (by intro h; rw [h] at hn; simp at hn; omega))
              clear hn hr
              unfold cmpV at HC
              go_wp2_with fail
              refine HC.out.mono ?_; rintro e w2 ⟨rfl, hA2, hm2⟩
              have HA2 := Lib.hid hA2
              have HM2 := Lib.hid ((HM.out.any _).trans hm2)
              clear hA2 hm2
              go_wp2_with fail
              go_meet
              exact ⟨HA2.out, HM2.out⟩
            · have hd : decide (s < m ∧ m < E) = false := decide_eq_false hP
              have HA2 : Hid (Arr w1 g cap (p ++ l1 ++ r1 ++ l2 ++ (r2 ++ q))) := by
                have hn := HN1.out
                have h := HA0.out
                unfold Hid
                by_cases q1 : s < m
                · obtain rfl : r1 = [] := List.eq_nil_of_length_eq_zero (by omega)
                  simpa using h
                · obtain rfl : l2 = [] := List.eq_nil_of_length_eq_zero (by omega)
                  simpa using h
              go_wp2_with fail
              go_meet
              exact ⟨HA2.out, HM.out.any _⟩
          case rest => as_aux_lemma =>
            obtain ⟨hA2, hM2⟩ := hcut
            have HA2 := Lib.hid hA2
            have HM2 := Lib.hid hM2
            clear hA2 hM2
            obtain ⟨w2, rfl⟩ : ∃ w2 : World, w2 = wc := ⟨_, rfl⟩
            go_upto_region 41 with fail
            go_cut [199] (fun x wx => x = .bool (decide (a < s ∧ s < mid)) ∧ wx = w2)
            case first => as_aux_lemma =>
              by_cases q1 : a < s
              · by_cases q2 : s < mid
                · go_wp2_with fail
                  go_meet
                  exact ⟨by simp [q1, q2], rfl⟩
                · go_wp2_with fail
                  go_meet
                  exact ⟨by simp [q1, q2], rfl⟩
              · go_wp2_with fail
                go_meet
                exact ⟨by simp [q1], rfl⟩
            case rest => as_aux_lemma =>
              obtain ⟨rfl, rfl⟩ := hcut
              obtain ⟨w2, rfl⟩ : ∃ w2 : World, w2 = wc := ⟨_, rfl⟩
              go_upto_if 199 with fail
              go_cut [] (fun wx => ∃ s1, s1.Perm (l1 ++ r1) ∧ s1.Pairwise (Rl ws) ∧ Arr wx g cap (p ++ s1 ++ l2 ++ r2 ++ q) ∧ Mods (fun j => j = g) w0 wx)
              case first => as_aux_lemma =>
                have hsl := H.out.sl
                have hsr := H.out.sr
                have hin := H.out.inl
                have hir := H.out.inr
                have hcr := H.out.cross
                rw [HEL.out] at hsl hin hcr
                rw [HER.out] at hsr hir hcr
                by_cases hP : a < s ∧ s < mid
                · have hd : decide (a < s ∧ s < mid) = true := decide_eq_true hP
                  have hn := HN1.out
                  have hr := HR.out
                  have hpre : SymPre g cap N G A c ws p l1 r1 (l2 ++ (r2 ++ q)) w2 := by
                    refine ⟨by simpa using HA2.out, by have := HLN.out; simp at this ⊢; omega, by omega, by omega, (H.out.ks.mods HM2.out (fun h => HG.out h.symm) HAG.out), fun x hx => hin x (List.mem_append_left _ hx), fun x hx => hir x (List.mem_append_left _ hx), (List.pairwise_append.1 hsl).1, (List.pairwise_append.1 hsr).1, fun x hx y hy => hcr x (List.mem_append_left _ hx) y (List.mem_append_left _ hy)⟩
                  have HC := Lib.hid (HIH.out p l1 r1 (l2 ++ (r2 ++ q)) a s mid w2 (by have := HF.out; omega) hpre (by omega) (by omega) (by omega))
                  clear hn hr hpre hsl hsr hin hir hcr
                  unfold cmpV at HC
                  go_wp2_with fail
                  refine HC.out.mono ?_; rintro e w3 ⟨rfl, s1, hp1, hs1, hA3, hm3⟩
                  have HA3 : Hid (Arr w3 g cap (p ++ s1 ++ l2 ++ r2 ++ q)) := by unfold Hid; simpa using hA3
                  have HM3 := Lib.hid (HM2.out.trans hm3)
                  have HP1 := Lib.hid hp1
                  have HS1 := Lib.hid hs1
                  clear hA3 hm3 hp1 hs1
                  go_wp2_with fail
                  go_meet
                  exact ⟨s1, HP1.out, HS1.out, HA3.out, HM3.out⟩
                · have hd : decide (a < s ∧ s < mid) = false := decide_eq_false hP
                  have HX : Hid ((l1 ++ r1).Pairwise (Rl ws)) := by
                    have hn := HN1.out
                    unfold Hid
                    by_cases q1 : a < s
                    · obtain rfl : r1 = [] := List.eq_nil_of_length_eq_zero (by omega)
                      simpa using (List.pairwise_append.1 hsl).1
                    · obtain rfl : l1 = [] := List.eq_nil_of_length_eq_zero (by omega)
                      simpa using (List.pairwise_append.1 hsr).1
                  have HA3 : Hid (Arr w2 g cap (p ++ (l1 ++ r1) ++ l2 ++ r2 ++ q)) := by unfold Hid; simpa using HA2.out
                  clear hsl hsr hin hir hcr
                  go_wp2_with fail
                  go_meet
                  exact ⟨l1 ++ r1, List.Perm.refl _, HX.out, HA3.out, HM2.out⟩
              case rest => as_aux_lemma =>
                obtain ⟨s1, hp1, hs1, hA3, hM3⟩ := hcut
                have HA3 := Lib.hid hA3
                have HM3 := Lib.hid hM3
                have HP1 := Lib.hid hp1
                have HS1 := Lib.hid hs1
                have hl1 := hp1.length_eq
                rw [List.length_append] at hl1
                have HL1 : Hid (s1.length = mid - a) := by have := HN1.out; unfold Hid; omega
                clear hA3 hM3 hp1 hs1 hl1
                obtain ⟨w3, rfl⟩ : ∃ w3 : World, w3 = wc := ⟨_, rfl⟩
                have hsl := H.out.sl
                have hsr := H.out.sr
                have hin := H.out.inl
                have hir := H.out.inr
                have hcr := H.out.cross
                rw [HEL.out] at hsl hin hcr
                rw [HER.out] at hsr hir hcr
                have HSL := Lib.hid hsl
                have HSR := Lib.hid hsr
                go_upto_region 43 with fail
                by_cases q1 : mid < E
                · by_cases q2 : E < b
                  · have hn := HN1.out
                    have hr := HR.out
                    have hpre : SymPre g cap N G A c ws (p ++ s1) l2 r2 q w3 := by
                      refine ⟨by simpa using HA3.out, by have := HLN.out; have := HL1.out; simp at *; omega, by omega, by omega, (H.out.ks.mods HM3.out (fun h => HG.out h.symm) HAG.out), fun x hx => hin x (List.mem_append_right _ hx), fun x hx => hir x (List.mem_append_right _ hx), (List.pairwise_append.1 hsl).2.1, (List.pairwise_append.1 hsr).2.1, fun x hx y hy => hcr x (List.mem_append_right _ hx) y (List.mem_append_right _ hy)⟩
                    have HC := Lib.hid (HIH.out (p ++ s1) l2 r2 q mid E b w3 (by have := HF.out; omega) hpre (by have := HL1.out; simp; omega) (by omega) (by omega))
                    clear hn hr hpre hsl hsr hin hir hcr
                    unfold cmpV at HC
                    go_wp2_with fail
                    refine HC.out.mono ?_; rintro e w4 ⟨rfl, s2, hp2, hs2, hA4, hm4⟩
                    have HJ := Lib.hid (sym_join HSL.out HSR.out HF1.out HF2.out HP1.out hp2 HS1.out hs2)
                    have HA4 : Hid (Arr w4 g cap (p ++ (s1 ++ s2) ++ q)) := by unfold Hid; simpa using hA4
                    have HM4 := Lib.hid (HM3.out.trans hm4)
                    clear hA4 hm4 hp2 hs2
                    go_wp2
                    go_end0
                    exact ⟨rfl, s1 ++ s2, by rw [HEL.out, HER.out]; exact HJ.out.2, HJ.out.1, HA4.out, HM4.out⟩
                  · obtain rfl : r2 = [] := List.eq_nil_of_length_eq_zero (by have := HN1.out; omega)
                    have HJ := Lib.hid (sym_join (s2 := l2) HSL.out HSR.out HF1.out HF2.out HP1.out (by simp) HS1.out (List.pairwise_append.1 hsl).2.1)
                    have HA4 : Hid (Arr w3 g cap (p ++ (s1 ++ l2) ++ q)) := by unfold Hid; simpa using HA3.out
                    clear hsl hsr hin hir hcr
                    go_wp2
                    go_end0
                    exact ⟨rfl, s1 ++ l2, by rw [HEL.out, HER.out]; exact HJ.out.2, HJ.out.1, HA4.out, HM3.out⟩
                · obtain rfl : l2 = [] := List.eq_nil_of_length_eq_zero (by have := HN1.out; omega)
                  have HJ := Lib.hid (sym_join (s2 := r2) HSL.out HSR.out HF1.out HF2.out HP1.out (by simp) HS1.out (List.pairwise_append.1 hsr).2.1)
                  have HA4 : Hid (Arr w3 g cap (p ++ (s1 ++ r2) ++ q)) := by unfold Hid; simpa using HA3.out
                  clear hsl hsr hin hir hcr
                  go_wp2
                  go_end0
                  exact ⟨rfl, s1 ++ r2, by rw [HEL.out, HER.out]; exact HJ.out.2, HJ.out.1, HA4.out, HM3.out⟩
end Go.Proofs.Ytblhbbgkkijkfaa
