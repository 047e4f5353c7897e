/- symMerge where the right side has one element, walked. -/
import Derived.Test.YtblhbbgkkijkfaaT3
namespace Go.Proofs.Ytblhbbgkkijkfaa
open Go.RowKit Go.Maps
theorem cells_last {w : World} {g cap a m : Nat} {p l q : List Int} {x0 : Int} (hA : Arr w g cap (p ++ l ++ [x0] ++ q)) (ha : p.length = a) (hm : a + l.length = m) :
    w.cell? ⟨g, m, none⟩ = some (.int .i64 x0) ∧ ∀ h, a ≤ h → h < m → w.cell? ⟨g, h, none⟩ = some (.int .i64 (l.getD (h - a) 0)) := by
  constructor
  · have := hA.cell (p ++ l) x0 q (by simp); rwa [List.length_append, ha, hm] at this
  · intro h h1 h2
    have hl : h < (p ++ l ++ [x0] ++ q).length := by simp; omega
    rw [hA.at h hl, List.append_assoc, List.append_assoc, getD_right (by omega), ha, getD_left (by omega)]
set_option maxRecDepth 100000 in
set_option maxHeartbeats 4000000 in
theorem f150_last (g cap N G : Nat) (A : Option Addr) (c : Nat) (ws p l q : List Int) (x0 : Int) (a m b : Nat) (w : World) (hA : Arr w g cap (p ++ l ++ [x0] ++ q)) (hN : (p ++ l ++ [x0] ++ q).length = N)
    (ha : p.length = a) (hm : a + l.length = m) (hb : m + 1 = b) (h2l : a + 1 < m) (hK : KS w G A c ws) (hin0 : 0 ≤ x0 ∧ x0 < ws.length) (hin : InR ws l) (hs : l.Pairwise (Rl ws)) (hx : ∀ y ∈ l, y < x0) (hcap : N ≤ 1000000) :
    Calls Try.prog 150 #[.slice (some ⟨g, 0, none⟩) N cap, .int .i64 a, .int .i64 m, .int .i64 b, cmpV G] w (SymPost ws g cap p l [x0] q w) := by
  have hbN : b ≤ N := by rw [← hN]; simp; omega
  have hmb : m < b := by omega
  have hq1 : (((m : Int) - (a : Int)) == 1) = false := by simp; omega
  have hq2 : (((b : Int) - (m : Int)) == 1) = true := by simp; omega
  have HA := Lib.hid hA
  have HK := Lib.hid hK
  have HIN := Lib.hid hin
  have HSS := Lib.hid hs
  have HX := Lib.hid hx
  have HR : Hid (l.length = m - a ∧ p.length = a ∧ a + l.length = m) := by unfold Hid; omega
  clear hA hK hin hs hx hm hb ha hN
  unfold cmpV
  go_enter Try.func150, Try.ntmps150
  go_wp2_with fail
  go_loopw [14, 15] (fun i j wr => ∃ s t : Nat, a ≤ s ∧ s ≤ t ∧ t ≤ m ∧ i = .int .i64 (s : Nat) ∧ j = .int .i64 (t : Nat) ∧ (∀ k, k < s - a → ¬ kw ws x0 < kw ws (l.getD k 0)) ∧ (∀ k, t - a ≤ k → k < l.length → kw ws x0 < kw ws (l.getD k 0)) ∧ Mods Nope w wr) (fun i j _ => (intOf j - intOf i).toNat)
  case atStart => exact ⟨a, m, by omega, by omega, by omega, rfl, rfl, fun k hk => by omega, fun k h1 h2 => by have := HR.out; omega, Mods.refl _ _⟩
  case round =>
    obtain ⟨s, t, hms, hst, htb, rfl, rfl, h1, h2, hM⟩ := hrel
    have H1 := Lib.hid h1
    have H2 := Lib.hid h2
    have HM := Lib.hid hM
    have HA1 := Lib.hid (HA.out.nope hM)
    have HK1 := Lib.hid (HK.out.nope hM)
    clear h1 h2 hM
    by_cases hlt : s < t
    · obtain ⟨h, hh⟩ : ∃ h, h = (s + t) / 2 := ⟨_, rfl⟩
      have HE : Hid (((s : Int) + (t : Int)) / 2 = (h : Nat)) := by unfold Hid; omega
      have hs1 : s ≤ h := by omega
      have hs2 : h < t := by omega
      have hr := HR.out
      obtain ⟨c0, cc⟩ := cells_last HA1.out hr.2.1 hr.2.2
      have ch := cc h (by omega) (by omega)
      have hy := HIN.out.at (i := h - a) (by omega)
      have HL : Hid (∀ k, k ≤ h - a → kw ws (l.getD k 0) ≤ kw ws (l.getD (h - a) 0)) := fun k hk => Rl.mono HSS.out hk (by omega)
      have HL2 : Hid (∀ k, h - a ≤ k → k < l.length → kw ws (l.getD (h - a) 0) ≤ kw ws (l.getD k 0)) := fun k hk hkl => Rl.mono HSS.out hk hkl
      have hhN : (h : Int) < (N : Int) := by omega
      have haN : (m : Int) < (N : Int) := by omega
      clear hh hr cc
      generalize hy0 : l.getD (h - a) 0 = y at *
      clear hy0
      have r1 := kw_range HK.out.range x0
      have r2 := kw_range HK.out.range y
      have HQ := Lib.hid (fun n => HK1.out.drewN n)
      by_cases hkk : kw ws x0 < kw ws y
      · have hd : decide (kw ws x0 - kw ws y < 0) = true := by simp; omega
        have H2' : Hid (∀ k, h - a ≤ k → k < l.length → kw ws x0 < kw ws (l.getD k 0)) := fun k hk hkl => by have := HL2.out k hk hkl; omega
        go_upto_region 17 with fail
        rw [HE.out]
        go_quiet ((go_at_call 105; exact Calls.quiet_of (f105_calls G A c ws x0 y _ (HQ.out _) hin0 hy)))
        go_wp2_with fail
        go_roundw
        case rel => exact ⟨s, h, hms, hs1, by omega, rfl, rfl, H1.out, H2'.out, HM.out.drewN _⟩
        case measure => simp [intOf]; omega
      · have hd : decide (kw ws x0 - kw ws y < 0) = false := by simp; omega
        have H1' : Hid (∀ k, k < h + 1 - a → ¬ kw ws x0 < kw ws (l.getD k 0)) := fun k hk => by have := HL.out k (by omega); omega
        go_upto_region 17 with fail
        rw [HE.out]
        go_quiet ((go_at_call 105; exact Calls.quiet_of (f105_calls G A c ws x0 y _ (HQ.out _) hin0 hy)))
        go_wp2_with fail
        go_roundw
        case rel => exact ⟨h + 1, t, by omega, by omega, htb, by go_num, rfl, H1'.out, H2.out, HM.out.drewN _⟩
        case measure => simp [intOf]; omega
    · obtain rfl : s = t := by omega
      obtain ⟨l1, l2, hl12, hl1, hsort, hperm⟩ := last_split (k := s - a) HSS.out HX.out (by have := HR.out; omega) H1.out H2.out
      have HSO := Lib.hid hsort
      have HPE := Lib.hid hperm
      have hsa : s + l2.length = m := by have h := congrArg List.length hl12; rw [List.length_append] at h; have := HR.out; omega
      have HA2 : Hid (Arr wr g cap (p ++ l1 ++ l2 ++ x0 :: [] ++ q)) := by
        unfold Hid
        have := HA1.out
        rw [hl12] at this
        simpa using this
      have HPL : Hid ((p ++ l1).length = s) := by unfold Hid; rw [List.length_append, HR.out.2.1]; omega
      have HSA := Lib.hid hsa
      clear hl12 hsort hperm hl1 hsa
      obtain ⟨wo, rfl⟩ : ∃ wo : World, wo = wr := ⟨_, rfl⟩
      go_wp2_with fail
      go_loopg [17] (m - s) (fun gk i wr => ∃ (k : Nat) (d1 d2 : List Int), s ≤ k ∧ k ≤ m ∧ gk = k - s ∧ i = .int .i64 (k : Nat) ∧ l2 = d1 ++ d2 ∧ s + d1.length = k ∧ Arr wr g cap (p ++ l1 ++ d1 ++ x0 :: d2 ++ q) ∧ Mods (fun j => j = g) w wr)
      case atStart => exact ⟨m, l2, [], by omega, by omega, rfl, rfl, by simp, HSA.out, HA2.out, HM.out.any _⟩
      case round =>
        obtain ⟨k, d1, d2, hak, hks, rfl, rfl, hd, hk1, hA, hM⟩ := hrel
        have HM2 := Lib.hid hM
        have HAA := Lib.hid hA
        by_cases hlt2 : s < k
        · obtain ⟨d1', y, rfl⟩ : ∃ d1' y, d1 = d1' ++ [y] := by
            have hne : d1 ≠ [] := by rintro rfl; simp at hk1; omega
            exact ⟨d1.dropLast, d1.getLast hne, (List.dropLast_concat_getLast hne).symm⟩
          have hj1 : (p ++ l1 ++ d1').length = k - 1 := by rw [List.length_append, HPL.out]; rw [List.length_append, List.length_singleton] at hk1; omega
          have c1 : wr.cell? ⟨g, k, none⟩ = some (.int .i64 x0) := by
            have := hA.cell (p ++ l1 ++ (d1' ++ [y])) x0 (d2 ++ q) (by simp)
            rwa [show (p ++ l1 ++ (d1' ++ [y])).length = k by rw [List.length_append, HPL.out]; exact hk1] at this
          have c2 : wr.cell? ⟨g, k - 1, none⟩ = some (.int .i64 y) := by
            have := hA.cell (p ++ l1 ++ d1') y (x0 :: d2 ++ q) (by simp)
            rwa [hj1] at this
          have HSW : Hid (∀ n, Arr (((wr.drewN n).setCell ⟨g, k, none⟩ (.int .i64 y)).setCell ⟨g, k - 1, none⟩ (.int .i64 x0)) g cap (p ++ l1 ++ d1' ++ x0 :: (y :: d2) ++ q)) := by
            intro n
            have h := Arr.swap (p := p ++ l1 ++ d1') (q := d2 ++ q) (y := y) (x := x0) (w := wr.drewN n) (g := g) (cap := cap) (Arr.drewN (by simpa using hA) n)
            rw [hj1, show k - 1 + 1 = k by omega] at h
            simpa using h
          have HD : Hid (l2 = d1' ++ (y :: d2)) := by unfold Hid; rw [hd]; simp
          have HK1' : Hid (s + d1'.length = k - 1) := by unfold Hid; rw [List.length_append, List.length_singleton] at hk1; omega
          have fz := hA.free
          have hkN : (k : Int) < (N : Int) := by omega
          have hki : (s : Int) < (k : Int) := by omega
          have hne1 : k - 1 ≠ k := by omega
          have hg0 : (0 : Int) ≤ (k : Int) - 1 := by omega
          have hg1 : (k : Int) - 1 < (N : Int) := by omega
          clear hM hA hd hk1 hj1
          go_upto_region 23 with fail
          go_region
          all_goals
            go_wp2_with fail
            go_roundg (k - 1 - s)
            case measure => omega
            case rel => exact ⟨k - 1, d1', y :: d2, by omega, by omega, rfl, val_int (by omega), HD.out, HK1'.out, HSW.out 0, ((HM2.out.setCell _ (fun _ => rfl) _).setCell _ (fun _ => rfl) _).drew⟩
        · obtain rfl : d1 = [] := List.eq_nil_of_length_eq_zero (by omega)
          have HD : Hid (l2 = d2) := by unfold Hid; rw [hd]; simp
          have HF : Hid (Arr wr g cap (p ++ (l1 ++ x0 :: l2) ++ q)) := by
            unfold Hid
            rw [HD.out]
            simpa using hA
          clear hM hA hd hk1
          go_wp2
          go_end0
          exact ⟨rfl, _, HPE.out, HSO.out, HF.out, HM2.out⟩
end Go.Proofs.Ytblhbbgkkijkfaa
