/- symMerge where one side has one element, walked. -/
import Derived.Test.YtblhbbgkkijkfaaTP
namespace Go.Proofs.Ytblhbbgkkijkfaa
open Go.RowKit Go.Maps
def SymPost (ws : List Int) (g cap : Nat) (p l r q : List Int) (w : World) (e : Ending) (w' : World) : Prop :=
  e = .returned (.tuple #[]) ∧ ∃ s, s.Perm (l ++ r) ∧ s.Pairwise (Rl ws) ∧ Arr w' g cap (p ++ s ++ q) ∧ Mods (fun j => j = g) w w'
theorem Arr.at {w : World} {g cap : Nat} {xs : List Int} (h : Arr w g cap xs) (k : Nat) (hk : k < xs.length) : w.cell? ⟨g, k, none⟩ = some (.int .i64 (xs.getD k 0)) := by
  rw [World.ownsRow.cellAt h k (by omega)]
  simp [ints, List.getD_eq_getElem?_getD, hk]
theorem getD_left {l r : List Int} {i : Nat} (h : i < l.length) : (l ++ r).getD i 0 = l.getD i 0 := by
  simp [List.getD_eq_getElem?_getD, List.getElem?_append_left h]
theorem getD_right {l r : List Int} {i : Nat} (h : l.length ≤ i) : (l ++ r).getD i 0 = r.getD (i - l.length) 0 := by
  simp [List.getD_eq_getElem?_getD, List.getElem?_append_right h]
theorem InR.at {ws l : List Int} (h : InR ws l) {i : Nat} (hi : i < l.length) : 0 ≤ l.getD i 0 ∧ l.getD i 0 < ws.length := h _ (getD_mem' hi)
theorem Arr.swapUp {w : World} {g cap : Nat} {p q : List Int} {y x : Int} (h : Arr w g cap (p ++ y :: x :: q)) : Arr ((w.setCell ⟨g, p.length, none⟩ (.int .i64 x)).setCell ⟨g, p.length + 1, none⟩ (.int .i64 y)) g cap (p ++ x :: y :: q) := by
  have h1 := h.set p y x (x :: q) (by simp)
  have h2 := h1.set (p ++ [x]) x y q (by simp)
  rw [show (p ++ [x]).length = p.length + 1 by simp] at h2
  simpa using h2
theorem cells_one {w : World} {g cap a m : Nat} {p r q : List Int} {x0 : Int} (hA : Arr w g cap (p ++ [x0] ++ r ++ q)) (ha : p.length = a) (hm : a + 1 = m) :
    w.cell? ⟨g, a, none⟩ = some (.int .i64 x0) ∧ ∀ h, m ≤ h → h < m + r.length → w.cell? ⟨g, h, none⟩ = some (.int .i64 (r.getD (h - m) 0)) := by
  constructor
  · have := hA.cell p x0 (r ++ q) (by simp); rwa [ha] at this
  · intro h h1 h2
    have hl : h < (p ++ [x0] ++ r ++ q).length := by simp; omega
    rw [hA.at h hl, List.append_assoc, getD_right (by simp; omega), show h - (p ++ [x0]).length = h - m by simp; omega, getD_left (by omega)]
theorem Arr.nope {w w' : World} {g cap : Nat} {xs : List Int} (h : Arr w g cap xs) (hm : Mods Nope w w') : Arr w' g cap xs := hm.owns h (fun _ _ h => h)
theorem KS.nope {w w' : World} {G : Nat} {A : Option Addr} {c : Nat} {ws : List Int} (h : KS w G A c ws) (hm : Mods Nope w w') : KS w' G A c ws := h.mods hm (fun h => h) (fun _ _ h => h)
set_option maxRecDepth 100000 in
set_option maxHeartbeats 4000000 in
theorem f150_one (g cap N G : Nat) (A : Option Addr) (c : Nat) (ws p r q : List Int) (x0 : Int) (a m b : Nat) (w : World) (hA : Arr w g cap (p ++ [x0] ++ r ++ q)) (hN : (p ++ [x0] ++ r ++ q).length = N)
    (ha : p.length = a) (hm : a + 1 = m) (hb : m + r.length = b) (hK : KS w G A c ws) (hin0 : 0 ≤ x0 ∧ x0 < ws.length) (hin : InR ws r) (hs : r.Pairwise (Rl ws)) (hx : ∀ y ∈ r, x0 < y) (hcap : N ≤ 1000000) :
    Calls Try.prog 150 #[.slice (some ⟨g, 0, none⟩) N cap, .int .i64 a, .int .i64 m, .int .i64 b, cmpV G] w (SymPost ws g cap p [x0] r q w) := by
  have hbN : b ≤ N := by rw [← hN]; simp; omega
  have hab : a < m := by omega
  have hmb : m ≤ b := by omega
  have hq1 : (((m : Int) - (a : Int)) == 1) = true := by simp; omega
  have HA := Lib.hid hA
  have HK := Lib.hid hK
  have HIN := Lib.hid hin
  have HSS := Lib.hid hs
  have HX := Lib.hid hx
  have HR : Hid (r.length = b - m ∧ p.length = a ∧ m = a + 1) := by unfold Hid; omega
  clear hA hK hin hs hx hm hb ha hN
  unfold cmpV
  go_enter Try.func150, Try.ntmps150
  go_wp2_with fail
  go_loopw [10, 11] (fun i j wr => ∃ s t : Nat, m ≤ s ∧ s ≤ t ∧ t ≤ b ∧ i = .int .i64 (s : Nat) ∧ j = .int .i64 (t : Nat) ∧ (∀ k, k < s - m → kw ws (r.getD k 0) < kw ws x0) ∧ (∀ k, t - m ≤ k → k < r.length → ¬ kw ws (r.getD k 0) < kw ws x0) ∧ Mods Nope w wr) (fun i j _ => (intOf j - intOf i).toNat)
  case atStart => exact ⟨m, b, by omega, hmb, by omega, rfl, rfl, fun k hk => by omega, fun k h1 h2 => by have := HR.out; omega, Mods.refl _ _⟩
  case round =>
    obtain ⟨s, t, hms, hst, htb, rfl, rfl, h1, h2, hM⟩ := hrel
    have H1 := Lib.hid h1
    have H2 := Lib.hid h2
    have HM := Lib.hid hM
    have HA1 := Lib.hid (HA.out.nope hM)
    have HK1 := Lib.hid (HK.out.nope hM)
    clear h1 h2 hM
    by_cases hlt : s < t
    · obtain ⟨h, hh⟩ : ∃ h, h = (s + t) / 2 := ⟨_, rfl⟩
      have HE : Hid (((s : Int) + (t : Int)) / 2 = (h : Nat)) := by unfold Hid; omega
      have hs1 : s ≤ h := by omega
      have hs2 : h < t := by omega
      have hr := HR.out
      obtain ⟨c0, cc⟩ := cells_one HA1.out hr.2.1 hr.2.2.symm
      have ch := cc h (by omega) (by omega)
      have hy := HIN.out.at (i := h - m) (by omega)
      have HL : Hid (∀ k, k ≤ h - m → kw ws (r.getD k 0) ≤ kw ws (r.getD (h - m) 0)) := fun k hk => Rl.mono HSS.out hk (by omega)
      have HL2 : Hid (∀ k, h - m ≤ k → k < r.length → kw ws (r.getD (h - m) 0) ≤ kw ws (r.getD k 0)) := fun k hk hkl => Rl.mono HSS.out hk hkl
      have hhN : (h : Int) < (N : Int) := by omega
      have haN : (a : Int) < (N : Int) := by omega
      clear hh hr cc
      generalize hy0 : r.getD (h - m) 0 = y at *
      clear hy0
      have r1 := kw_range HK.out.range x0
      have r2 := kw_range HK.out.range y
      have HQ := Lib.hid (fun n => HK1.out.drewN n)
      by_cases hkk : kw ws y < kw ws x0
      · have H1' : Hid (∀ k, k < h + 1 - m → kw ws (r.getD k 0) < kw ws x0) := fun k hk => by have := HL.out k (by omega); omega
        go_upto_region 5 with fail
        rw [HE.out]
        go_quiet ((go_at_call 105; exact Calls.quiet_of (f105_calls G A c ws y x0 _ (HQ.out _) hy hin0)))
        go_wp2_with fail
        go_roundw
        case rel => exact ⟨h + 1, t, by omega, by omega, htb, by go_num, rfl, H1'.out, H2.out, HM.out.drewN _⟩
        case measure => simp [intOf]; omega
      · have H2' : Hid (∀ k, h - m ≤ k → k < r.length → ¬ kw ws (r.getD k 0) < kw ws x0) := fun k hk hkl => by have := HL2.out k hk hkl; omega
        go_upto_region 5 with fail
        rw [HE.out]
        go_quiet ((go_at_call 105; exact Calls.quiet_of (f105_calls G A c ws y x0 _ (HQ.out _) hy hin0)))
        go_wp2_with fail
        go_roundw
        case rel => exact ⟨s, h, hms, hs1, by omega, rfl, rfl, H1.out, H2'.out, HM.out.drewN _⟩
        case measure => simp [intOf]; omega
    · obtain rfl : s = t := by omega
      obtain ⟨r1, r2, hr12, hr1, hsort, hperm⟩ := one_split (k := s - m) HSS.out HX.out (by have := HR.out; omega) H1.out H2.out
      have HSO := Lib.hid hsort
      have HPE := Lib.hid hperm
      have hsa : r1.length + a + 1 = s := by have := HR.out; omega
      have HA2 : Hid (Arr wr g cap (p ++ [] ++ x0 :: r1 ++ (r2 ++ q))) := by
        unfold Hid
        have := HA1.out
        rw [hr12] at this
        simpa using this
      have HSA := Lib.hid hsa
      have hsN : s ≤ N := by omega
      have has : a + 1 ≤ s := by omega
      clear hr12 hsort hperm hr1 hsa
      obtain ⟨wo, rfl⟩ : ∃ wo : World, wo = wr := ⟨_, rfl⟩
      go_wp2_with fail
      go_loopg [13] (s - 1 - a) (fun gk i wr => ∃ (k : Nat) (d1 d2 : List Int), a ≤ k ∧ k ≤ s - 1 ∧ gk = s - 1 - k ∧ i = .int .i64 (k : Nat) ∧ r1 = d1 ++ d2 ∧ a + d1.length = k ∧ Arr wr g cap (p ++ d1 ++ x0 :: d2 ++ (r2 ++ q)) ∧ Mods (fun j => j = g) w wr)
      case atStart => exact ⟨a, [], r1, by omega, by omega, rfl, rfl, rfl, rfl, HA2.out, HM.out.any _⟩
      case round =>
        obtain ⟨k, d1, d2, hak, hks, rfl, rfl, hd, hk1, hA, hM⟩ := hrel
        have HM2 := Lib.hid hM
        have HAA := Lib.hid hA
        have hl := congrArg List.length hd
        rw [List.length_append] at hl
        by_cases hlt2 : k < s - 1
        · obtain ⟨y, d2', rfl⟩ : ∃ y d2', d2 = y :: d2' := by
            cases d2 with
            | nil => have := HSA.out; simp at hl; omega
            | cons y d => exact ⟨y, d, rfl⟩
          have hpk : (p ++ d1).length = k := by rw [List.length_append, HR.out.2.1]; exact hk1
          have c1 : wr.cell? ⟨g, k, none⟩ = some (.int .i64 x0) := by
            have := hA.cell (p ++ d1) x0 (y :: d2' ++ (r2 ++ q)) (by simp)
            rwa [hpk] at this
          have c2 : wr.cell? ⟨g, k + 1, none⟩ = some (.int .i64 y) := by
            have := hA.cell (p ++ d1 ++ [x0]) y (d2' ++ (r2 ++ q)) (by simp)
            rwa [show (p ++ d1 ++ [x0]).length = k + 1 by rw [List.length_append, hpk]; rfl] at this
          have HSW : Hid (∀ n, Arr (((wr.drewN n).setCell ⟨g, k, none⟩ (.int .i64 y)).setCell ⟨g, k + 1, none⟩ (.int .i64 x0)) g cap (p ++ (d1 ++ [y]) ++ x0 :: d2' ++ (r2 ++ q))) := by
            intro n
            have h := Arr.swapUp (p := p ++ d1) (q := d2' ++ (r2 ++ q)) (y := x0) (x := y) (w := wr.drewN n) (g := g) (cap := cap) (Arr.drewN (by simpa using hA) n)
            rw [hpk] at h
            simpa using h
          have HD : Hid (r1 = (d1 ++ [y]) ++ d2') := by unfold Hid; rw [hd]; simp
          have HK1' := Lib.hid hk1
          have fz := hA.free
          have hkN : (k : Int) + 1 < (N : Int) := by omega
          have hki : (k : Int) < (s : Int) - 1 := by omega
          clear hM hA hl hd hk1 hpk
          go_upto_region 11 with fail
          go_region
          all_goals
            go_wp2_with fail
            go_roundg (s - 1 - (k + 1))
            case measure => omega
            case rel => exact ⟨k + 1, d1 ++ [y], d2', by omega, by omega, rfl, by go_num, HD.out, by rw [List.length_append, ← Nat.add_assoc, HK1'.out]; rfl, HSW.out 0, ((HM2.out.setCell _ (fun _ => rfl) _).setCell _ (fun _ => rfl) _).drew⟩
        · obtain rfl : d2 = [] := List.eq_nil_of_length_eq_zero (by have := HSA.out; omega)
          have HD : Hid (r1 = d1) := by unfold Hid; rw [hd]; simp
          have HF : Hid (Arr wr g cap (p ++ (r1 ++ x0 :: r2) ++ q)) := by
            unfold Hid
            rw [HD.out]
            simpa using hA
          have hki : ¬ (k : Int) < (s : Int) - 1 := by omega
          clear hM hA hl hd hk1
          go_wp2
          go_end0
          exact ⟨rfl, _, HPE.out, HSO.out, HF.out, HM2.out⟩
end Go.Proofs.Ytblhbbgkkijkfaa
