/- The sort of slices that Go's library lays: swapRange, rotate, walked. -/
import Derived.Test.YtblhbbgkkijkfaaB0
import Derived.RegionTactic
import Derived.ChangeAlike
namespace Go.Proofs.Ytblhbbgkkijkfaa
open Go.RowKit Go.Maps
/-- A slice's cells, at block g from its head on. -/
def Arr (w : World) (g cap : Nat) (xs : List Int) : Prop := w.ownsRow 0 3 1 (.slice (some ⟨g, 0, none⟩) xs.length cap) xs.length (ints xs)
theorem Arr.cell {w : World} {g cap : Nat} {xs : List Int} (h : Arr w g cap xs) (p : List Int) (x : Int) (q : List Int) (e : xs = p ++ x :: q) : w.cell? ⟨g, p.length, none⟩ = some (.int .i64 x) := by
  have := World.ownsRow.cellAt h p.length (by rw [e]; simp)
  rw [this, e]
  simp [ints]
theorem Arr.free {w : World} {g cap : Nat} {xs : List Int} (h : Arr w g cap xs) (k : Nat) : w.frozen? ⟨g, k, none⟩ = false := World.ownsRow.frozenAt h k
theorem Arr.set {w : World} {g cap : Nat} {xs : List Int} (h : Arr w g cap xs) (p : List Int) (x y : Int) (q : List Int) (e : xs = p ++ x :: q) : Arr (w.setCell ⟨g, p.length, none⟩ (.int .i64 y)) g cap (p ++ y :: q) := by
  have := (World.ownsRow.stored h p.length (.int .i64 y)).1
  subst e
  unfold Arr
  simpa [ints] using this
theorem Arr.len {w : World} {g cap : Nat} {xs : List Int} (h : Arr w g cap xs) : xs.length ≤ cap ∧ cap ≤ maxLen := by
  obtain ⟨A, c, hv, h1, h2, _⟩ := Rd.of_owns h
  injection hv with _ _ hc
  subst hc
  exact ⟨h1, h2⟩
set_option maxRecDepth 100000 in
set_option maxHeartbeats 1000000 in
theorem f155_calls (g cap N : Nat) (f : Value) (p u m v q : List Int) (a b n : Nat) (w : World) (hA : Arr w g cap (p ++ u ++ m ++ v ++ q)) (hN : (p ++ u ++ m ++ v ++ q).length = N)
    (ha : p.length = a) (hb : p.length + u.length + m.length = b) (hu : u.length = n) (hv : v.length = n) :
    Calls Try.prog 155 #[.slice (some ⟨g, 0, none⟩) N cap, .int .i64 a, .int .i64 b, .int .i64 n, f] w fun e w' => e = .returned (.tuple #[]) ∧ Arr w' g cap (p ++ v ++ m ++ u ++ q) ∧ Mods (fun j => j = g) w w' := by
  have hlen := hA.len
  rw [hN] at hlen
  have hcap : N ≤ 9223372036854775807 := Nat.le_trans hlen.1 hlen.2
  have hle : b + n ≤ N := by rw [← hN]; simp; omega
  have hle2 : a + n ≤ b := by omega
  have HA := Lib.hid hA
  have HN := Lib.hid hN
  obtain ⟨T, hT⟩ : ∃ T, T = p ++ v ++ m ++ u ++ q := ⟨_, rfl⟩
  have HT := Lib.hid hT
  rw [← hT]
  have H1 := Lib.hid ha
  have H2 := Lib.hid hb
  have H3 := Lib.hid hu
  have H4 := Lib.hid hv
  clear hA hN hT ha hb hu hv hlen
  go_enter Try.func155, Try.ntmps155
  go_wp2_with fail
  go_loopg [10] n (fun gk i wr => ∃ (k : Nat) (p u m v q : List Int), k ≤ n ∧ gk = n - k ∧ i = .int .i64 (k : Nat) ∧ Arr wr g cap (p ++ u ++ m ++ v ++ q) ∧ (p ++ u ++ m ++ v ++ q).length = N ∧ p.length = a + k ∧ p.length + u.length + m.length = b + k ∧ u.length = n - k ∧ v.length = n - k ∧ T = p ++ v ++ m ++ u ++ q ∧ Mods (fun j => j = g) w wr)
  case atStart => exact ⟨0, p, u, m, v, q, by omega, by omega, rfl, HA.out, HN.out, H1.out, H2.out, H3.out, H4.out, HT.out, Mods.refl _ _⟩
  case round =>
    obtain ⟨k, p, u, m, v, q, hk, rfl, rfl, hA, hN, ha, hb, hu, hv, hT, hM⟩ := hrel
    have HM := Lib.hid hM
    have HT := Lib.hid hT
    clear hM hT
    by_cases hlt : k < n
    · obtain ⟨x, u', rfl⟩ : ∃ x u', u = x :: u' := by cases u with | nil => simp at hu; omega | cons x u => exact ⟨x, u, rfl⟩
      obtain ⟨y, v', rfl⟩ : ∃ y v', v = y :: v' := by cases v with | nil => simp at hv; omega | cons x u => exact ⟨x, u, rfl⟩
      have c1 := hA.cell p x (u' ++ m ++ (y :: v') ++ q) (by simp)
      have c2 := hA.cell (p ++ x :: u' ++ m) y (v' ++ q) (by simp)
      have hb' : (p ++ x :: u' ++ m).length = b + k := by simp at hb ⊢; omega
      rw [ha] at c1
      rw [hb'] at c2
      have fz := hA.free
      have HAA := Lib.hid hA
      have e1 : IntKind.i64.wrap ((a : Int) + k) = a + k := IntWalk.i64_in _ (by omega)
      have hna : a + k ≠ b + k := by omega
      have HS : Hid (Arr ((wr.setCell ⟨g, a + k, none⟩ (.int .i64 y)).setCell ⟨g, b + k, none⟩ (.int .i64 x)) g cap ((p ++ [y]) ++ u' ++ (m ++ [x]) ++ v' ++ q)) := by
        have h1 := hA.set p x y (u' ++ m ++ (y :: v') ++ q) (by simp)
        have h2 := h1.set (p ++ y :: u' ++ m) y x (v' ++ q) (by simp)
        rw [ha, show (p ++ y :: u' ++ m).length = b + k by rw [← hb']; simp] at h2
        unfold Hid
        rw [show (p ++ [y]) ++ u' ++ (m ++ [x]) ++ v' ++ q = (p ++ y :: u' ++ m) ++ x :: (v' ++ q) by simp]
        exact h2
      have HK : Hid (k < n) := hlt
      have HLN : Hid (((p ++ [y]) ++ u' ++ (m ++ [x]) ++ v' ++ q).length = N ∧ (p ++ [y]).length = a + (k + 1) ∧ (p ++ [y]).length + u'.length + (m ++ [x]).length = b + (k + 1) ∧ u'.length = n - (k + 1) ∧ v'.length = n - (k + 1)) := by
        unfold Hid; simp at hN ha hb hu hv ⊢; omega
      have HTT : Hid (T = (p ++ [y]) ++ v' ++ (m ++ [x]) ++ u' ++ q) := by unfold Hid; rw [HT.out]; simp
      clear hA hN ha hb hu hv hb'
      go_upto_region 3 with fail
      go_region
      all_goals
        go_wp2_with fail
        go_roundg (n - (k + 1))
        case measure => have := HK.out; omega
        case rel => exact ⟨k + 1, _, _, _, _, _, HK.out, rfl, by go_num, HS.out, HLN.out.1, HLN.out.2.1, HLN.out.2.2.1, HLN.out.2.2.2.1, HLN.out.2.2.2.2, HTT.out, ((HM.out.setCell _ (fun _ => rfl) _).setCell _ (fun _ => rfl) _).drew⟩
    · obtain rfl : k = n := by omega
      obtain rfl : u = [] := List.eq_nil_of_length_eq_zero (by omega)
      obtain rfl : v = [] := List.eq_nil_of_length_eq_zero (by omega)
      have HAA := Lib.hid hA
      clear hA hN ha hb hu hv
      go_wp2
      go_end0
      exact ⟨rfl, by rw [HT.out]; exact HAA.out, HM.out⟩
theorem take_drop_len {l : List Int} {n k : Nat} (h : l.length = n) (hk : k ≤ n) : l = l.take k ++ l.drop k ∧ (l.take k).length = k ∧ (l.drop k).length = n - k := by
  refine ⟨(List.take_append_drop k l).symm, ?_, ?_⟩
  · rw [List.length_take]; omega
  · rw [List.length_drop]; omega
set_option maxRecDepth 100000 in
set_option maxHeartbeats 1000000 in
theorem f153_calls (g cap N : Nat) (f : Value) (p u v q : List Int) (a m b : Nat) (w : World) (hA : Arr w g cap (p ++ u ++ v ++ q)) (hN : (p ++ u ++ v ++ q).length = N)
    (ha : p.length = a) (hm : p.length + u.length = m) (hb : p.length + u.length + v.length = b) (hu : u ≠ []) (hv : v ≠ []) :
    Calls Try.prog 153 #[.slice (some ⟨g, 0, none⟩) N cap, .int .i64 a, .int .i64 m, .int .i64 b, f] w fun e w' => e = .returned (.tuple #[]) ∧ Arr w' g cap (p ++ v ++ u ++ q) ∧ Mods (fun j => j = g) w w' := by
  have hlen := hA.len
  rw [hN] at hlen
  have hcap : N ≤ 9223372036854775807 := Nat.le_trans hlen.1 hlen.2
  have hu0 := List.length_pos_iff.2 hu
  have hv0 := List.length_pos_iff.2 hv
  have hle : b ≤ N := by rw [← hN]; simp; omega
  have hle1 : a < m := by omega
  have hle2 : m < b := by omega
  have HA := Lib.hid hA
  have HN := Lib.hid hN
  obtain ⟨T, hT⟩ : ∃ T, T = p ++ v ++ u ++ q := ⟨_, rfl⟩
  have HT := Lib.hid hT
  rw [← hT]
  have H0 : Hid (p.length = m - (m - a) ∧ u.length = m - a ∧ v.length = b - m) := by unfold Hid; omega
  clear hA hN hT ha hm hb hu hv hlen hu0 hv0
  go_enter Try.func153, Try.ntmps153
  go_wp2_with fail
  go_loopg [10, 11] (b - a) (fun gk iv jv wr => ∃ (i j : Nat) (p u v q : List Int), 0 < i ∧ 0 < j ∧ i ≤ m - a ∧ j ≤ b - m ∧ gk = i + j ∧ iv = .int .i64 (i : Nat) ∧ jv = .int .i64 (j : Nat) ∧ Arr wr g cap (p ++ u ++ v ++ q) ∧ (p ++ u ++ v ++ q).length = N ∧ p.length = m - i ∧ u.length = i ∧ v.length = j ∧ T = p ++ v ++ u ++ q ∧ Mods (fun j => j = g) w wr)
  case atStart => exact ⟨m - a, b - m, p, u, v, q, by omega, by omega, by omega, by omega, by omega, by go_num, by go_num, HA.out, HN.out, H0.out.1, H0.out.2.1, H0.out.2.2, HT.out, Mods.refl _ _⟩
  case round =>
    obtain ⟨i, j, p, u, v, q, hi0, hj0, him, hjb, rfl, rfl, rfl, hA, hN, hp, hu, hv, hT, hM⟩ := hrel
    have HM := Lib.hid hM
    have HT := Lib.hid hT
    have HA := Lib.hid hA
    clear hM hT hA
    rcases Nat.lt_trichotomy i j with hij | hij | hij
    · obtain ⟨e, h1, h2⟩ := take_drop_len (k := j - i) hv (by omega)
      generalize v.take (j - i) = v1 at e h1
      generalize v.drop (j - i) = v2 at e h2
      subst e
      have HC := fun (wx : World) (h : Arr wx g cap (p ++ u ++ (v1 ++ v2) ++ q)) => f155_calls g cap N f p u v1 v2 q (m - i) (m + j - i) i wx (by simpa [List.append_assoc] using h) (by simpa [List.append_assoc] using hN) hp (by omega) hu (by omega)
      have HC := Lib.hid HC
      have HN2 : Hid ((p ++ v2 ++ v1 ++ (u ++ q)).length = N ∧ v2.length = i ∧ v1.length = j - i) := by unfold Hid; simp at hN ⊢; omega
      have HTT : Hid (T = p ++ v1 ++ v2 ++ (u ++ q)) := by unfold Hid; rw [HT.out]; simp
      have HP := Lib.hid hp
      have hne : (((i : Nat) : Int) != ((j : Nat) : Int)) = true := by simp; omega
      have e1 : ((m : Int) - i) = ((m - i : Nat) : Int) := by omega
      have e2 : ((m : Int) + j - i) = ((m + j - i : Nat) : Int) := by omega
      have HE1 := Lib.hid e1
      have HE2 := Lib.hid e2
      have hji : (i : Int) < j := by omega
      clear hN hp hu hv h1 h2 e1 e2
      go_wp2_with fail
      rw [HE1.out, HE2.out]
      refine (HC.out _ HA.out).mono ?_; rintro e w1 ⟨rfl, hA1, hm1⟩
      have HA1 : Hid (Arr w1 g cap (p ++ v2 ++ v1 ++ (u ++ q))) := by unfold Hid; simpa [List.append_assoc] using hA1
      have HM1 := Lib.hid (HM.out.trans hm1)
      clear hA1 hm1
      go_wp2_with fail
      go_roundg j
      case measure => omega
      case rel => exact ⟨i, j - i, p, v2, v1, u ++ q, hi0, by omega, him, by omega, by omega, rfl, val_int (by omega), HA1.out, HN2.out.1, HP.out, HN2.out.2.1, HN2.out.2.2, HTT.out, HM1.out⟩
    · subst hij
      have HC := fun (wx : World) (h : Arr wx g cap (p ++ u ++ v ++ q)) => f155_calls g cap N f p u [] v q (m - i) m i wx (by simpa using h) (by simpa using hN) hp (by simp; omega) hu hv
      have HC := Lib.hid HC
      have hne : (((i : Nat) : Int) != ((i : Nat) : Int)) = false := by simp
      have e1 : ((m : Int) - i) = ((m - i : Nat) : Int) := by omega
      have HE1 := Lib.hid e1
      clear hN hp hu hv e1
      go_wp2_with fail
      rw [HE1.out]
      refine (HC.out _ HA.out).mono ?_; rintro e w1 ⟨rfl, hA1, hm1⟩
      have HA1 : Hid (Arr w1 g cap T) := by unfold Hid; rw [HT.out]; simpa using hA1
      have HM1 := Lib.hid (HM.out.trans hm1)
      clear hA1 hm1
      go_wp2
      go_end0
      exact ⟨rfl, HA1.out, HM1.out⟩
    · obtain ⟨e, h1, h2⟩ := take_drop_len (k := j) hu (by omega)
      generalize u.take j = u1 at e h1
      generalize u.drop j = u2 at e h2
      subst e
      have HC := fun (wx : World) (h : Arr wx g cap (p ++ (u1 ++ u2) ++ v ++ q)) => f155_calls g cap N f p u1 u2 v q (m - i) m j wx (by simpa [List.append_assoc] using h) (by simpa [List.append_assoc] using hN) hp (by omega) h1 hv
      have HC := Lib.hid HC
      have HN2 : Hid ((p ++ v ++ u2 ++ u1 ++ q).length = N ∧ (p ++ v).length = m - (i - j) ∧ u2.length = i - j ∧ u1.length = j) := by unfold Hid; simp at hN ⊢; omega
      have HTT : Hid (T = p ++ v ++ u1 ++ u2 ++ q) := by unfold Hid; rw [HT.out]; simp
      have hne : (((i : Nat) : Int) != ((j : Nat) : Int)) = true := by simp; omega
      have e1 : ((m : Int) - i) = ((m - i : Nat) : Int) := by omega
      have HE1 := Lib.hid e1
      have hji : (j : Int) < i := by omega
      clear hN hp hu hv h1 h2 e1
      go_wp2_with fail
      rw [HE1.out]
      refine (HC.out _ HA.out).mono ?_; rintro e w1 ⟨rfl, hA1, hm1⟩
      have HA1 := Lib.hid hA1
      have HM1 := Lib.hid (HM.out.trans hm1)
      clear hA1 hm1
      go_wp2_with fail
      go_roundg i
      case measure => omega
      case rel => exact ⟨i - j, j, p ++ v, u2, u1, q, by omega, hj0, by omega, hjb, by omega, val_int (by omega), rfl, HA1.out, HN2.out.1, HN2.out.2.1, HN2.out.2.2.1, HN2.out.2.2.2, HTT.out, HM1.out⟩
end Go.Proofs.Ytblhbbgkkijkfaa
