/- The sort of slices that Go's library lays: swapRange, rotate, walked. The order that a table's blocks have; its comparison, and insertion, walked. Plain words: where two sorted lists part in the middle of what they make. symMerge where one side has one element, walked. symMerge where the right side has one element, walked. symMerge, walked. symMerge at whatever lengths. The stable sort, walked. -/
import Derived.Test.YtblhbbgkkijkfaaB0
import Derived.RegionTactic
import Derived.ChangeAlike
namespace Go.Proofs.Ytblhbbgkkijkfaa
open Go.RowKit Go.Maps
/-- A slice's cells, at block g from its head on. -/
def Arr (w : World) (g cap : Nat) (xs : List Int) : Prop := w.ownsRow 0 3 1 (.slice (some ⟨g, 0, none⟩) xs.length cap) xs.length (ints xs)
theorem Arr.cell {w : World} {g cap : Nat} {xs : List Int} (h : Arr w g cap xs) (p : List Int) (x : Int) (q : List Int) (e : xs = p ++ x :: q) : w.cell? ⟨g, p.length, none⟩ = some (.int .i64 x) := by
  have := World.ownsRow.cellAt h p.length (by rw [e]; simp)
  rw [this, e]
  simp [ints]
theorem Arr.free {w : World} {g cap : Nat} {xs : List Int} (h : Arr w g cap xs) (k : Nat) : w.frozen? ⟨g, k, none⟩ = false := World.ownsRow.frozenAt h k
theorem Arr.set {w : World} {g cap : Nat} {xs : List Int} (h : Arr w g cap xs) (p : List Int) (x y : Int) (q : List Int) (e : xs = p ++ x :: q) : Arr (w.setCell ⟨g, p.length, none⟩ (.int .i64 y)) g cap (p ++ y :: q) := by
  have := (World.ownsRow.stored h p.length (.int .i64 y)).1
  subst e
  unfold Arr
  simpa [ints] using this
theorem Arr.len {w : World} {g cap : Nat} {xs : List Int} (h : Arr w g cap xs) : xs.length ≤ cap ∧ cap ≤ maxLen := by
  obtain ⟨A, c, hv, h1, h2, _⟩ := Rd.of_owns h
  injection hv with _ _ hc
  subst hc
  exact ⟨h1, h2⟩
set_option maxRecDepth 100000 in
set_option maxHeartbeats 1000000 in
theorem f155_calls (g cap N : Nat) (f : Value) (p u m v q : List Int) (a b n : Nat) (w : World) (hA : Arr w g cap (p ++ u ++ m ++ v ++ q)) (hN : (p ++ u ++ m ++ v ++ q).length = N)
    (ha : p.length = a) (hb : p.length + u.length + m.length = b) (hu : u.length = n) (hv : v.length = n) :
    Calls Try.prog 155 #[.slice (some ⟨g, 0, none⟩) N cap, .int .i64 a, .int .i64 b, .int .i64 n, f] w fun e w' => e = .returned (.tuple #[]) ∧ Arr w' g cap (p ++ v ++ m ++ u ++ q) ∧ Mods (fun j => j = g) w w' := by
  have hlen := hA.len
  rw [hN] at hlen
  have hcap : N ≤ 9223372036854775807 := Nat.le_trans hlen.1 hlen.2
  have hle : b + n ≤ N := by rw [← hN]; simp; omega
  have hle2 : a + n ≤ b := by omega
  have HA := Lib.hid hA
  have HN := Lib.hid hN
  obtain ⟨T, hT⟩ : ∃ T, T = p ++ v ++ m ++ u ++ q := ⟨_, rfl⟩
  have HT := Lib.hid hT
  rw [← hT]
  have H1 := Lib.hid ha
  have H2 := Lib.hid hb
  have H3 := Lib.hid hu
  have H4 := Lib.hid hv
  clear hA hN hT ha hb hu hv hlen
  go_enter Try.func155, Try.ntmps155
  go_wp2_with fail
  go_loopg [10] n (fun gk i wr => ∃ (k : Nat) (p u m v q : List Int), k ≤ n ∧ gk = n - k ∧ i = .int .i64 (k : Nat) ∧ Arr wr g cap (p ++ u ++ m ++ v ++ q) ∧ (p ++ u ++ m ++ v ++ q).length = N ∧ p.length = a + k ∧ p.length + u.length + m.length = b + k ∧ u.length = n - k ∧ v.length = n - k ∧ T = p ++ v ++ m ++ u ++ q ∧ Mods (fun j => j = g) w wr)
  case atStart => exact ⟨0, p, u, m, v, q, by omega, by omega, rfl, HA.out, HN.out, H1.out, H2.out, H3.out, H4.out, HT.out, Mods.refl _ _⟩
  case round =>
    obtain ⟨k, p, u, m, v, q, hk, rfl, rfl, hA, hN, ha, hb, hu, hv, hT, hM⟩ := hrel
    have HM := Lib.hid hM
    have HT := Lib.hid hT
    clear hM hT
    by_cases hlt : k < n
    · obtain ⟨x, u', rfl⟩ : ∃ x u', u = x :: u' := by cases u with | nil => simp at hu; omega | cons x u => exact ⟨x, u, rfl⟩
      obtain ⟨y, v', rfl⟩ : ∃ y v', v = y :: v' := by cases v with | nil => simp at hv; omega | cons x u => exact ⟨x, u, rfl⟩
      have c1 := hA.cell p x (u' ++ m ++ (y :: v') ++ q) (by simp)
      have c2 := hA.cell (p ++ x :: u' ++ m) y (v' ++ q) (by simp)
      have hb' : (p ++ x :: u' ++ m).length = b + k := by simp at hb ⊢; omega
      rw [ha] at c1
      rw [hb'] at c2
      have fz := hA.free
      have HAA := Lib.hid hA
      have e1 : IntKind.i64.wrap ((a : Int) + k) = a + k := IntWalk.i64_in _ (by omega)
      have hna : a + k ≠ b + k := by omega
      have HS : Hid (Arr ((wr.setCell ⟨g, a + k, none⟩ (.int .i64 y)).setCell ⟨g, b + k, none⟩ (.int .i64 x)) g cap ((p ++ [y]) ++ u' ++ (m ++ [x]) ++ v' ++ q)) := by
        have h1 := hA.set p x y (u' ++ m ++ (y :: v') ++ q) (by simp)
        have h2 := h1.set (p ++ y :: u' ++ m) y x (v' ++ q) (by simp)
        rw [ha, show (p ++ y :: u' ++ m).length = b + k by rw [← hb']; simp] at h2
        unfold Hid
        rw [show (p ++ [y]) ++ u' ++ (m ++ [x]) ++ v' ++ q = (p ++ y :: u' ++ m) ++ x :: (v' ++ q) by simp]
        exact h2
      have HK : Hid (k < n) := hlt
      have HLN : Hid (((p ++ [y]) ++ u' ++ (m ++ [x]) ++ v' ++ q).length = N ∧ (p ++ [y]).length = a + (k + 1) ∧ (p ++ [y]).length + u'.length + (m ++ [x]).length = b + (k + 1) ∧ u'.length = n - (k + 1) ∧ v'.length = n - (k + 1)) := by
        unfold Hid; simp at hN ha hb hu hv ⊢; omega
      have HTT : Hid (T = (p ++ [y]) ++ v' ++ (m ++ [x]) ++ u' ++ q) := by unfold Hid; rw [HT.out]; simp
      clear hA hN ha hb hu hv hb'
      go_upto_region 3 with fail
      go_region
      all_goals
        go_wp2_with fail
        go_roundg (n - (k + 1))
        case measure => have := HK.out; omega
        case rel => exact ⟨k + 1, _, _, _, _, _, HK.out, rfl, by go_num, HS.out, HLN.out.1, HLN.out.2.1, HLN.out.2.2.1, HLN.out.2.2.2.1, HLN.out.2.2.2.2, HTT.out, ((HM.out.setCell _ (fun _ => rfl) _).setCell _ (fun _ => rfl) _).drew⟩
    · obtain rfl : k = n := by omega
      obtain rfl : u = [] := List.eq_nil_of_length_eq_zero (by omega)
      obtain rfl : v = [] := List.eq_nil_of_length_eq_zero (by omega)
      have HAA := Lib.hid hA
      clear hA hN ha hb hu hv
      go_wp2
      go_end0
      exact ⟨rfl, by rw [HT.out]; exact HAA.out, HM.out⟩
theorem take_drop_len {l : List Int} {n k : Nat} (h : l.length = n) (hk : k ≤ n) : l = l.take k ++ l.drop k ∧ (l.take k).length = k ∧ (l.drop k).length = n - k := by
  refine ⟨(List.take_append_drop k l).symm, ?_, ?_⟩
  · rw [List.length_take]; omega
  · rw [List.length_drop]; omega
set_option maxRecDepth 100000 in
set_option maxHeartbeats 1000000 in
theorem f153_calls (g cap N : Nat) (f : Value) (p u v q : List Int) (a m b : Nat) (w : World) (hA : Arr w g cap (p ++ u ++ v ++ q)) (hN : (p ++ u ++ v ++ q).length = N)
    (ha : p.length = a) (hm : p.length + u.length = m) (hb : p.length + u.length + v.length = b) (hu : u ≠ []) (hv : v ≠ []) :
    Calls Try.prog 153 #[.slice (some ⟨g, 0, none⟩) N cap, .int .i64 a, .int .i64 m, .int .i64 b, f] w fun e w' => e = .returned (.tuple #[]) ∧ Arr w' g cap (p ++ v ++ u ++ q) ∧ Mods (fun j => j = g) w w' := by
  have hlen := hA.len
  rw [hN] at hlen
  have hcap : N ≤ 9223372036854775807 := Nat.le_trans hlen.1 hlen.2
  have hu0 := List.length_pos_iff.2 hu
  have hv0 := List.length_pos_iff.2 hv
  have hle : b ≤ N := by rw [← hN]; simp; omega
  have hle1 : a < m := by omega
  have hle2 : m < b := by omega
  have HA := Lib.hid hA
  have HN := Lib.hid hN
  obtain ⟨T, hT⟩ : ∃ T, T = p ++ v ++ u ++ q := ⟨_, rfl⟩
  have HT := Lib.hid hT
  rw [← hT]
  have H0 : Hid (p.length = m - (m - a) ∧ u.length = m - a ∧ v.length = b - m) := by unfold Hid; omega
  clear hA hN hT ha hm hb hu hv hlen hu0 hv0
  go_enter Try.func153, Try.ntmps153
  go_wp2_with fail
  go_loopg [10, 11] (b - a) (fun gk iv jv wr => ∃ (i j : Nat) (p u v q : List Int), 0 < i ∧ 0 < j ∧ i ≤ m - a ∧ j ≤ b - m ∧ gk = i + j ∧ iv = .int .i64 (i : Nat) ∧ jv = .int .i64 (j : Nat) ∧ Arr wr g cap (p ++ u ++ v ++ q) ∧ (p ++ u ++ v ++ q).length = N ∧ p.length = m - i ∧ u.length = i ∧ v.length = j ∧ T = p ++ v ++ u ++ q ∧ Mods (fun j => j = g) w wr)
  case atStart => exact ⟨m - a, b - m, p, u, v, q, by omega, by omega, by omega, by omega, by omega, by go_num, by go_num, HA.out, HN.out, H0.out.1, H0.out.2.1, H0.out.2.2, HT.out, Mods.refl _ _⟩
  case round =>
    obtain ⟨i, j, p, u, v, q, hi0, hj0, him, hjb, rfl, rfl, rfl, hA, hN, hp, hu, hv, hT, hM⟩ := hrel
    have HM := Lib.hid hM
    have HT := Lib.hid hT
    have HA := Lib.hid hA
    clear hM hT hA
    rcases Nat.lt_trichotomy i j with hij | hij | hij
    · obtain ⟨e, h1, h2⟩ := take_drop_len (k := j - i) hv (by omega)
      generalize v.take (j - i) = v1 at e h1
      generalize v.drop (j - i) = v2 at e h2
      subst e
      have HC := fun (wx : World) (h : Arr wx g cap (p ++ u ++ (v1 ++ v2) ++ q)) => f155_calls g cap N f p u v1 v2 q (m - i) (m + j - i) i wx (by simpa [List.append_assoc] using h) (by simpa [List.append_assoc] using hN) hp (by omega) hu (by omega)
      have HC := Lib.hid HC
      have HN2 : Hid ((p ++ v2 ++ v1 ++ (u ++ q)).length = N ∧ v2.length = i ∧ v1.length = j - i) := by unfold Hid; simp at hN ⊢; omega
      have HTT : Hid (T = p ++ v1 ++ v2 ++ (u ++ q)) := by unfold Hid; rw [HT.out]; simp
      have HP := Lib.hid hp
      have hne : (((i : Nat) : Int) != ((j : Nat) : Int)) = true := by simp; omega
      have e1 : ((m : Int) - i) = ((m - i : Nat) : Int) := by omega
      have e2 : ((m : Int) + j - i) = ((m + j - i : Nat) : Int) := by omega
      have HE1 := Lib.hid e1
      have HE2 := Lib.hid e2
      have hji : (i : Int) < j := by omega
      clear hN hp hu hv h1 h2 e1 e2
      go_wp2_with fail
      rw [HE1.out, HE2.out]
      refine (HC.out _ HA.out).mono ?_; rintro e w1 ⟨rfl, hA1, hm1⟩
      have HA1 : Hid (Arr w1 g cap (p ++ v2 ++ v1 ++ (u ++ q))) := by unfold Hid; simpa [List.append_assoc] using hA1
      have HM1 := Lib.hid (HM.out.trans hm1)
      clear hA1 hm1
      go_wp2_with fail
      go_roundg j
      case measure => omega
      case rel => exact ⟨i, j - i, p, v2, v1, u ++ q, hi0, by omega, him, by omega, by omega, rfl, val_int (by omega), HA1.out, HN2.out.1, HP.out, HN2.out.2.1, HN2.out.2.2, HTT.out, HM1.out⟩
    · subst hij
      have HC := fun (wx : World) (h : Arr wx g cap (p ++ u ++ v ++ q)) => f155_calls g cap N f p u [] v q (m - i) m i wx (by simpa using h) (by simpa using hN) hp (by simp; omega) hu hv
      have HC := Lib.hid HC
      have hne : (((i : Nat) : Int) != ((i : Nat) : Int)) = false := by simp
      have e1 : ((m : Int) - i) = ((m - i : Nat) : Int) := by omega
      have HE1 := Lib.hid e1
      clear hN hp hu hv e1
      go_wp2_with fail
      rw [HE1.out]
      refine (HC.out _ HA.out).mono ?_; rintro e w1 ⟨rfl, hA1, hm1⟩
      have HA1 : Hid (Arr w1 g cap T) := by unfold Hid; rw [HT.out]; simpa using hA1
      have HM1 := Lib.hid (HM.out.trans hm1)
      clear hA1 hm1
      go_wp2
      go_end0
      exact ⟨rfl, HA1.out, HM1.out⟩
    · obtain ⟨e, h1, h2⟩ := take_drop_len (k := j) hu (by omega)
      generalize u.take j = u1 at e h1
      generalize u.drop j = u2 at e h2
      subst e
      have HC := fun (wx : World) (h : Arr wx g cap (p ++ (u1 ++ u2) ++ v ++ q)) => f155_calls g cap N f p u1 u2 v q (m - i) m j wx (by simpa [List.append_assoc] using h) (by simpa [List.append_assoc] using hN) hp (by omega) h1 hv
      have HC := Lib.hid HC
      have HN2 : Hid ((p ++ v ++ u2 ++ u1 ++ q).length = N ∧ (p ++ v).length = m - (i - j) ∧ u2.length = i - j ∧ u1.length = j) := by unfold Hid; simp at hN ⊢; omega
      have HTT : Hid (T = p ++ v ++ u1 ++ u2 ++ q) := by unfold Hid; rw [HT.out]; simp
      have hne : (((i : Nat) : Int) != ((j : Nat) : Int)) = true := by simp; omega
      have e1 : ((m : Int) - i) = ((m - i : Nat) : Int) := by omega
      have HE1 := Lib.hid e1
      have hji : (j : Int) < i := by omega
      clear hN hp hu hv h1 h2 e1
      go_wp2_with fail
      rw [HE1.out]
      refine (HC.out _ HA.out).mono ?_; rintro e w1 ⟨rfl, hA1, hm1⟩
      have HA1 := Lib.hid hA1
      have HM1 := Lib.hid (HM.out.trans hm1)
      clear hA1 hm1
      go_wp2_with fail
      go_roundg i
      case measure => omega
      case rel => exact ⟨i - j, j, p ++ v, u2, u1, q, by omega, hj0, by omega, hjb, by omega, val_int (by omega), rfl, HA1.out, HN2.out.1, HN2.out.2.1, HN2.out.2.2.1, HN2.out.2.2.2, HTT.out, HM1.out⟩
end Go.Proofs.Ytblhbbgkkijkfaa
namespace Go.Proofs.Ytblhbbgkkijkfaa
open Go.RowKit Go.Maps
/-- The weak sum of a block. -/
def kw (ws : List Int) (x : Int) : Int := ws.getD x.toNat 0
/-- Which block stands first: that of the lesser sum; of like sums the lesser block. -/
def Rl (ws : List Int) (x y : Int) : Prop := kw ws x < kw ws y ∨ (kw ws x = kw ws y ∧ x < y)
theorem Rl.trans {ws : List Int} {x y z : Int} (h : Rl ws x y) (k : Rl ws y z) : Rl ws x z := by unfold Rl at *; omega
theorem Rl.le {ws : List Int} {x y : Int} (h : Rl ws x y) : kw ws x ≤ kw ws y := by unfold Rl at *; omega
/-- What the comparison's captured signature is. -/
structure KS (w : World) (G : Nat) (A : Option Addr) (c : Nat) (ws : List Int) : Prop where
  row : ∃ blk size sv, w.heap[G]? = some (.cells #[.int .i64 blk, .int .i64 size, .slice A ws.length c, sv] 31 (0, 0))
  rd : Rd w A (ints ws)
  range : ∀ x ∈ ws, 0 ≤ x ∧ x ≤ 4294967295
  len : ws.length ≤ 524288
theorem KS.mods {M : Nat → Prop} {w w' : World} {G : Nat} {A : Option Addr} {c : Nat} {ws : List Int} (h : KS w G A c ws) (hm : Mods M w w') (h1 : ¬ M G) (h2 : ∀ a, A = some a → ¬ M a.block) : KS w' G A c ws := by
  obtain ⟨b, s, sv, hr⟩ := h.row
  exact ⟨⟨b, s, sv, hm.row hr h1⟩, h.rd.mods hm h2, h.range, h.len⟩
theorem KS.drewN {w : World} {G : Nat} {A : Option Addr} {c : Nat} {ws : List Int} (h : KS w G A c ws) (n : Nat) : KS (w.drewN n) G A c ws := h.mods ((Mods.refl Nope w).drewN n) (fun h => h) (fun _ _ h => h)
theorem kw_range {ws : List Int} (h : ∀ x ∈ ws, 0 ≤ x ∧ x ≤ 4294967295) (x : Int) : 0 ≤ kw ws x ∧ kw ws x ≤ 4294967295 := by
  unfold kw
  rw [List.getD_eq_getElem?_getD]
  rcases hx : ws[x.toNat]? with _ | y
  · simp
  · exact h y (List.mem_of_getElem? hx)
set_option maxRecDepth 100000 in
theorem f105_calls (G : Nat) (A : Option Addr) (c : Nat) (ws : List Int) (x y : Int) (w : World) (h : KS w G A c ws) (hx : 0 ≤ x ∧ x < ws.length) (hy : 0 ≤ y ∧ y < ws.length) :
    Calls Try.prog 105 #[.int .i64 x, .int .i64 y, .pointer (some ⟨G, 0, none⟩)] w fun e w' => e = .returned (.int .i64 (kw ws x - kw ws y)) ∧ ∃ m, w' = w.drewN m := by
  obtain ⟨i, rfl⟩ := Int.eq_ofNat_of_zero_le hx.1
  obtain ⟨j, rfl⟩ := Int.eq_ofNat_of_zero_le hy.1
  obtain ⟨b, s, sv, hr⟩ := h.row
  have hi : i < ws.length := by omega
  have hj : j < ws.length := by omega
  obtain ⟨bb, off, hA, hc1⟩ := h.rd.int i hi
  obtain ⟨bb', off', hA', hc2⟩ := h.rd.int j hj
  subst hA
  injection hA' with hA'
  injection hA' with e1 e2
  subst e1 e2
  have e1 : kw ws (i : Nat) = ws[i] := by simp [kw, hi]
  have e2 : kw ws (j : Nat) = ws[j] := by simp [kw, hj]
  have r1 := kw_range h.range (i : Nat)
  have r2 := kw_range h.range (j : Nat)
  rw [e1] at r1 ⊢
  rw [e2] at r2 ⊢
  have g2 : w.cell? ⟨G, 2, none⟩ = some (.slice (some ⟨bb, off, none⟩) ws.length c) := by rw [row_cell hr]; rfl
  have hii : (i : Int) < (ws.length : Int) := by omega
  have hjj : (j : Int) < (ws.length : Int) := by omega
  generalize ws[i] = a at *
  generalize ws[j] = b at *
  have hlen := h.len
  clear h hr e1 e2 hx hy
  go_enter Try.func105, Try.ntmps105
  go_upto_region 1 with fail
  go_quiet (fail)
  go_wp2
  go_ret
  exact ⟨ret_int (by first | rfl | (unfold wrap64; omega)), _, rfl⟩
/-- The comparison as a value. -/
def cmpV (G : Nat) : Value := .func (.func 105) #[] #[.pointer (some ⟨G, 0, none⟩)]
def InR (ws xs : List Int) : Prop := ∀ x ∈ xs, 0 ≤ x ∧ x < ws.length
theorem Rl.ins {ws : List Int} {d1 d2 : List Int} {x : Int} (h : (d1 ++ d2).Pairwise (Rl ws)) (h1 : ∀ y ∈ d1, Rl ws y x) (h2 : ∀ y ∈ d2, Rl ws x y) : (d1 ++ x :: d2).Pairwise (Rl ws) := by
  rw [List.pairwise_append] at h ⊢
  refine ⟨h.1, List.pairwise_cons.2 ⟨h2, h.2.1⟩, ?_⟩
  intro a ha b hb
  rcases List.mem_cons.1 hb with rfl | hb
  · exact h1 a ha
  · exact h.2.2 a ha b hb
theorem Rl.last {ws : List Int} {d : List Int} {y x : Int} (h : (d ++ [y]).Pairwise (Rl ws)) (hx : Rl ws y x) : ∀ z ∈ d ++ [y], Rl ws z x := by
  intro z hz
  rcases List.mem_append.1 hz with hz | hz
  · exact ((List.pairwise_append.1 h).2.2 z hz y (by simp)).trans hx
  · simp at hz; subst hz; exact hx
theorem ins_perm (d1 d2 : List Int) (x : Int) : (d1 ++ x :: d2).Perm (d1 ++ d2 ++ [x]) := by
  rw [List.append_assoc]
  exact List.Perm.append_left d1 (List.perm_append_singleton x d2).symm
theorem Arr.swap {w : World} {g cap : Nat} {p q : List Int} {y x : Int} (h : Arr w g cap (p ++ y :: x :: q)) : Arr ((w.setCell ⟨g, p.length + 1, none⟩ (.int .i64 y)).setCell ⟨g, p.length, none⟩ (.int .i64 x)) g cap (p ++ x :: y :: q) := by
  have h1 := h.set (p ++ [y]) x y q (by simp)
  rw [show (p ++ [y]).length = p.length + 1 by simp] at h1
  have h2 := h1.set p y x (y :: q) (by simp)
  exact h2
theorem Arr.drew {w : World} {g cap : Nat} {xs : List Int} (h : Arr w g cap xs) : Arr w.drew g cap xs := h
theorem Arr.drewN {w : World} {g cap : Nat} {xs : List Int} (h : Arr w g cap xs) (n : Nat) : Arr (w.drewN n) g cap xs := h
set_option maxRecDepth 100000 in
set_option maxHeartbeats 2000000 in
theorem f149_calls (g cap N G : Nat) (A : Option Addr) (c : Nat) (ws p s q : List Int) (a b : Nat) (w : World) (hA : Arr w g cap (p ++ s ++ q)) (hN : (p ++ s ++ q).length = N)
    (ha : p.length = a) (hb : p.length + s.length = b) (hK : KS w G A c ws) (hgG : g ≠ G) (hAg : ∀ ad, A = some ad → ad.block ≠ g) (hin : InR ws s) (hs : s.Pairwise (· < ·)) (hcap : N ≤ 1000000) :
    Calls Try.prog 149 #[.slice (some ⟨g, 0, none⟩) N cap, .int .i64 a, .int .i64 b, cmpV G] w fun e w' => e = .returned (.tuple #[]) ∧ ∃ s', s'.Perm s ∧ s'.Pairwise (Rl ws) ∧ Arr w' g cap (p ++ s' ++ q) ∧ Mods (fun j => j = g) w w' := by
  have hbN : b ≤ N := by rw [← hN]; simp; omega
  have hab : a ≤ b := by omega
  have HA := Lib.hid hA
  have HK := Lib.hid hK
  have HN := Lib.hid hN
  have HG := Lib.hid hgG
  have HAG := Lib.hid hAg
  have HIN := Lib.hid hin
  have HSS := Lib.hid hs
  have HPA := Lib.hid ha
  have HPB := Lib.hid hb
  clear hA hK hN hgG hAg hin hs
  unfold cmpV
  by_cases hs0 : s = []
  · subst hs0
    obtain rfl : a = b := by simp at hb; omega
    clear ha hb
    go_enter Try.func149, Try.ntmps149
    go_wp2_with fail
    refine wp_loop_once ?_
    go_wp2
    go_end0
    exact ⟨rfl, [], List.Perm.refl _, List.Pairwise.nil, HA.out, Mods.refl _ _⟩
  obtain ⟨x0, e0, hs0⟩ : ∃ x0 e0, s = x0 :: e0 := by cases s with | nil => exact absurd rfl hs0 | cons x s => exact ⟨x, s, rfl⟩
  have HS0 := Lib.hid hs0
  have hab1 : a + 1 ≤ b := by rw [hs0] at hb; simp at hb; omega
  clear hs0 ha hb
  go_enter Try.func149, Try.ntmps149
  go_wp2_with fail
  go_loopg [8] (b - (a + 1)) (fun gk i wr => ∃ (k : Nat) (d d' e : List Int), a + 1 ≤ k ∧ k ≤ b ∧ gk = b - k ∧ i = .int .i64 (k : Nat) ∧ s = d ++ e ∧ d'.Perm d ∧ d'.Pairwise (Rl ws) ∧ Arr wr g cap (p ++ d' ++ e ++ q) ∧ a + d.length = k ∧ Mods (fun j => j = g) w wr)
  case atStart =>
    refine ⟨a + 1, [x0], [x0], e0, by omega, hab1, ?_, by go_num, by rw [HS0.out]; rfl, List.Perm.refl _, by simp, ?_, rfl, Mods.refl _ _⟩
    · rfl
    · have := HA.out; rw [HS0.out] at this; simpa using this
  case round =>
    obtain ⟨k, d, d', e, hak, hkb, rfl, rfl, hde, hperm, hsort, hA, hdk, hM⟩ := hrel
    have HM := Lib.hid hM
    have HD := Lib.hid hde
    have HPE := Lib.hid hperm
    have HSO := Lib.hid hsort
    have HDK := Lib.hid hdk
    by_cases hlt : k < b
    · obtain ⟨x, e', rfl⟩ : ∃ x e', e = x :: e' := by
        cases e with
        | nil => have h1 := HPB.out; have h2 := HPA.out; rw [hde] at h1; simp at h1; omega
        | cons x e => exact ⟨x, e, rfl⟩
      have HLT := Lib.hid hlt
      have hx := HIN.out x (by rw [hde]; simp)
      have HLS := Lib.hid (show ∀ y ∈ d', y < x ∧ 0 ≤ y ∧ y < ws.length by
        intro y hy
        have hyd : y ∈ d := hperm.subset hy
        have hs := HSS.out
        rw [hde, List.pairwise_append] at hs
        have hy2 := HIN.out y (by rw [hde]; simp [hyd])
        exact ⟨hs.2.2 y hyd x (by simp), hy2.1, hy2.2⟩)
      have HLEN := Lib.hid (show (p ++ d').length = k by rw [List.length_append, hperm.length_eq, HPA.out]; exact hdk)
      have HA1 := Lib.hid (show Arr wr g cap (p ++ d' ++ x :: [] ++ e' ++ q) by simpa using hA)
      have hkN : k + 1 ≤ N := by omega
      clear hM hde hperm hsort hdk hA
      obtain ⟨wo, rfl⟩ : ∃ wo : World, wo = wr := ⟨_, rfl⟩
      go_wp2_with fail
      go_loopg [9] k (fun gj j wr => ∃ (t : Nat) (d1 d2 : List Int), a ≤ t ∧ t ≤ k ∧ gj = t ∧ j = .int .i64 (t : Nat) ∧ d' = d1 ++ d2 ∧ (p ++ d1).length = t ∧ Arr wr g cap (p ++ d1 ++ x :: d2 ++ e' ++ q) ∧ (∀ y ∈ d2, Rl ws x y) ∧ Mods (fun j => j = g) w wr)
      case atStart => exact ⟨k, d', [], by omega, by omega, rfl, rfl, by simp, HLEN.out, HA1.out, fun y hy => (by simp at hy), HM.out⟩
      case round =>
        obtain ⟨t, d1, d2, hat, htk, rfl, rfl, hdd, hlt1, hA, hR, hM⟩ := hrel
        have HM2 := Lib.hid hM
        have HDD := Lib.hid hdd
        have HL1 := Lib.hid hlt1
        have HR := Lib.hid hR
        have HA2 := Lib.hid hA
        have HSOD := Lib.hid (show (d1 ++ d2).Pairwise (Rl ws) by rw [← hdd]; exact HSO.out)
        by_cases hta : a < gk
        · obtain ⟨d1', y, rfl⟩ : ∃ d1' y, d1 = d1' ++ [y] := by
            have hne : d1 ≠ [] := by rintro rfl; have := HPA.out; simp at hlt1; omega
            exact ⟨d1.dropLast, d1.getLast hne, (List.dropLast_concat_getLast hne).symm⟩
          have hy := HLS.out y (by rw [hdd]; simp)
          have hj1 : (p ++ d1').length = gk - 1 := by simp at hlt1 ⊢; omega
          have c1 : wr.cell? ⟨g, gk, none⟩ = some (.int .i64 x) := by
            have := hA.cell (p ++ (d1' ++ [y])) x (d2 ++ e' ++ q) (by simp)
            rwa [hlt1] at this
          have c2 : wr.cell? ⟨g, gk - 1, none⟩ = some (.int .i64 y) := by
            have := hA.cell (p ++ d1') y (x :: d2 ++ e' ++ q) (by simp)
            rwa [hj1] at this
          have HSW : Hid (∀ n, Arr (((wr.drewN n).setCell ⟨g, gk, none⟩ (.int .i64 y)).setCell ⟨g, gk - 1, none⟩ (.int .i64 x)) g cap (p ++ d1' ++ x :: (y :: d2) ++ e' ++ q)) := by
            intro n
            have h := Arr.swap (p := p ++ d1') (q := d2 ++ e' ++ q) (y := y) (x := x) (w := wr.drewN n) (g := g) (cap := cap) (Arr.drewN (by simpa using hA) n)
            rw [hj1, show gk - 1 + 1 = gk by omega] at h
            simpa using h
          have HDD' : Hid (d' = d1' ++ (y :: d2)) := by unfold Hid; rw [hdd]; simp
          have HJ1 := Lib.hid hj1
          have HKK := Lib.hid (HK.out.mods hM (fun h => HG.out h.symm) HAG.out)
          have fz := hA.free
          have HQ := Lib.hid (fun n => HKK.out.drewN n)
          have hyr : 0 ≤ y ∧ y < ws.length := ⟨hy.2.1, hy.2.2⟩
          have hyx := hy.1
          have r1 := kw_range HK.out.range x
          have r2 := kw_range HK.out.range y
          have hgN : (gk : Int) < (N : Int) := by omega
          have hg0 : (0 : Int) ≤ (gk : Int) - 1 := by omega
          have hg1 : (gk : Int) - 1 < (N : Int) := by omega
          have hgi : (a : Int) < (gk : Int) := by omega
          have hne1 : gk - 1 ≠ gk := by omega
          clear hM hdd hlt1 hR hA hy hj1
          by_cases hkk : kw ws x < kw ws y
          · have HR' : Hid (∀ z ∈ y :: d2, Rl ws x z) := by
              intro z hz
              rcases List.mem_cons.1 hz with rfl | hz
              · exact .inl hkk
              · exact HR.out z hz
            go_upto_region 4 with fail
            go_quiet ((go_at_call 105; exact Calls.quiet_of (f105_calls G A c ws x y _ (HQ.out _) hx hyr)))
            go_upto_region 6 with fail
            go_region
            all_goals
              go_wp2_with fail
              go_roundg (gk - 1)
              case measure => omega
              case rel => exact ⟨gk - 1, d1', y :: d2, by omega, by omega, rfl, val_int (by omega), HDD'.out, HJ1.out, HSW.out _, HR'.out, ((HM2.out.drewN _).setCell _ (fun _ => rfl) _).setCell _ (fun _ => rfl) _⟩
          · have HF : Hid ((d1' ++ [y] ++ x :: d2).Pairwise (Rl ws)) := by
              refine Rl.ins HSOD.out (Rl.last ?_ (by unfold Rl; omega)) HR.out
              have := HSOD.out
              rw [List.pairwise_append] at this
              exact this.1
            have HFP : Hid ((d1' ++ [y] ++ x :: d2).Perm (d ++ [x])) := by
              refine (ins_perm (d1' ++ [y]) d2 x).trans ?_
              rw [← HDD.out]
              exact List.Perm.append_right [x] HPE.out
            have HFA : Hid (∀ n, Arr (wr.drewN n) g cap (p ++ (d1' ++ [y] ++ x :: d2) ++ e' ++ q)) := fun n => Arr.drewN (by simpa using HA2.out) n
            go_upto_region 4 with fail
            go_quiet ((go_at_call 105; exact Calls.quiet_of (f105_calls G A c ws x y _ (HQ.out _) hx hyr)))
            go_wp2_with fail
            go_roundg (b - (k + 1))
            case measure => have := HLT.out; omega
            case rel => exact ⟨k + 1, d ++ [x], _, e', by omega, HLT.out, rfl, by go_num, by rw [HD.out]; simp, HFP.out, HF.out, HFA.out _, by rw [List.length_append, ← Nat.add_assoc, HDK.out]; rfl, HM2.out.drewN _⟩
        · obtain rfl : gk = a := by omega
          obtain rfl : d1 = [] := List.eq_nil_of_length_eq_zero (by have := HPA.out; rw [List.length_append] at hlt1; omega)
          have HF : Hid ((x :: d2).Pairwise (Rl ws)) := List.pairwise_cons.2 ⟨HR.out, by simpa using HSOD.out⟩
          have HFP : Hid ((x :: d2).Perm (d ++ [x])) := by
            unfold Hid
            have h := HPE.out
            rw [HDD.out] at h
            exact (List.perm_append_singleton x d2).symm.trans (List.Perm.append_right [x] (by simpa using h))
          have HFA : Hid (∀ n, Arr (wr.drewN n) g cap (p ++ (x :: d2) ++ e' ++ q)) := fun n => Arr.drewN (by simpa using HA2.out) n
          clear hM hdd hlt1 hR hA
          go_upto_region 4 with fail
          go_quiet (fail)
          go_wp2_with fail
          go_roundg (b - (k + 1))
          case measure => have := HLT.out; omega
          case rel => exact ⟨k + 1, d ++ [x], _, e', by omega, HLT.out, rfl, by go_num, by rw [HD.out]; simp, HFP.out, HF.out, HFA.out _, by rw [List.length_append, ← Nat.add_assoc, HDK.out]; rfl, HM2.out.drewN _⟩
    · obtain rfl : k = b := by omega
      obtain rfl : e = [] := by
        apply List.eq_nil_of_length_eq_zero
        have h1 := HPB.out
        have h2 := HPA.out
        rw [hde, List.length_append] at h1
        omega
      have HA1 := Lib.hid (show Arr wr g cap (p ++ d' ++ q) by simpa using hA)
      have HP1 : Hid (d'.Perm s) := by unfold Hid; rw [hde]; simpa using hperm
      clear hM hde hperm hsort hdk hA
      go_wp2
      go_end0
      exact ⟨rfl, d', HP1.out, HSO.out, HA1.out, HM.out⟩
end Go.Proofs.Ytblhbbgkkijkfaa
namespace Go.Proofs.Ytblhbbgkkijkfaa
open Go
theorem Rl.mono {ws r : List Int} (h : r.Pairwise (Rl ws)) {s t : Nat} (hst : s ≤ t) (ht : t < r.length) : kw ws (r.getD s 0) ≤ kw ws (r.getD t 0) := by
  rcases Nat.lt_or_ge s t with hlt | hge
  · have := (List.pairwise_iff_getElem.1 h) s t (by omega) ht hlt
    have := this.le
    simpa [List.getD_eq_getElem?_getD, ht, show s < r.length by omega] using this
  · obtain rfl : s = t := by omega
    exact Int.le_refl _
theorem mem_take_getD {l : List Int} {n : Nat} {x : Int} (h : x ∈ l.take n) : ∃ i, i < n ∧ i < l.length ∧ x = l.getD i 0 := by
  obtain ⟨i, hi, rfl⟩ := List.getElem_of_mem h
  rw [List.length_take] at hi
  refine ⟨i, by omega, by omega, ?_⟩
  simp [List.getD_eq_getElem?_getD, show i < l.length by omega]
theorem mem_drop_getD {l : List Int} {n : Nat} {x : Int} (h : x ∈ l.drop n) : ∃ i, n ≤ i ∧ i < l.length ∧ x = l.getD i 0 := by
  obtain ⟨i, hi, rfl⟩ := List.getElem_of_mem h
  rw [List.length_drop] at hi
  refine ⟨n + i, by omega, by omega, ?_⟩
  simp [List.getD_eq_getElem?_getD, show n + i < l.length by omega]
theorem getD_mem' {l : List Int} {i : Nat} (h : i < l.length) : l.getD i 0 ∈ l := by
  rw [List.getD_eq_getElem?_getD, List.getElem?_eq_getElem h]
  exact List.getElem_mem h
/-- One element ahead of a sorted list: where it goes. -/
theorem one_split {ws : List Int} {e : Int} {r : List Int} {k : Nat} (hr : r.Pairwise (Rl ws)) (hx : ∀ y ∈ r, e < y) (hk : k ≤ r.length)
    (h1 : ∀ t, t < k → kw ws (r.getD t 0) < kw ws e) (h2 : ∀ t, k ≤ t → t < r.length → ¬ kw ws (r.getD t 0) < kw ws e) :
    ∃ r1 r2, r = r1 ++ r2 ∧ r1.length = k ∧ (r1 ++ e :: r2).Pairwise (Rl ws) ∧ (r1 ++ e :: r2).Perm ([e] ++ r) := by
  refine ⟨r.take k, r.drop k, (List.take_append_drop k r).symm, by rw [List.length_take]; omega, ?_, ?_⟩
  · refine Rl.ins (by rw [List.take_append_drop]; exact hr) ?_ ?_
    · intro y hy
      obtain ⟨i, hi, _, rfl⟩ := mem_take_getD hy
      exact .inl (h1 i hi)
    · intro y hy
      obtain ⟨i, hi, hl, rfl⟩ := mem_drop_getD hy
      have := h2 i hi hl
      have := hx _ (getD_mem' hl)
      unfold Rl
      omega
  · refine (ins_perm _ _ _).trans ?_
    rw [List.take_append_drop]
    exact List.perm_append_comm
theorem last_split {ws : List Int} {e : Int} {l : List Int} {k : Nat} (hl : l.Pairwise (Rl ws)) (hx : ∀ y ∈ l, y < e) (hk : k ≤ l.length)
    (h1 : ∀ t, t < k → ¬ kw ws e < kw ws (l.getD t 0)) (h2 : ∀ t, k ≤ t → t < l.length → kw ws e < kw ws (l.getD t 0)) :
    ∃ l1 l2, l = l1 ++ l2 ∧ l1.length = k ∧ (l1 ++ e :: l2).Pairwise (Rl ws) ∧ (l1 ++ e :: l2).Perm (l ++ [e]) := by
  refine ⟨l.take k, l.drop k, (List.take_append_drop k l).symm, by rw [List.length_take]; omega, ?_, ?_⟩
  · refine Rl.ins (by rw [List.take_append_drop]; exact hl) ?_ ?_
    · intro y hy
      obtain ⟨i, hi, hil, rfl⟩ := mem_take_getD hy
      have := h1 i hi
      have := hx _ (getD_mem' hil)
      unfold Rl
      omega
    · intro y hy
      obtain ⟨i, hi, hl, rfl⟩ := mem_drop_getD hy
      exact .inl (h2 i hi hl)
  · refine (ins_perm _ _ _).trans ?_
    rw [List.take_append_drop]
/-- Both lists are parted so that the middle is the middle of all. -/
theorem sym_split {ws l r : List Int} {a m b S s0 t0 mid : Nat} (hl : l.Pairwise (Rl ws)) (hr : r.Pairwise (Rl ws)) (hx : ∀ x ∈ l, ∀ y ∈ r, x < y)
    (hla : l.length = m - a) (hrb : r.length = b - m) (ham : a < m) (hmb : m < b) (hmid : mid = (a + b) / 2)
    (hs0 : s0 = if mid < m then mid + m - b else a) (ht0 : t0 = if mid < m then mid else m) (h0 : s0 ≤ S) (h1 : S ≤ t0)
    (hT : ∀ c, s0 ≤ c → c < S → ¬ kw ws (r.getD (mid + m - 1 - c - m) 0) < kw ws (l.getD (c - a) 0))
    (hF : ∀ c, S ≤ c → c < t0 → kw ws (r.getD (mid + m - 1 - c - m) 0) < kw ws (l.getD (c - a) 0)) :
    a ≤ S ∧ S ≤ m ∧ S ≤ mid ∧ mid + m - S ≤ b ∧ ∃ l1 l2 r1 r2, l = l1 ++ l2 ∧ r = r1 ++ r2 ∧ l1.length = S - a ∧ l2.length = m - S ∧ r1.length = mid - S ∧ r2.length = b - (mid + m - S) ∧
      (∀ x ∈ l1, ∀ y ∈ r2, Rl ws x y) ∧ (∀ y ∈ r1, ∀ x ∈ l2, Rl ws y x) := by
  have hb1 : a ≤ S ∧ S ≤ m ∧ S ≤ mid ∧ mid + m - S ≤ b := by
    by_cases hc : mid < m
    · rw [if_pos hc] at hs0 ht0; omega
    · rw [if_neg hc] at hs0 ht0; omega
  obtain ⟨b1, b2, b3, b4⟩ := hb1
  refine ⟨b1, b2, b3, b4, l.take (S - a), l.drop (S - a), r.take (mid - S), r.drop (mid - S), (List.take_append_drop _ _).symm, (List.take_append_drop _ _).symm, by rw [List.length_take]; omega, by rw [List.length_drop]; omega, by rw [List.length_take]; omega, by rw [List.length_drop]; omega, ?_, ?_⟩
  · intro x hx1 y hy1
    have hxy := hx x (List.mem_of_mem_take hx1) y (List.mem_of_mem_drop hy1)
    obtain ⟨i, hi, hil, rfl⟩ := mem_take_getD hx1
    obtain ⟨j, hj, hjl, rfl⟩ := mem_drop_getD hy1
    have hc := hT (S - 1) (by by_cases hc : mid < m; (rw [if_pos hc] at hs0; omega); (rw [if_neg hc] at hs0; omega)) (by omega)
    rw [show mid + m - 1 - (S - 1) - m = mid - S by omega] at hc
    have k1 := Rl.mono hl (s := i) (t := S - 1 - a) (by omega) (by omega)
    have k2 := Rl.mono hr (s := mid - S) (t := j) hj hjl
    unfold Rl
    omega
  · intro y hy1 x hx1
    obtain ⟨i, hi, hil, rfl⟩ := mem_take_getD hy1
    obtain ⟨j, hj, hjl, rfl⟩ := mem_drop_getD hx1
    have hc := hF S (Nat.le_refl _) (by by_cases hc : mid < m; (rw [if_pos hc] at ht0; omega); (rw [if_neg hc] at ht0; omega))
    rw [show mid + m - 1 - S - m = mid - S - 1 by omega] at hc
    have k1 := Rl.mono hr (s := i) (t := mid - S - 1) (by omega) (by omega)
    have k2 := Rl.mono hl (s := S - a) (t := j) hj hjl
    exact .inl (by omega)
/-- What is left when both halves are in order. -/
theorem sym_join {ws l1 l2 r1 r2 s1 s2 : List Int} (hl : (l1 ++ l2).Pairwise (Rl ws)) (hr : (r1 ++ r2).Pairwise (Rl ws)) (f1 : ∀ x ∈ l1, ∀ y ∈ r2, Rl ws x y) (f2 : ∀ y ∈ r1, ∀ x ∈ l2, Rl ws y x)
    (p1 : s1.Perm (l1 ++ r1)) (p2 : s2.Perm (l2 ++ r2)) (q1 : s1.Pairwise (Rl ws)) (q2 : s2.Pairwise (Rl ws)) :
    (s1 ++ s2).Pairwise (Rl ws) ∧ (s1 ++ s2).Perm (l1 ++ l2 ++ (r1 ++ r2)) := by
  rw [List.pairwise_append] at hl hr
  constructor
  · rw [List.pairwise_append]
    refine ⟨q1, q2, fun x hx y hy => ?_⟩
    have hx := p1.subset hx
    have hy := p2.subset hy
    rcases List.mem_append.1 hx with hx | hx <;> rcases List.mem_append.1 hy with hy | hy
    · exact hl.2.2 x hx y hy
    · exact f1 x hx y hy
    · exact f2 x hx y hy
    · exact hr.2.2 x hx y hy
  · refine (List.Perm.append p1 p2).trans ?_
    rw [List.append_assoc, List.append_assoc]
    refine List.Perm.append_left l1 ?_
    rw [← List.append_assoc, ← List.append_assoc]
    exact List.Perm.append_right r2 List.perm_append_comm
end Go.Proofs.Ytblhbbgkkijkfaa
namespace Go.Proofs.Ytblhbbgkkijkfaa
open Go.RowKit Go.Maps
def SymPost (ws : List Int) (g cap : Nat) (p l r q : List Int) (w : World) (e : Ending) (w' : World) : Prop :=
  e = .returned (.tuple #[]) ∧ ∃ s, s.Perm (l ++ r) ∧ s.Pairwise (Rl ws) ∧ Arr w' g cap (p ++ s ++ q) ∧ Mods (fun j => j = g) w w'
theorem Arr.at {w : World} {g cap : Nat} {xs : List Int} (h : Arr w g cap xs) (k : Nat) (hk : k < xs.length) : w.cell? ⟨g, k, none⟩ = some (.int .i64 (xs.getD k 0)) := by
  rw [World.ownsRow.cellAt h k (by omega)]
  simp [ints, List.getD_eq_getElem?_getD, hk]
theorem getD_left {l r : List Int} {i : Nat} (h : i < l.length) : (l ++ r).getD i 0 = l.getD i 0 := by
  simp [List.getD_eq_getElem?_getD, List.getElem?_append_left h]
theorem getD_right {l r : List Int} {i : Nat} (h : l.length ≤ i) : (l ++ r).getD i 0 = r.getD (i - l.length) 0 := by
  simp [List.getD_eq_getElem?_getD, List.getElem?_append_right h]
theorem InR.at {ws l : List Int} (h : InR ws l) {i : Nat} (hi : i < l.length) : 0 ≤ l.getD i 0 ∧ l.getD i 0 < ws.length := h _ (getD_mem' hi)
theorem Arr.swapUp {w : World} {g cap : Nat} {p q : List Int} {y x : Int} (h : Arr w g cap (p ++ y :: x :: q)) : Arr ((w.setCell ⟨g, p.length, none⟩ (.int .i64 x)).setCell ⟨g, p.length + 1, none⟩ (.int .i64 y)) g cap (p ++ x :: y :: q) := by
  have h1 := h.set p y x (x :: q) (by simp)
  have h2 := h1.set (p ++ [x]) x y q (by simp)
  rw [show (p ++ [x]).length = p.length + 1 by simp] at h2
  simpa using h2
theorem cells_one {w : World} {g cap a m : Nat} {p r q : List Int} {x0 : Int} (hA : Arr w g cap (p ++ [x0] ++ r ++ q)) (ha : p.length = a) (hm : a + 1 = m) :
    w.cell? ⟨g, a, none⟩ = some (.int .i64 x0) ∧ ∀ h, m ≤ h → h < m + r.length → w.cell? ⟨g, h, none⟩ = some (.int .i64 (r.getD (h - m) 0)) := by
  constructor
  · have := hA.cell p x0 (r ++ q) (by simp); rwa [ha] at this
  · intro h h1 h2
    have hl : h < (p ++ [x0] ++ r ++ q).length := by simp; omega
    rw [hA.at h hl, List.append_assoc, getD_right (by simp; omega), show h - (p ++ [x0]).length = h - m by simp; omega, getD_left (by omega)]
theorem Arr.nope {w w' : World} {g cap : Nat} {xs : List Int} (h : Arr w g cap xs) (hm : Mods Nope w w') : Arr w' g cap xs := hm.owns h (fun _ _ h => h)
theorem KS.nope {w w' : World} {G : Nat} {A : Option Addr} {c : Nat} {ws : List Int} (h : KS w G A c ws) (hm : Mods Nope w w') : KS w' G A c ws := h.mods hm (fun h => h) (fun _ _ h => h)
set_option maxRecDepth 100000 in
set_option maxHeartbeats 4000000 in
theorem f150_one (g cap N G : Nat) (A : Option Addr) (c : Nat) (ws p r q : List Int) (x0 : Int) (a m b : Nat) (w : World) (hA : Arr w g cap (p ++ [x0] ++ r ++ q)) (hN : (p ++ [x0] ++ r ++ q).length = N)
    (ha : p.length = a) (hm : a + 1 = m) (hb : m + r.length = b) (hK : KS w G A c ws) (hin0 : 0 ≤ x0 ∧ x0 < ws.length) (hin : InR ws r) (hs : r.Pairwise (Rl ws)) (hx : ∀ y ∈ r, x0 < y) (hcap : N ≤ 1000000) :
    Calls Try.prog 150 #[.slice (some ⟨g, 0, none⟩) N cap, .int .i64 a, .int .i64 m, .int .i64 b, cmpV G] w (SymPost ws g cap p [x0] r q w) := by
  have hbN : b ≤ N := by rw [← hN]; simp; omega
  have hab : a < m := by omega
  have hmb : m ≤ b := by omega
  have hq1 : (((m : Int) - (a : Int)) == 1) = true := by simp; omega
  have HA := Lib.hid hA
  have HK := Lib.hid hK
  have HIN := Lib.hid hin
  have HSS := Lib.hid hs
  have HX := Lib.hid hx
  have HR : Hid (r.length = b - m ∧ p.length = a ∧ m = a + 1) := by unfold Hid; omega
  clear hA hK hin hs hx hm hb ha hN
  unfold cmpV
  go_enter Try.func150, Try.ntmps150
  go_wp2_with fail
  go_loopw [10, 11] (fun i j wr => ∃ s t : Nat, m ≤ s ∧ s ≤ t ∧ t ≤ b ∧ i = .int .i64 (s : Nat) ∧ j = .int .i64 (t : Nat) ∧ (∀ k, k < s - m → kw ws (r.getD k 0) < kw ws x0) ∧ (∀ k, t - m ≤ k → k < r.length → ¬ kw ws (r.getD k 0) < kw ws x0) ∧ Mods Nope w wr) (fun i j _ => (intOf j - intOf i).toNat)
  case atStart => exact ⟨m, b, by omega, hmb, by omega, rfl, rfl, fun k hk => by omega, fun k h1 h2 => by have := HR.out; omega, Mods.refl _ _⟩
  case round =>
    obtain ⟨s, t, hms, hst, htb, rfl, rfl, h1, h2, hM⟩ := hrel
    have H1 := Lib.hid h1
    have H2 := Lib.hid h2
    have HM := Lib.hid hM
    have HA1 := Lib.hid (HA.out.nope hM)
    have HK1 := Lib.hid (HK.out.nope hM)
    clear h1 h2 hM
    by_cases hlt : s < t
    · obtain ⟨h, hh⟩ : ∃ h, h = (s + t) / 2 := ⟨_, rfl⟩
      have HE : Hid (((s : Int) + (t : Int)) / 2 = (h : Nat)) := by unfold Hid; omega
      have hs1 : s ≤ h := by omega
      have hs2 : h < t := by omega
      have hr := HR.out
      obtain ⟨c0, cc⟩ := cells_one HA1.out hr.2.1 hr.2.2.symm
      have ch := cc h (by omega) (by omega)
      have hy := HIN.out.at (i := h - m) (by omega)
      have HL : Hid (∀ k, k ≤ h - m → kw ws (r.getD k 0) ≤ kw ws (r.getD (h - m) 0)) := fun k hk => Rl.mono HSS.out hk (by omega)
      have HL2 : Hid (∀ k, h - m ≤ k → k < r.length → kw ws (r.getD (h - m) 0) ≤ kw ws (r.getD k 0)) := fun k hk hkl => Rl.mono HSS.out hk hkl
      have hhN : (h : Int) < (N : Int) := by omega
      have haN : (a : Int) < (N : Int) := by omega
      clear hh hr cc
      generalize hy0 : r.getD (h - m) 0 = y at *
      clear hy0
      have r1 := kw_range HK.out.range x0
      have r2 := kw_range HK.out.range y
      have HQ := Lib.hid (fun n => HK1.out.drewN n)
      by_cases hkk : kw ws y < kw ws x0
      · have H1' : Hid (∀ k, k < h + 1 - m → kw ws (r.getD k 0) < kw ws x0) := fun k hk => by have := HL.out k (by omega); omega
        go_upto_region 5 with fail
        rw [HE.out]
        go_quiet ((go_at_call 105; exact Calls.quiet_of (f105_calls G A c ws y x0 _ (HQ.out _) hy hin0)))
        go_wp2_with fail
        go_roundw
        case rel => exact ⟨h + 1, t, by omega, by omega, htb, by go_num, rfl, H1'.out, H2.out, HM.out.drewN _⟩
        case measure => simp [intOf]; omega
      · have H2' : Hid (∀ k, h - m ≤ k → k < r.length → ¬ kw ws (r.getD k 0) < kw ws x0) := fun k hk hkl => by have := HL2.out k hk hkl; omega
        go_upto_region 5 with fail
        rw [HE.out]
        go_quiet ((go_at_call 105; exact Calls.quiet_of (f105_calls G A c ws y x0 _ (HQ.out _) hy hin0)))
        go_wp2_with fail
        go_roundw
        case rel => exact ⟨s, h, hms, hs1, by omega, rfl, rfl, H1.out, H2'.out, HM.out.drewN _⟩
        case measure => simp [intOf]; omega
    · obtain rfl : s = t := by omega
      obtain ⟨r1, r2, hr12, hr1, hsort, hperm⟩ := one_split (k := s - m) HSS.out HX.out (by have := HR.out; omega) H1.out H2.out
      have HSO := Lib.hid hsort
      have HPE := Lib.hid hperm
      have hsa : r1.length + a + 1 = s := by have := HR.out; omega
      have HA2 : Hid (Arr wr g cap (p ++ [] ++ x0 :: r1 ++ (r2 ++ q))) := by
        unfold Hid
        have := HA1.out
        rw [hr12] at this
        simpa using this
      have HSA := Lib.hid hsa
      have hsN : s ≤ N := by omega
      have has : a + 1 ≤ s := by omega
      clear hr12 hsort hperm hr1 hsa
      obtain ⟨wo, rfl⟩ : ∃ wo : World, wo = wr := ⟨_, rfl⟩
      go_wp2_with fail
      go_loopg [13] (s - 1 - a) (fun gk i wr => ∃ (k : Nat) (d1 d2 : List Int), a ≤ k ∧ k ≤ s - 1 ∧ gk = s - 1 - k ∧ i = .int .i64 (k : Nat) ∧ r1 = d1 ++ d2 ∧ a + d1.length = k ∧ Arr wr g cap (p ++ d1 ++ x0 :: d2 ++ (r2 ++ q)) ∧ Mods (fun j => j = g) w wr)
      case atStart => exact ⟨a, [], r1, by omega, by omega, rfl, rfl, rfl, rfl, HA2.out, HM.out.any _⟩
      case round =>
        obtain ⟨k, d1, d2, hak, hks, rfl, rfl, hd, hk1, hA, hM⟩ := hrel
        have HM2 := Lib.hid hM
        have HAA := Lib.hid hA
        have hl := congrArg List.length hd
        rw [List.length_append] at hl
        by_cases hlt2 : k < s - 1
        · obtain ⟨y, d2', rfl⟩ : ∃ y d2', d2 = y :: d2' := by
            cases d2 with
            | nil => have := HSA.out; simp at hl; omega
            | cons y d => exact ⟨y, d, rfl⟩
          have hpk : (p ++ d1).length = k := by rw [List.length_append, HR.out.2.1]; exact hk1
          have c1 : wr.cell? ⟨g, k, none⟩ = some (.int .i64 x0) := by
            have := hA.cell (p ++ d1) x0 (y :: d2' ++ (r2 ++ q)) (by simp)
            rwa [hpk] at this
          have c2 : wr.cell? ⟨g, k + 1, none⟩ = some (.int .i64 y) := by
            have := hA.cell (p ++ d1 ++ [x0]) y (d2' ++ (r2 ++ q)) (by simp)
            rwa [show (p ++ d1 ++ [x0]).length = k + 1 by rw [List.length_append, hpk]; rfl] at this
          have HSW : Hid (∀ n, Arr (((wr.drewN n).setCell ⟨g, k, none⟩ (.int .i64 y)).setCell ⟨g, k + 1, none⟩ (.int .i64 x0)) g cap (p ++ (d1 ++ [y]) ++ x0 :: d2' ++ (r2 ++ q))) := by
            intro n
            have h := Arr.swapUp (p := p ++ d1) (q := d2' ++ (r2 ++ q)) (y := x0) (x := y) (w := wr.drewN n) (g := g) (cap := cap) (Arr.drewN (by simpa using hA) n)
            rw [hpk] at h
            simpa using h
          have HD : Hid (r1 = (d1 ++ [y]) ++ d2') := by unfold Hid; rw [hd]; simp
          have HK1' := Lib.hid hk1
          have fz := hA.free
          have hkN : (k : Int) + 1 < (N : Int) := by omega
          have hki : (k : Int) < (s : Int) - 1 := by omega
          clear hM hA hl hd hk1 hpk
          go_upto_region 11 with fail
          go_region
          all_goals
            go_wp2_with fail
            go_roundg (s - 1 - (k + 1))
            case measure => omega
            case rel => exact ⟨k + 1, d1 ++ [y], d2', by omega, by omega, rfl, by go_num, HD.out, by rw [List.length_append, ← Nat.add_assoc, HK1'.out]; rfl, HSW.out 0, ((HM2.out.setCell _ (fun _ => rfl) _).setCell _ (fun _ => rfl) _).drew⟩
        · obtain rfl : d2 = [] := List.eq_nil_of_length_eq_zero (by have := HSA.out; omega)
          have HD : Hid (r1 = d1) := by unfold Hid; rw [hd]; simp
          have HF : Hid (Arr wr g cap (p ++ (r1 ++ x0 :: r2) ++ q)) := by
            unfold Hid
            rw [HD.out]
            simpa using hA
          have hki : ¬ (k : Int) < (s : Int) - 1 := by omega
          clear hM hA hl hd hk1
          go_wp2
          go_end0
          exact ⟨rfl, _, HPE.out, HSO.out, HF.out, HM2.out⟩
end Go.Proofs.Ytblhbbgkkijkfaa
namespace Go.Proofs.Ytblhbbgkkijkfaa
open Go.RowKit Go.Maps
theorem cells_last {w : World} {g cap a m : Nat} {p l q : List Int} {x0 : Int} (hA : Arr w g cap (p ++ l ++ [x0] ++ q)) (ha : p.length = a) (hm : a + l.length = m) :
    w.cell? ⟨g, m, none⟩ = some (.int .i64 x0) ∧ ∀ h, a ≤ h → h < m → w.cell? ⟨g, h, none⟩ = some (.int .i64 (l.getD (h - a) 0)) := by
  constructor
  · have := hA.cell (p ++ l) x0 q (by simp); rwa [List.length_append, ha, hm] at this
  · intro h h1 h2
    have hl : h < (p ++ l ++ [x0] ++ q).length := by simp; omega
    rw [hA.at h hl, List.append_assoc, List.append_assoc, getD_right (by omega), ha, getD_left (by omega)]
set_option maxRecDepth 100000 in
set_option maxHeartbeats 4000000 in
theorem f150_last (g cap N G : Nat) (A : Option Addr) (c : Nat) (ws p l q : List Int) (x0 : Int) (a m b : Nat) (w : World) (hA : Arr w g cap (p ++ l ++ [x0] ++ q)) (hN : (p ++ l ++ [x0] ++ q).length = N)
    (ha : p.length = a) (hm : a + l.length = m) (hb : m + 1 = b) (h2l : a + 1 < m) (hK : KS w G A c ws) (hin0 : 0 ≤ x0 ∧ x0 < ws.length) (hin : InR ws l) (hs : l.Pairwise (Rl ws)) (hx : ∀ y ∈ l, y < x0) (hcap : N ≤ 1000000) :
    Calls Try.prog 150 #[.slice (some ⟨g, 0, none⟩) N cap, .int .i64 a, .int .i64 m, .int .i64 b, cmpV G] w (SymPost ws g cap p l [x0] q w) := by
  have hbN : b ≤ N := by rw [← hN]; simp; omega
  have hmb : m < b := by omega
  have hq1 : (((m : Int) - (a : Int)) == 1) = false := by simp; omega
  have hq2 : (((b : Int) - (m : Int)) == 1) = true := by simp; omega
  have HA := Lib.hid hA
  have HK := Lib.hid hK
  have HIN := Lib.hid hin
  have HSS := Lib.hid hs
  have HX := Lib.hid hx
  have HR : Hid (l.length = m - a ∧ p.length = a ∧ a + l.length = m) := by unfold Hid; omega
  clear hA hK hin hs hx hm hb ha hN
  unfold cmpV
  go_enter Try.func150, Try.ntmps150
  go_wp2_with fail
  go_loopw [14, 15] (fun i j wr => ∃ s t : Nat, a ≤ s ∧ s ≤ t ∧ t ≤ m ∧ i = .int .i64 (s : Nat) ∧ j = .int .i64 (t : Nat) ∧ (∀ k, k < s - a → ¬ kw ws x0 < kw ws (l.getD k 0)) ∧ (∀ k, t - a ≤ k → k < l.length → kw ws x0 < kw ws (l.getD k 0)) ∧ Mods Nope w wr) (fun i j _ => (intOf j - intOf i).toNat)
  case atStart => exact ⟨a, m, by omega, by omega, by omega, rfl, rfl, fun k hk => by omega, fun k h1 h2 => by have := HR.out; omega, Mods.refl _ _⟩
  case round =>
    obtain ⟨s, t, hms, hst, htb, rfl, rfl, h1, h2, hM⟩ := hrel
    have H1 := Lib.hid h1
    have H2 := Lib.hid h2
    have HM := Lib.hid hM
    have HA1 := Lib.hid (HA.out.nope hM)
    have HK1 := Lib.hid (HK.out.nope hM)
    clear h1 h2 hM
    by_cases hlt : s < t
    · obtain ⟨h, hh⟩ : ∃ h, h = (s + t) / 2 := ⟨_, rfl⟩
      have HE : Hid (((s : Int) + (t : Int)) / 2 = (h : Nat)) := by unfold Hid; omega
      have hs1 : s ≤ h := by omega
      have hs2 : h < t := by omega
      have hr := HR.out
      obtain ⟨c0, cc⟩ := cells_last HA1.out hr.2.1 hr.2.2
      have ch := cc h (by omega) (by omega)
      have hy := HIN.out.at (i := h - a) (by omega)
      have HL : Hid (∀ k, k ≤ h - a → kw ws (l.getD k 0) ≤ kw ws (l.getD (h - a) 0)) := fun k hk => Rl.mono HSS.out hk (by omega)
      have HL2 : Hid (∀ k, h - a ≤ k → k < l.length → kw ws (l.getD (h - a) 0) ≤ kw ws (l.getD k 0)) := fun k hk hkl => Rl.mono HSS.out hk hkl
      have hhN : (h : Int) < (N : Int) := by omega
      have haN : (m : Int) < (N : Int) := by omega
      clear hh hr cc
      generalize hy0 : l.getD (h - a) 0 = y at *
      clear hy0
      have r1 := kw_range HK.out.range x0
      have r2 := kw_range HK.out.range y
      have HQ := Lib.hid (fun n => HK1.out.drewN n)
      by_cases hkk : kw ws x0 < kw ws y
      · have hd : decide (kw ws x0 - kw ws y < 0) = true := by simp; omega
        have H2' : Hid (∀ k, h - a ≤ k → k < l.length → kw ws x0 < kw ws (l.getD k 0)) := fun k hk hkl => by have := HL2.out k hk hkl; omega
        go_upto_region 17 with fail
        rw [HE.out]
        go_quiet ((go_at_call 105; exact Calls.quiet_of (f105_calls G A c ws x0 y _ (HQ.out _) hin0 hy)))
        go_wp2_with fail
        go_roundw
        case rel => exact ⟨s, h, hms, hs1, by omega, rfl, rfl, H1.out, H2'.out, HM.out.drewN _⟩
        case measure => simp [intOf]; omega
      · have hd : decide (kw ws x0 - kw ws y < 0) = false := by simp; omega
        have H1' : Hid (∀ k, k < h + 1 - a → ¬ kw ws x0 < kw ws (l.getD k 0)) := fun k hk => by have := HL.out k (by omega); omega
        go_upto_region 17 with fail
        rw [HE.out]
        go_quiet ((go_at_call 105; exact Calls.quiet_of (f105_calls G A c ws x0 y _ (HQ.out _) hin0 hy)))
        go_wp2_with fail
        go_roundw
        case rel => exact ⟨h + 1, t, by omega, by omega, htb, by go_num, rfl, H1'.out, H2.out, HM.out.drewN _⟩
        case measure => simp [intOf]; omega
    · obtain rfl : s = t := by omega
      obtain ⟨l1, l2, hl12, hl1, hsort, hperm⟩ := last_split (k := s - a) HSS.out HX.out (by have := HR.out; omega) H1.out H2.out
      have HSO := Lib.hid hsort
      have HPE := Lib.hid hperm
      have hsa : s + l2.length = m := by have h := congrArg List.length hl12; rw [List.length_append] at h; have := HR.out; omega
      have HA2 : Hid (Arr wr g cap (p ++ l1 ++ l2 ++ x0 :: [] ++ q)) := by
        unfold Hid
        have := HA1.out
        rw [hl12] at this
        simpa using this
      have HPL : Hid ((p ++ l1).length = s) := by unfold Hid; rw [List.length_append, HR.out.2.1]; omega
      have HSA := Lib.hid hsa
      clear hl12 hsort hperm hl1 hsa
      obtain ⟨wo, rfl⟩ : ∃ wo : World, wo = wr := ⟨_, rfl⟩
      go_wp2_with fail
      go_loopg [17] (m - s) (fun gk i wr => ∃ (k : Nat) (d1 d2 : List Int), s ≤ k ∧ k ≤ m ∧ gk = k - s ∧ i = .int .i64 (k : Nat) ∧ l2 = d1 ++ d2 ∧ s + d1.length = k ∧ Arr wr g cap (p ++ l1 ++ d1 ++ x0 :: d2 ++ q) ∧ Mods (fun j => j = g) w wr)
      case atStart => exact ⟨m, l2, [], by omega, by omega, rfl, rfl, by simp, HSA.out, HA2.out, HM.out.any _⟩
      case round =>
        obtain ⟨k, d1, d2, hak, hks, rfl, rfl, hd, hk1, hA, hM⟩ := hrel
        have HM2 := Lib.hid hM
        have HAA := Lib.hid hA
        by_cases hlt2 : s < k
        · obtain ⟨d1', y, rfl⟩ : ∃ d1' y, d1 = d1' ++ [y] := by
            have hne : d1 ≠ [] := by rintro rfl; simp at hk1; omega
            exact ⟨d1.dropLast, d1.getLast hne, (List.dropLast_concat_getLast hne).symm⟩
          have hj1 : (p ++ l1 ++ d1').length = k - 1 := by rw [List.length_append, HPL.out]; rw [List.length_append, List.length_singleton] at hk1; omega
          have c1 : wr.cell? ⟨g, k, none⟩ = some (.int .i64 x0) := by
            have := hA.cell (p ++ l1 ++ (d1' ++ [y])) x0 (d2 ++ q) (by simp)
            rwa [show (p ++ l1 ++ (d1' ++ [y])).length = k by rw [List.length_append, HPL.out]; exact hk1] at this
          have c2 : wr.cell? ⟨g, k - 1, none⟩ = some (.int .i64 y) := by
            have := hA.cell (p ++ l1 ++ d1') y (x0 :: d2 ++ q) (by simp)
            rwa [hj1] at this
          have HSW : Hid (∀ n, Arr (((wr.drewN n).setCell ⟨g, k, none⟩ (.int .i64 y)).setCell ⟨g, k - 1, none⟩ (.int .i64 x0)) g cap (p ++ l1 ++ d1' ++ x0 :: (y :: d2) ++ q)) := by
            intro n
            have h := Arr.swap (p := p ++ l1 ++ d1') (q := d2 ++ q) (y := y) (x := x0) (w := wr.drewN n) (g := g) (cap := cap) (Arr.drewN (by simpa using hA) n)
            rw [hj1, show k - 1 + 1 = k by omega] at h
            simpa using h
          have HD : Hid (l2 = d1' ++ (y :: d2)) := by unfold Hid; rw [hd]; simp
          have HK1' : Hid (s + d1'.length = k - 1) := by unfold Hid; rw [List.length_append, List.length_singleton] at hk1; omega
          have fz := hA.free
          have hkN : (k : Int) < (N : Int) := by omega
          have hki : (s : Int) < (k : Int) := by omega
          have hne1 : k - 1 ≠ k := by omega
          have hg0 : (0 : Int) ≤ (k : Int) - 1 := by omega
          have hg1 : (k : Int) - 1 < (N : Int) := by omega
          clear hM hA hd hk1 hj1
          go_upto_region 23 with fail
          go_region
          all_goals
            go_wp2_with fail
            go_roundg (k - 1 - s)
            case measure => omega
            case rel => exact ⟨k - 1, d1', y :: d2, by omega, by omega, rfl, val_int (by omega), HD.out, HK1'.out, HSW.out 0, ((HM2.out.setCell _ (fun _ => rfl) _).setCell _ (fun _ => rfl) _).drew⟩
        · obtain rfl : d1 = [] := List.eq_nil_of_length_eq_zero (by omega)
          have HD : Hid (l2 = d2) := by unfold Hid; rw [hd]; simp
          have HF : Hid (Arr wr g cap (p ++ (l1 ++ x0 :: l2) ++ q)) := by
            unfold Hid
            rw [HD.out]
            simpa using hA
          clear hM hA hd hk1
          go_wp2
          go_end0
          exact ⟨rfl, _, HPE.out, HSO.out, HF.out, HM2.out⟩
end Go.Proofs.Ytblhbbgkkijkfaa
namespace Go.Proofs.Ytblhbbgkkijkfaa
open Go.RowKit Go.Maps
theorem cells_two {w : World} {g cap a m b : Nat} {p l r q : List Int} (hA : Arr w g cap (p ++ l ++ r ++ q)) (ha : p.length = a) (hm : a + l.length = m) (hb : m + r.length = b) :
    (∀ h, a ≤ h → h < m → w.cell? ⟨g, h, none⟩ = some (.int .i64 (l.getD (h - a) 0))) ∧ ∀ h, m ≤ h → h < b → w.cell? ⟨g, h, none⟩ = some (.int .i64 (r.getD (h - m) 0)) := by
  constructor
  · intro h h1 h2
    have hl : h < (p ++ l ++ r ++ q).length := by simp; omega
    rw [hA.at h hl, List.append_assoc, List.append_assoc, getD_right (by omega), ha, getD_left (by omega)]
  · intro h h1 h2
    have hl : h < (p ++ l ++ r ++ q).length := by simp; omega
    rw [hA.at h hl, List.append_assoc, getD_right (by simp; omega), show h - (p ++ l).length = h - m by simp; omega, getD_left (by omega)]
/-- What symMerge is asked for. -/
structure SymPre (g cap N G : Nat) (A : Option Addr) (c : Nat) (ws p l r q : List Int) (w : World) : Prop where
  arr : Arr w g cap (p ++ l ++ r ++ q)
  len : (p ++ l ++ r ++ q).length = N
  l0 : 0 < l.length
  r0 : 0 < r.length
  ks : KS w G A c ws
  inl : InR ws l
  inr : InR ws r
  sl : l.Pairwise (Rl ws)
  sr : r.Pairwise (Rl ws)
  cross : ∀ x ∈ l, ∀ y ∈ r, x < y
/-- What holds between the parts. -/
structure SymMid (g cap G : Nat) (A : Option Addr) (c : Nat) (ws p s1 l2 r2 q : List Int) (l1r1 : List Int) (w wx : World) : Prop where
  arr : Arr wx g cap (p ++ s1 ++ l2 ++ r2 ++ q)
  perm : s1.Perm l1r1
  sort : s1.Pairwise (Rl ws)
  mods : Mods (fun j => j = g) w wx
set_option maxRecDepth 100000 in
set_option maxHeartbeats 8000000 in
theorem f150_step (g cap N G : Nat) (A : Option Addr) (c : Nat) (ws : List Int) (hgG : g ≠ G) (hAg : ∀ ad, A = some ad → ad.block ≠ g) (hcap : N ≤ 1000000) (F : Nat)
    (IH : ∀ (p l r q : List Int) (ai mi bi : Int) (w : World), l.length + r.length ≤ F → SymPre g cap N G A c ws p l r q w → ai = p.length → mi = ai + l.length → bi = mi + r.length → Calls Try.prog 150 #[.slice (some ⟨g, 0, none⟩) N cap, .int .i64 ai, .int .i64 mi, .int .i64 bi, cmpV G] w (SymPost ws g cap p l r q w))
    (p l r q : List Int) (a m b : Nat) (w : World) (hF : l.length + r.length ≤ F + 1) (h : SymPre g cap N G A c ws p l r q w) (ha : p.length = a) (hm : a + l.length = m) (hb : m + r.length = b) (hl2 : 2 ≤ l.length) (hr2 : 2 ≤ r.length) :
    Calls Try.prog 150 #[.slice (some ⟨g, 0, none⟩) N cap, .int .i64 a, .int .i64 m, .int .i64 b, cmpV G] w (SymPost ws g cap p l r q w) := by
  have hbN : b ≤ N := by rw [← h.len]; simp; omega
  have ham : a + 1 < m := by omega
  have hmb : m + 1 < b := by omega
  have hq1 : (((m : Int) - (a : Int)) == 1) = false := by simp; omega
  have hq2 : (((b : Int) - (m : Int)) == 1) = false := by simp; omega
  have H := Lib.hid h
  have HIH := Lib.hid IH
  have HG := Lib.hid hgG
  have HAG := Lib.hid hAg
  have HR : Hid (p.length = a ∧ a + l.length = m ∧ m + r.length = b) := ⟨ha, hm, hb⟩
  have HF : Hid (b - a ≤ F + 1) := by unfold Hid; omega
  clear h IH hgG hAg ha hm hb hl2 hr2 hF
  obtain ⟨mid, hmid⟩ : ∃ mid, mid = (a + b) / 2 := ⟨_, rfl⟩
  have HMID := Lib.hid hmid
  have HMI : Hid (((a : Int) + (b : Int)) / 2 = (mid : Nat)) := by unfold Hid; omega
  have hm1 : a < mid := by omega
  have hm2 : mid < b := by omega
  have hm3 : 2 * mid ≤ a + b := by omega
  have hm4 : a + b ≤ 2 * mid + 1 := by omega
  clear hmid
  obtain ⟨s0, hs0⟩ : ∃ s0, s0 = if mid < m then mid + m - b else a := ⟨_, rfl⟩
  obtain ⟨t0, ht0⟩ : ∃ t0, t0 = if mid < m then mid else m := ⟨_, rfl⟩
  have HS0 := Lib.hid hs0
  have HT0 := Lib.hid ht0
  have hst : a ≤ s0 ∧ s0 ≤ t0 ∧ t0 ≤ m ∧ t0 ≤ mid ∧ mid + m ≤ s0 + b := by
    by_cases hc : mid < m
    · rw [if_pos hc] at hs0 ht0; omega
    · rw [if_neg hc] at hs0 ht0; omega
  obtain ⟨hst1, hst2, hst3, hst4, hst5⟩ := hst
  clear hs0 ht0
  unfold cmpV
  go_enter Try.func150, Try.ntmps150
  go_upto_if 140 with fail
  rw [HMI.out]
  go_cut [20, 21] (fun x y wx => x = .int .i64 (s0 : Nat) ∧ y = .int .i64 (t0 : Nat) ∧ wx = w)
  case first => as_aux_lemma =>
    by_cases hc : mid < m
    · have h1 := HS0.out
      have h2 := HT0.out
      rw [if_pos hc] at h1 h2
      have H1 := Lib.hid h1
      have H2 := Lib.hid h2
      clear h1 h2
      go_wp2_with fail
      go_meet
      exact ⟨val_int (by have := H1.out; omega), val_int (by rw [H2.out]), rfl⟩
    · have h1 := HS0.out
      have h2 := HT0.out
      rw [if_neg hc] at h1 h2
      have H1 := Lib.hid h1
      have H2 := Lib.hid h2
      clear h1 h2
      go_wp2_with fail
      go_meet
      exact ⟨val_int (by rw [H1.out]), val_int (by rw [H2.out]), rfl⟩
  case rest => as_aux_lemma =>
    obtain ⟨rfl, rfl, rfl⟩ := hcut
    obtain ⟨w0, rfl⟩ : ∃ w0 : World, w0 = wc := ⟨_, rfl⟩
    have HW0 := Lib.hid H.out.arr
    go_wp2_with fail
    go_loopw [20, 21] (fun i j wr => ∃ s t : Nat, s0 ≤ s ∧ s ≤ t ∧ t ≤ t0 ∧ i = .int .i64 (s : Nat) ∧ j = .int .i64 (t : Nat) ∧ (∀ k, s0 ≤ k → k < s → ¬ kw ws (r.getD (mid + m - 1 - k - m) 0) < kw ws (l.getD (k - a) 0)) ∧ (∀ k, t ≤ k → k < t0 → kw ws (r.getD (mid + m - 1 - k - m) 0) < kw ws (l.getD (k - a) 0)) ∧ Mods Nope w0 wr) (fun i j _ => (intOf j - intOf i).toNat)
    case atStart => exact ⟨s0, t0, by omega, hst2, by omega, rfl, rfl, fun k h1 h2 => by omega, fun k h1 h2 => by omega, Mods.refl _ _⟩
    case round =>
      obtain ⟨s, t, hms, hst, htb, rfl, rfl, h1, h2, hM⟩ := hrel
      have H1 := Lib.hid h1
      have H2 := Lib.hid h2
      have HM := Lib.hid hM
      have HA1 := Lib.hid (H.out.arr.nope hM)
      have HK1 := Lib.hid (H.out.ks.nope hM)
      clear h1 h2 hM
      by_cases hlt : s < t
      · as_aux_lemma =>
        obtain ⟨h, hh⟩ : ∃ h, h = (s + t) / 2 := ⟨_, rfl⟩
        have HE : Hid (((s : Int) + (t : Int)) / 2 = (h : Nat)) := by unfold Hid; omega
        have hs1 : s ≤ h := by omega
        have hs2 : h < t := by omega
        have hr := HR.out
        obtain ⟨cc1, cc2⟩ := cells_two HA1.out hr.1 hr.2.1 hr.2.2
        have c1 := cc1 h (by omega) (by omega)
        have c2 := cc2 (mid + m - 1 - h) (by omega) (by omega)
        have hy := H.out.inl.at (i := h - a) (by omega)
        have hz := H.out.inr.at (i := mid + m - 1 - h - m) (by omega)
        have HL : Hid (∀ k, s0 ≤ k → k ≤ h → kw ws (l.getD (k - a) 0) ≤ kw ws (l.getD (h - a) 0) ∧ kw ws (r.getD (mid + m - 1 - h - m) 0) ≤ kw ws (r.getD (mid + m - 1 - k - m) 0)) := fun k hk0 hk => ⟨Rl.mono H.out.sl (by omega) (by omega), Rl.mono H.out.sr (by omega) (by omega)⟩
        have HL2 : Hid (∀ k, h ≤ k → k < t0 → kw ws (l.getD (h - a) 0) ≤ kw ws (l.getD (k - a) 0) ∧ kw ws (r.getD (mid + m - 1 - k - m) 0) ≤ kw ws (r.getD (mid + m - 1 - h - m) 0)) := fun k hk hkl => ⟨Rl.mono H.out.sl (by omega) (by omega), Rl.mono H.out.sr (by omega) (by omega)⟩
        have hhN : (h : Int) < (N : Int) := by omega
        have haN : (mid : Int) + m - 1 - h < (N : Int) := by omega
        have haN0 : 0 ≤ (mid : Int) + m - 1 - h := by omega
        clear hh hr cc1 cc2
        generalize hy0 : l.getD (h - a) 0 = y at *
        generalize hz0 : r.getD (mid + m - 1 - h - m) 0 = z at *
        clear hy0 hz0
        have r1 := kw_range H.out.ks.range y
        have r2 := kw_range H.out.ks.range z
        have HQ := Lib.hid (fun n => HK1.out.drewN n)
        by_cases hkk : kw ws z < kw ws y
        · have hd : decide (kw ws z - kw ws y < 0) = true := by simp; omega
          have H2' : Hid (∀ k, h ≤ k → k < t0 → kw ws (r.getD (mid + m - 1 - k - m) 0) < kw ws (l.getD (k - a) 0)) := fun k hk hkl => by have := HL2.out k hk hkl; omega
          go_upto_region 35 with fail
          rw [HE.out]
          go_quiet ((go_at_call 105; exact Calls.quiet_of (f105_calls G A c ws z y _ (HQ.out _) hz hy)))
          go_wp2_with fail
          go_roundw
          case rel => exact ⟨s, h, hms, hs1, by omega, rfl, rfl, H1.out, H2'.out, HM.out.drewN _⟩
          case measure => simp [intOf]; omega
        · have hd : decide (kw ws z - kw ws y < 0) = false := by simp; omega
          have H1' : Hid (∀ k, s0 ≤ k → k < h + 1 → ¬ kw ws (r.getD (mid + m - 1 - k - m) 0) < kw ws (l.getD (k - a) 0)) := fun k hk0 hk => by have := HL.out k hk0 (by omega); omega
          go_upto_region 35 with fail
          rw [HE.out]
          go_quiet ((go_at_call 105; exact Calls.quiet_of (f105_calls G A c ws z y _ (HQ.out _) hz hy)))
          go_wp2_with fail
          go_roundw
          case rel => exact ⟨h + 1, t, by omega, by omega, htb, by go_num, rfl, H1'.out, H2.out, HM.out.drewN _⟩
          case measure => simp [intOf]; omega
      · obtain rfl : s = t := by omega
        have hr := HR.out
        obtain ⟨b1, b2, b3, b4, l1, l2, r1, r2, el, er, n1, n2, n3, n4, f1, f2⟩ := sym_split H.out.sl H.out.sr H.out.cross (by omega) (by omega) (by omega) (by omega) HMID.out HS0.out HT0.out hms htb H1.out H2.out
        obtain ⟨E, hE⟩ : ∃ E, E = mid + m - s := ⟨_, rfl⟩
        have HEE : Hid (((mid : Int) + (m : Int)) - (s : Int) = (E : Nat)) := by unfold Hid; omega
        rw [← hE] at n4 b4
        have e1 : E + s ≤ mid + m := by omega
        have e2 : mid + m ≤ E + s := by omega
        have HF1 := Lib.hid f1
        have HF2 := Lib.hid f2
        have HEL := Lib.hid el
        have HER := Lib.hid er
        have HN1 : Hid (l1.length = s - a ∧ l2.length = m - s ∧ r1.length = mid - s ∧ r2.length = b - E) := ⟨n1, n2, n3, n4⟩
        have HA0 : Hid (Arr wr g cap (p ++ l1 ++ l2 ++ r1 ++ (r2 ++ q))) := by
          unfold Hid
          have := HA1.out
          rw [el, er] at this
          simpa using this
        have HLN : Hid ((p ++ l1 ++ l2 ++ r1 ++ (r2 ++ q)).length = N) := by
          unfold Hid
          have := H.out.len
          rw [el, er] at this
          simpa using this
        clear hE f1 f2 el er n1 n2 n3 n4 hr H1 H2 HA1
        obtain ⟨w1, rfl⟩ : ∃ w1 : World, w1 = wr := ⟨_, rfl⟩
        go_upto_region 39 with fail
        rw [HEE.out]
        go_cut [185] (fun x wx => x = .bool (decide (s < m ∧ m < E)) ∧ wx = w1)
        case first => as_aux_lemma =>
          by_cases q1 : s < m
          · by_cases q2 : m < E
            · go_wp2_with fail
              go_meet
              exact ⟨by simp [q1, q2], rfl⟩
            · go_wp2_with fail
              go_meet
              exact ⟨by simp [q1, q2], rfl⟩
          · go_wp2_with fail
            go_meet
            exact ⟨by simp [q1], rfl⟩
        case rest => as_aux_lemma =>
          obtain ⟨rfl, rfl⟩ := hcut
          obtain ⟨w1, rfl⟩ : ∃ w1 : World, w1 = wc := ⟨_, rfl⟩
          go_upto_if 185 with fail
          go_cut [] (fun wx => Arr wx g cap (p ++ l1 ++ r1 ++ l2 ++ (r2 ++ q)) ∧ Mods (fun j => j = g) w0 wx)
          case first => as_aux_lemma =>
            by_cases hP : s < m ∧ m < E
            · have hd : decide (s < m ∧ m < E) = true := decide_eq_true hP
              have hn := HN1.out
              have hr := HR.out
              have HC := Lib.hid (f153_calls g cap N (cmpV G) (p ++ l1) l2 r1 (r2 ++ q) s m E w1 HA0.out HLN.out (by rw [List.length_append]; omega) (by rw [List.length_append]; omega) (by rw [List.length_append]; omega) (by intro h; rw [h] at hn; simp at hn; omega) (by intro h; rw [h] at hn; simp at hn; omega))
              clear hn hr
              unfold cmpV at HC
              go_wp2_with fail
              refine HC.out.mono ?_; rintro e w2 ⟨rfl, hA2, hm2⟩
              have HA2 := Lib.hid hA2
              have HM2 := Lib.hid ((HM.out.any _).trans hm2)
              clear hA2 hm2
              go_wp2_with fail
              go_meet
              exact ⟨HA2.out, HM2.out⟩
            · have hd : decide (s < m ∧ m < E) = false := decide_eq_false hP
              have HA2 : Hid (Arr w1 g cap (p ++ l1 ++ r1 ++ l2 ++ (r2 ++ q))) := by
                have hn := HN1.out
                have h := HA0.out
                unfold Hid
                by_cases q1 : s < m
                · obtain rfl : r1 = [] := List.eq_nil_of_length_eq_zero (by omega)
                  simpa using h
                · obtain rfl : l2 = [] := List.eq_nil_of_length_eq_zero (by omega)
                  simpa using h
              go_wp2_with fail
              go_meet
              exact ⟨HA2.out, HM.out.any _⟩
          case rest => as_aux_lemma =>
            obtain ⟨hA2, hM2⟩ := hcut
            have HA2 := Lib.hid hA2
            have HM2 := Lib.hid hM2
            clear hA2 hM2
            obtain ⟨w2, rfl⟩ : ∃ w2 : World, w2 = wc := ⟨_, rfl⟩
            go_upto_region 41 with fail
            go_cut [199] (fun x wx => x = .bool (decide (a < s ∧ s < mid)) ∧ wx = w2)
            case first => as_aux_lemma =>
              by_cases q1 : a < s
              · by_cases q2 : s < mid
                · go_wp2_with fail
                  go_meet
                  exact ⟨by simp [q1, q2], rfl⟩
                · go_wp2_with fail
                  go_meet
                  exact ⟨by simp [q1, q2], rfl⟩
              · go_wp2_with fail
                go_meet
                exact ⟨by simp [q1], rfl⟩
            case rest => as_aux_lemma =>
              obtain ⟨rfl, rfl⟩ := hcut
              obtain ⟨w2, rfl⟩ : ∃ w2 : World, w2 = wc := ⟨_, rfl⟩
              go_upto_if 199 with fail
              go_cut [] (fun wx => ∃ s1, s1.Perm (l1 ++ r1) ∧ s1.Pairwise (Rl ws) ∧ Arr wx g cap (p ++ s1 ++ l2 ++ r2 ++ q) ∧ Mods (fun j => j = g) w0 wx)
              case first => as_aux_lemma =>
                have hsl := H.out.sl
                have hsr := H.out.sr
                have hin := H.out.inl
                have hir := H.out.inr
                have hcr := H.out.cross
                rw [HEL.out] at hsl hin hcr
                rw [HER.out] at hsr hir hcr
                by_cases hP : a < s ∧ s < mid
                · have hd : decide (a < s ∧ s < mid) = true := decide_eq_true hP
                  have hn := HN1.out
                  have hr := HR.out
                  have hpre : SymPre g cap N G A c ws p l1 r1 (l2 ++ (r2 ++ q)) w2 := by
                    refine ⟨by simpa using HA2.out, by have := HLN.out; simp at this ⊢; omega, by omega, by omega, (H.out.ks.mods HM2.out (fun h => HG.out h.symm) HAG.out), fun x hx => hin x (List.mem_append_left _ hx), fun x hx => hir x (List.mem_append_left _ hx), (List.pairwise_append.1 hsl).1, (List.pairwise_append.1 hsr).1, fun x hx y hy => hcr x (List.mem_append_left _ hx) y (List.mem_append_left _ hy)⟩
                  have HC := Lib.hid (HIH.out p l1 r1 (l2 ++ (r2 ++ q)) a s mid w2 (by have := HF.out; omega) hpre (by omega) (by omega) (by omega))
                  clear hn hr hpre hsl hsr hin hir hcr
                  unfold cmpV at HC
                  go_wp2_with fail
                  refine HC.out.mono ?_; rintro e w3 ⟨rfl, s1, hp1, hs1, hA3, hm3⟩
                  have HA3 : Hid (Arr w3 g cap (p ++ s1 ++ l2 ++ r2 ++ q)) := by unfold Hid; simpa using hA3
                  have HM3 := Lib.hid (HM2.out.trans hm3)
                  have HP1 := Lib.hid hp1
                  have HS1 := Lib.hid hs1
                  clear hA3 hm3 hp1 hs1
                  go_wp2_with fail
                  go_meet
                  exact ⟨s1, HP1.out, HS1.out, HA3.out, HM3.out⟩
                · have hd : decide (a < s ∧ s < mid) = false := decide_eq_false hP
                  have HX : Hid ((l1 ++ r1).Pairwise (Rl ws)) := by
                    have hn := HN1.out
                    unfold Hid
                    by_cases q1 : a < s
                    · obtain rfl : r1 = [] := List.eq_nil_of_length_eq_zero (by omega)
                      simpa using (List.pairwise_append.1 hsl).1
                    · obtain rfl : l1 = [] := List.eq_nil_of_length_eq_zero (by omega)
                      simpa using (List.pairwise_append.1 hsr).1
                  have HA3 : Hid (Arr w2 g cap (p ++ (l1 ++ r1) ++ l2 ++ r2 ++ q)) := by unfold Hid; simpa using HA2.out
                  clear hsl hsr hin hir hcr
                  go_wp2_with fail
                  go_meet
                  exact ⟨l1 ++ r1, List.Perm.refl _, HX.out, HA3.out, HM2.out⟩
              case rest => as_aux_lemma =>
                obtain ⟨s1, hp1, hs1, hA3, hM3⟩ := hcut
                have HA3 := Lib.hid hA3
                have HM3 := Lib.hid hM3
                have HP1 := Lib.hid hp1
                have HS1 := Lib.hid hs1
                have hl1 := hp1.length_eq
                rw [List.length_append] at hl1
                have HL1 : Hid (s1.length = mid - a) := by have := HN1.out; unfold Hid; omega
                clear hA3 hM3 hp1 hs1 hl1
                obtain ⟨w3, rfl⟩ : ∃ w3 : World, w3 = wc := ⟨_, rfl⟩
                have hsl := H.out.sl
                have hsr := H.out.sr
                have hin := H.out.inl
                have hir := H.out.inr
                have hcr := H.out.cross
                rw [HEL.out] at hsl hin hcr
                rw [HER.out] at hsr hir hcr
                have HSL := Lib.hid hsl
                have HSR := Lib.hid hsr
                go_upto_region 43 with fail
                by_cases q1 : mid < E
                · by_cases q2 : E < b
                  · have hn := HN1.out
                    have hr := HR.out
                    have hpre : SymPre g cap N G A c ws (p ++ s1) l2 r2 q w3 := by
                      refine ⟨by simpa using HA3.out, by have := HLN.out; have := HL1.out; simp at *; omega, by omega, by omega, (H.out.ks.mods HM3.out (fun h => HG.out h.symm) HAG.out), fun x hx => hin x (List.mem_append_right _ hx), fun x hx => hir x (List.mem_append_right _ hx), (List.pairwise_append.1 hsl).2.1, (List.pairwise_append.1 hsr).2.1, fun x hx y hy => hcr x (List.mem_append_right _ hx) y (List.mem_append_right _ hy)⟩
                    have HC := Lib.hid (HIH.out (p ++ s1) l2 r2 q mid E b w3 (by have := HF.out; omega) hpre (by have := HL1.out; simp; omega) (by omega) (by omega))
                    clear hn hr hpre hsl hsr hin hir hcr
                    unfold cmpV at HC
                    go_wp2_with fail
                    refine HC.out.mono ?_; rintro e w4 ⟨rfl, s2, hp2, hs2, hA4, hm4⟩
                    have HJ := Lib.hid (sym_join HSL.out HSR.out HF1.out HF2.out HP1.out hp2 HS1.out hs2)
                    have HA4 : Hid (Arr w4 g cap (p ++ (s1 ++ s2) ++ q)) := by unfold Hid; simpa using hA4
                    have HM4 := Lib.hid (HM3.out.trans hm4)
                    clear hA4 hm4 hp2 hs2
                    go_wp2
                    go_end0
                    exact ⟨rfl, s1 ++ s2, by rw [HEL.out, HER.out]; exact HJ.out.2, HJ.out.1, HA4.out, HM4.out⟩
                  · obtain rfl : r2 = [] := List.eq_nil_of_length_eq_zero (by have := HN1.out; omega)
                    have HJ := Lib.hid (sym_join (s2 := l2) HSL.out HSR.out HF1.out HF2.out HP1.out (by simp) HS1.out (List.pairwise_append.1 hsl).2.1)
                    have HA4 : Hid (Arr w3 g cap (p ++ (s1 ++ l2) ++ q)) := by unfold Hid; simpa using HA3.out
                    clear hsl hsr hin hir hcr
                    go_wp2
                    go_end0
                    exact ⟨rfl, s1 ++ l2, by rw [HEL.out, HER.out]; exact HJ.out.2, HJ.out.1, HA4.out, HM3.out⟩
                · obtain rfl : l2 = [] := List.eq_nil_of_length_eq_zero (by have := HN1.out; omega)
                  have HJ := Lib.hid (sym_join (s2 := r2) HSL.out HSR.out HF1.out HF2.out HP1.out (by simp) HS1.out (List.pairwise_append.1 hsr).2.1)
                  have HA4 : Hid (Arr w3 g cap (p ++ (s1 ++ r2) ++ q)) := by unfold Hid; simpa using HA3.out
                  clear hsl hsr hin hir hcr
                  go_wp2
                  go_end0
                  exact ⟨rfl, s1 ++ r2, by rw [HEL.out, HER.out]; exact HJ.out.2, HJ.out.1, HA4.out, HM3.out⟩
end Go.Proofs.Ytblhbbgkkijkfaa
namespace Go.Proofs.Ytblhbbgkkijkfaa
open Go.RowKit Go.Maps
theorem f150_all (g cap N G : Nat) (A : Option Addr) (c : Nat) (ws : List Int) (hgG : g ≠ G) (hAg : ∀ ad, A = some ad → ad.block ≠ g) (hcap : N ≤ 1000000) : ∀ (F : Nat)
    (p l r q : List Int) (ai mi bi : Int) (w : World), l.length + r.length ≤ F → SymPre g cap N G A c ws p l r q w → ai = p.length → mi = ai + l.length → bi = mi + r.length → Calls Try.prog 150 #[.slice (some ⟨g, 0, none⟩) N cap, .int .i64 ai, .int .i64 mi, .int .i64 bi, cmpV G] w (SymPost ws g cap p l r q w) := by
  intro F
  induction F with
  | zero => intro p l r q ai mi bi w hF h _ _ _; have := h.l0; omega
  | succ F ih =>
    intro p l r q ai mi bi w hF h ha hm hb
    obtain rfl : mi = ((p.length + l.length : Nat) : Int) := by omega
    obtain rfl : bi = ((p.length + l.length + r.length : Nat) : Int) := by omega
    subst ha
    have h1 := h.l0
    have h2 := h.r0
    by_cases hl : l.length = 1
    · obtain ⟨x0, rfl⟩ := List.length_eq_one_iff.1 hl
      exact f150_one g cap N G A c ws p r q x0 _ _ _ w h.arr h.len rfl rfl rfl h.ks (h.inl x0 (by simp)) h.inr h.sr (fun y hy => h.cross x0 (by simp) y hy) hcap
    · by_cases hr : r.length = 1
      · obtain ⟨x0, rfl⟩ := List.length_eq_one_iff.1 hr
        exact f150_last g cap N G A c ws p l q x0 _ _ _ w h.arr h.len rfl rfl rfl (by omega) h.ks (h.inr x0 (by simp)) h.inl h.sl (fun y hy => h.cross y hy x0 (by simp)) hcap
      · exact f150_step g cap N G A c ws hgG hAg hcap F ih p l r q _ _ _ w hF h rfl rfl rfl (by omega) (by omega)
theorem f150_calls (g cap N G : Nat) (A : Option Addr) (c : Nat) (ws : List Int) (hgG : g ≠ G) (hAg : ∀ ad, A = some ad → ad.block ≠ g) (hcap : N ≤ 1000000)
    (p l r q : List Int) (ai mi bi : Int) (w : World) (h : SymPre g cap N G A c ws p l r q w) (ha : ai = p.length) (hm : mi = ai + l.length) (hb : bi = mi + r.length) :
    Calls Try.prog 150 #[.slice (some ⟨g, 0, none⟩) N cap, .int .i64 ai, .int .i64 mi, .int .i64 bi, cmpV G] w (SymPost ws g cap p l r q w) :=
  f150_all g cap N G A c ws hgG hAg hcap _ p l r q ai mi bi w (Nat.le_refl _) h ha hm hb
/-! ### Chunks -/
/-- A list in chunks of so many, each in order, each below what follows. -/
inductive Ch (ws : List Int) (B : Nat) : List Int → Prop where
  | last (xs : List Int) : xs.length ≤ B → xs.Pairwise (Rl ws) → Ch ws B xs
  | cons (c xs : List Int) : c.length = B → c.Pairwise (Rl ws) → (∀ x ∈ c, ∀ y ∈ xs, x < y) → Ch ws B xs → Ch ws B (c ++ xs)
theorem Ch.small {ws : List Int} {B : Nat} {xs : List Int} (h : Ch ws B xs) (hl : xs.length ≤ B) : xs.Pairwise (Rl ws) := by
  cases h with
  | last _ h1 h2 => exact h2
  | cons c xs h1 h2 h3 h4 =>
    rw [List.length_append] at hl
    obtain rfl : xs = [] := List.eq_nil_of_length_eq_zero (by omega)
    simpa using h2
/-- A first chunk, if there is more than one. -/
theorem Ch.take {ws : List Int} {B : Nat} {xs : List Int} (h : Ch ws B xs) (hl : B ≤ xs.length) : ∃ c t, xs = c ++ t ∧ c.length = B ∧ c.Pairwise (Rl ws) ∧ (∀ x ∈ c, ∀ y ∈ t, x < y) ∧ Ch ws B t := by
  cases h with
  | last _ h1 h2 => exact ⟨xs, [], by simp, by omega, h2, fun _ _ y hy => (by simp at hy), .last [] (by simp) .nil⟩
  | cons c xs h1 h2 h3 h4 => exact ⟨c, xs, rfl, h1, h2, h3, h4⟩
/-- What the passes hold: what is done goes with whatever the rest becomes. -/
def Goes (ws : List Int) (B : Nat) (done todo : List Int) : Prop := ∀ t, Ch ws B t → t.Perm todo → Ch ws B (done ++ t)
theorem Goes.start (ws : List Int) (B : Nat) (xs : List Int) : Goes ws B [] xs := fun _ ht _ => ht
theorem Goes.step {ws : List Int} {B : Nat} {done c todo s : List Int} (h : Goes ws B done (c ++ todo)) (hs : s.Perm c) (hl : s.length = B) (ho : s.Pairwise (Rl ws)) (hx : ∀ x ∈ c, ∀ y ∈ todo, x < y) : Goes ws B (done ++ s) todo := by
  intro t ht hp
  rw [List.append_assoc]
  refine h (s ++ t) (.cons s t hl ho (fun x hx' y hy => hx x (hs.subset hx') y (hp.subset hy)) ht) (List.Perm.append hs hp)
end Go.Proofs.Ytblhbbgkkijkfaa
namespace Go.Proofs.Ytblhbbgkkijkfaa
open Go.RowKit Go.Maps
def SortPost (ws : List Int) (g cap : Nat) (xs : List Int) (w : World) (e : Ending) (w' : World) : Prop :=
  e = .returned (.tuple #[]) ∧ ∃ s, s.Perm xs ∧ s.Pairwise (Rl ws) ∧ Arr w' g cap s ∧ Mods (fun j => j = g) w w'
theorem InR.perm {ws xs ys : List Int} (h : InR ws xs) (hp : ys.Perm xs) : InR ws ys := fun x hx => h x (hp.subset hx)
set_option maxRecDepth 100000 in
set_option maxHeartbeats 4000000 in
theorem f137_calls (g cap N G : Nat) (A : Option Addr) (c : Nat) (ws xs : List Int) (w : World) (hA : Arr w g cap xs) (hN : xs.length = N) (hK : KS w G A c ws) (hgG : g ≠ G) (hAg : ∀ ad, A = some ad → ad.block ≠ g) (hin : InR ws xs) (hs : xs.Pairwise (· < ·)) (hcap : N ≤ 1000000) :
    Calls Try.prog 137 #[.slice (some ⟨g, 0, none⟩) N cap, .int .i64 N, cmpV G] w (SortPost ws g cap xs w) := by
  have HA := Lib.hid hA
  have HK := Lib.hid hK
  have HN := Lib.hid hN
  have HG := Lib.hid hgG
  have HAG := Lib.hid hAg
  have HIN := Lib.hid hin
  have HSS := Lib.hid hs
  clear hA hK hN hgG hAg hin hs
  unfold cmpV
  go_enter Try.func137, Try.ntmps137
  go_wp2_with fail
  go_loopg [7, 8] (N + 1) (fun gk i j wr => ∃ (a : Nat) (done todo : List Int), a ≤ N ∧ gk = N + 1 - a ∧ i = .int .i64 (a : Nat) ∧ j = .int .i64 ((a + 20 : Nat) : Int) ∧ done.length = a ∧ (done ++ todo).length = N ∧ Arr wr g cap (done ++ todo) ∧ Goes ws 20 done todo ∧ todo.Pairwise (· < ·) ∧ (done ++ todo).Perm xs ∧ Mods (fun j => j = g) w wr)
  case atStart => exact ⟨0, [], xs, by omega, by omega, rfl, rfl, rfl, HN.out, HA.out, Goes.start _ _ _, HSS.out, List.Perm.refl _, Mods.refl _ _⟩
  case round =>
    obtain ⟨a, done, todo, haN, rfl, rfl, rfl, hda, hl, hA, hgo, hpw, hpe, hM⟩ := hrel
    have HA1 := Lib.hid hA
    have HGO := Lib.hid hgo
    have HPW := Lib.hid hpw
    have HPE := Lib.hid hpe
    have HM := Lib.hid hM
    have HDA := Lib.hid hda
    have HL := Lib.hid hl
    have HI1 := Lib.hid (HIN.out.perm hpe)
    have HK1 := Lib.hid (HK.out.mods hM (fun h => HG.out h.symm) HAG.out)
    clear hA hgo hpw hpe hM
    by_cases hlt : a + 20 ≤ N
    · obtain ⟨e, h1, h2⟩ := take_drop_len (l := todo) (k := 20) rfl (by rw [List.length_append] at hl; omega)
      generalize todo.take 20 = ch at e h1
      generalize todo.drop 20 = rest at e h2
      subst e
      have hpp := List.pairwise_append.1 HPW.out
      have HC := Lib.hid (f149_calls g cap N G A c ws done ch rest a (a + 20) wr (by have := HA1.out; simpa using this) (by have := HL.out; simpa using this) hda (by omega) HK1.out HG.out HAG.out (fun x hx => HI1.out x (by simp [hx])) hpp.1 hcap)
      have HPP := Lib.hid hpp
      have HCH := Lib.hid h1
      have hai : (a : Int) + 20 ≤ (N : Int) := by omega
      clear hda hl h1 h2 hpp
      unfold cmpV at HC
      go_wp2_with fail
      refine HC.out.mono ?_; rintro e w1 ⟨rfl, s', hp1, hs1, hA2, hm2⟩
      have HGO2 := Lib.hid (HGO.out.step hp1 (by rw [hp1.length_eq]; exact HCH.out) hs1 HPP.out.2.2)
      have HA2 : Hid (Arr w1 g cap (done ++ s' ++ rest)) := hA2
      have HM2 := Lib.hid (HM.out.trans hm2)
      have HPE2 : Hid ((done ++ s' ++ rest).Perm xs) := by
        refine List.Perm.trans ?_ HPE.out
        rw [List.append_assoc]
        exact List.Perm.append_left _ (List.Perm.append_right _ hp1)
      have HL2 : Hid ((done ++ s').length = a + 20 ∧ (done ++ s' ++ rest).length = N) := by
        have h1 := hp1.length_eq
        have h2 := HL.out
        have h3 := HDA.out
        have h4 := HCH.out
        unfold Hid
        simp at h2 ⊢
        omega
      clear hp1 hs1 hA2 hm2
      go_wp2_with fail
      go_roundg (N + 1 - (a + 20))
      case measure => omega
      case rel => exact ⟨a + 20, done ++ s', rest, hlt, rfl, val_int (by push_cast; rfl), val_int (by push_cast; omega), HL2.out.1, HL2.out.2, HA2.out, HGO2.out, HPP.out.2.1, HPE2.out, HM2.out⟩
    · have HC := Lib.hid (f149_calls g cap N G A c ws done todo [] a N wr (by simpa using HA1.out) (by simpa using HL.out) hda (by rw [List.length_append] at hl; omega) HK1.out HG.out HAG.out (fun x hx => HI1.out x (by simp [hx])) HPW.out hcap)
      have hai : ¬ (a : Int) + 20 ≤ (N : Int) := by omega
      have HT20 : Hid (todo.length ≤ 20) := by unfold Hid; rw [List.length_append] at hl; omega
      clear hda hl
      unfold cmpV at HC
      go_wp2_with fail
      refine HC.out.mono ?_; rintro e w1 ⟨rfl, s', hp1, hs1, hA2, hm2⟩
      have HA2 : Hid (Arr w1 g cap (done ++ s')) := by unfold Hid; simpa using hA2
      have HM2 := Lib.hid (HM.out.trans hm2)
      have HPE2 : Hid ((done ++ s').Perm xs) := List.Perm.trans (List.Perm.append_left _ hp1) HPE.out
      have HCH : Hid (Ch ws 20 (done ++ s')) := HGO.out s' (.last s' (by rw [hp1.length_eq]; exact HT20.out) hs1) hp1
      clear hp1 hs1 hA2 hm2 HA1 HGO HPW HPE HM HK1 HI1 HC HDA HL
      generalize done ++ s' = cur at HA2 HPE2 HCH
      go_wp2_with fail
      go_loopg [6] (N - 20) (fun gk i wr => ∃ (B : Nat) (cur : List Int), 0 < B ∧ B ≤ 20 + 2 * N ∧ gk = N - B ∧ i = .int .i64 (B : Nat) ∧ Ch ws B cur ∧ cur.Perm xs ∧ Arr wr g cap cur ∧ Mods (fun j => j = g) w wr)
      case atStart => exact ⟨20, cur, by omega, by omega, rfl, rfl, HCH.out, HPE2.out, HA2.out, HM2.out⟩
      case round =>
        obtain ⟨B, cur, hB0, hBN, rfl, rfl, hch, hpe, hA, hM⟩ := hrel
        have HCH := Lib.hid hch
        have HPE := Lib.hid hpe
        have HA3 := Lib.hid hA
        have HM3 := Lib.hid hM
        clear hch hpe hA hM
        by_cases hlt : B < N
        · obtain ⟨wo, rfl⟩ : ∃ wo : World, wo = wr := ⟨_, rfl⟩
          go_wp2_with fail
          go_loopg [7, 8] (N + 1) (fun gj i j wr => ∃ (a : Nat) (done todo : List Int), a ≤ N ∧ gj = N + 1 - a ∧ i = .int .i64 (a : Nat) ∧ j = .int .i64 ((a + 2 * B : Nat) : Int) ∧ done.length = a ∧ (done ++ todo).length = N ∧ Arr wr g cap (done ++ todo) ∧ Goes ws (2 * B) done todo ∧ Ch ws B todo ∧ (done ++ todo).Perm xs ∧ Mods (fun j => j = g) w wr)
          case atStart => exact ⟨0, [], cur, by omega, by omega, rfl, val_int (by push_cast; omega), rfl, by rw [List.nil_append, HPE.out.length_eq]; exact HN.out, HA3.out, Goes.start _ _ _, HCH.out, HPE.out, HM3.out⟩
          case round =>
            obtain ⟨a, done, todo, haN, rfl, rfl, rfl, hda, hl, hA, hgo, hch, hpe, hM⟩ := hrel
            have HA4 := Lib.hid hA
            have HGO := Lib.hid hgo
            have HCT := Lib.hid hch
            have HPE4 := Lib.hid hpe
            have HM4 := Lib.hid hM
            have HDA := Lib.hid hda
            have HL := Lib.hid hl
            have HI1 := Lib.hid (HIN.out.perm hpe)
            have HK1 := Lib.hid (HK.out.mods hM (fun h => HG.out h.symm) HAG.out)
            clear hA hgo hch hpe hM
            by_cases hlt2 : a + 2 * B ≤ N
            · rw [List.length_append] at hl
              obtain ⟨l, t1, e1, hl1, hls, hlx, hct⟩ := HCT.out.take (by omega)
              obtain ⟨r, rest, e2, hr1, hrs, hrx, hcr⟩ := hct.take (by rw [e1, List.length_append] at hl; omega)
              subst e2
              subst e1
              have hpre : SymPre g cap N G A c ws done l r rest wr := by
                refine ⟨by simpa using HA4.out, by simpa using HL.out, by omega, by omega, HK1.out, fun x hx => HI1.out x (by simp [hx]), fun x hx => HI1.out x (by simp [hx]), hls, hrs, fun x hx y hy => hlx x hx y (by simp [hy])⟩
              have HC := Lib.hid (f150_calls g cap N G A c ws HG.out HAG.out hcap done l r rest a (a + B) (a + 2 * B : Nat) wr hpre (by omega) (by omega) (by push_cast; omega))
              have HX : Hid ((∀ x ∈ l ++ r, ∀ y ∈ rest, x < y) ∧ (l ++ r).length = 2 * B ∧ Ch ws B rest) := by
                refine ⟨fun x hx y hy => ?_, by rw [List.length_append]; omega, hcr⟩
                rcases List.mem_append.1 hx with hx | hx
                · exact hlx x hx y (by simp [hy])
                · exact hrx x hx y hy
              have hai : (a : Int) + 2 * (B : Int) ≤ (N : Int) := by omega
              clear hda hl hpre hl1 hls hlx hct hr1 hrs hrx hcr
              unfold cmpV at HC
              go_wp2_with fail
              refine HC.out.mono ?_; rintro e w1 ⟨rfl, s', hp1, hs1, hA2, hm2⟩
              have HGO2 := Lib.hid (Goes.step (c := l ++ r) (todo := rest) (by have := HGO.out; simpa using this) hp1 (by rw [hp1.length_eq]; exact HX.out.2.1) hs1 HX.out.1)
              have HA5 := Lib.hid hA2
              have HM5 := Lib.hid (HM4.out.trans hm2)
              have HPE5 : Hid ((done ++ s' ++ rest).Perm xs) := by
                refine List.Perm.trans ?_ HPE4.out
                rw [List.append_assoc, ← List.append_assoc l]
                exact List.Perm.append_left _ (List.Perm.append_right _ hp1)
              have HL5 : Hid ((done ++ s').length = a + 2 * B ∧ (done ++ s' ++ rest).length = N) := by
                have h1 := hp1.length_eq
                have h2 := HL.out
                have h3 := HDA.out
                have h4 := HX.out.2.1
                unfold Hid
                simp at h1 h2 h4 ⊢
                omega
              clear hp1 hs1 hA2 hm2
              go_wp2_with fail
              go_roundg (N + 1 - (a + 2 * B))
              case measure => omega
              case rel => exact ⟨a + 2 * B, done ++ s', rest, hlt2, rfl, rfl, val_int (by push_cast; omega), HL5.out.1, HL5.out.2, HA5.out, HGO2.out, HX.out.2.2, HPE5.out, HM5.out⟩
            · have hai : ¬ (a : Int) + 2 * (B : Int) ≤ (N : Int) := by omega
              rw [List.length_append] at hl
              by_cases hm : a + B < N
              · obtain ⟨l, r, e1, hl1, hls, hlx, hct⟩ := HCT.out.take (by omega)
                subst e1
                rw [List.length_append] at hl
                have hrs := hct.small (by omega)
                have hpre : SymPre g cap N G A c ws done l r [] wr := by
                  refine ⟨by simpa using HA4.out, by simpa using HL.out, by omega, by omega, HK1.out, fun x hx => HI1.out x (by simp [hx]), fun x hx => HI1.out x (by simp [hx]), hls, hrs, hlx⟩
                have HC := Lib.hid (f150_calls g cap N G A c ws HG.out HAG.out hcap done l r [] a (a + B) N wr hpre (by omega) (by omega) (by omega))
                have HLR : Hid ((l ++ r).length ≤ 2 * B) := by unfold Hid; rw [List.length_append]; omega
                have hmi : (a : Int) + (B : Int) < (N : Int) := by omega
                clear hda hl hpre hl1 hls hlx hct hrs
                unfold cmpV at HC
                go_wp2_with fail
                refine HC.out.mono ?_; rintro e w1 ⟨rfl, s', hp1, hs1, hA2, hm2⟩
                have HA5 : Hid (Arr w1 g cap (done ++ s')) := by unfold Hid; simpa using hA2
                have HM5 := Lib.hid (HM4.out.trans hm2)
                have HPE5 : Hid ((done ++ s').Perm xs) := List.Perm.trans (List.Perm.append_left _ hp1) HPE4.out
                have HCH5 : Hid (Ch ws (2 * B) (done ++ s')) := HGO.out s' (.last s' (by rw [hp1.length_eq]; exact HLR.out) hs1) hp1
                clear hp1 hs1 hA2 hm2
                go_wp2_with fail
                go_roundg (N - 2 * B)
                case measure => omega
                case rel => exact ⟨2 * B, done ++ s', by omega, by omega, rfl, val_int (by push_cast; omega), HCH5.out, HPE5.out, HA5.out, HM5.out⟩
              · have hmi : ¬ (a : Int) + (B : Int) < (N : Int) := by omega
                have HCH5 : Hid (Ch ws (2 * B) (done ++ todo)) := HGO.out todo (.last todo (by omega) (HCT.out.small (by omega))) (List.Perm.refl _)
                clear hda hl
                go_wp2_with fail
                go_roundg (N - 2 * B)
                case measure => omega
                case rel => exact ⟨2 * B, done ++ todo, by omega, by omega, rfl, val_int (by push_cast; omega), HCH5.out, HPE4.out, HA4.out, HM4.out⟩
        · have HF := Lib.hid (HCH.out.small (by rw [HPE.out.length_eq, HN.out]; omega))
          go_wp2
          go_end0
          exact ⟨rfl, cur, HPE.out, HF.out, HA3.out, HM3.out⟩
set_option maxRecDepth 100000 in
theorem f104_calls (g cap N G : Nat) (A : Option Addr) (c : Nat) (ws xs : List Int) (w : World) (hA : Arr w g cap xs) (hN : xs.length = N) (hK : KS w G A c ws) (hgG : g ≠ G) (hAg : ∀ ad, A = some ad → ad.block ≠ g) (hin : InR ws xs) (hs : xs.Pairwise (· < ·)) (hcap : N ≤ 1000000) :
    Calls Try.prog 104 #[.slice (some ⟨g, 0, none⟩) N cap, cmpV G] w (SortPost ws g cap xs w) := by
  have HC := Lib.hid (f137_calls g cap N G A c ws xs w hA hN hK hgG hAg hin hs hcap)
  clear hA hN hK hgG hAg hin hs
  unfold cmpV at HC ⊢
  go_enter Try.func104, Try.ntmps104
  go_wp2_with fail
  refine HC.out.mono ?_; rintro e w1 ⟨rfl, s', hp1, hs1, hA2, hm2⟩
  have H := Lib.hid (And.intro hp1 (And.intro hs1 (And.intro hA2 hm2)))
  clear hp1 hs1 hA2 hm2
  go_wp2
  go_end0
  exact ⟨rfl, s', H.out.1, H.out.2.1, H.out.2.2.1, H.out.2.2.2⟩
set_option maxRecDepth 100000 in
theorem f149_nil (f : Value) (w : World) : Calls Try.prog 149 #[.slice none 0 0, .int .i64 0, .int .i64 0, f] w fun e w' => e = .returned (.tuple #[]) ∧ w' = w := by
  go_enter Try.func149, Try.ntmps149
  go_wp2_with fail
  refine wp_loop_once ?_
  go_wp2
  go_end0
  exact ⟨rfl, rfl⟩
set_option maxRecDepth 100000 in
theorem f104_nil (f : Value) (w : World) : Calls Try.prog 104 #[.slice none 0 0, f] w fun e w' => e = .returned (.tuple #[]) ∧ w' = w := by
  have h : Calls Try.prog 137 #[.slice none 0 0, .int .i64 0, f] w fun e w' => e = .returned (.tuple #[]) ∧ w' = w := by
    go_enter Try.func137, Try.ntmps137
    go_wp2_with fail
    refine wp_loop_once ?_
    go_wp2_with fail
    refine (f149_nil _ _).mono ?_; rintro e w1 ⟨rfl, rfl⟩
    go_wp2_with fail
    refine wp_loop_once ?_
    go_wp2
    go_end0
    exact ⟨rfl, rfl⟩
  go_enter Try.func104, Try.ntmps104
  go_wp2_with fail
  refine h.mono ?_; rintro e w1 ⟨rfl, rfl⟩
  go_wp2
  go_end0
  exact ⟨rfl, rfl⟩
end Go.Proofs.Ytblhbbgkkijkfaa
