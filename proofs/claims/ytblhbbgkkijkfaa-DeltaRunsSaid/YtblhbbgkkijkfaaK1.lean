/- roll: a window over a text, walked. -/
import Derived.Test.YtblhbbgkkijkfaaM2
namespace Go.Proofs.Ytblhbbgkkijkfaa
open Go.RowKit Go.Maps
/-- A window of a text. -/
def win (s : ByteArray) (at_ n : Nat) : ByteArray := s.extract at_ (at_ + n)
theorem win_size {s : ByteArray} {k n : Nat} (h : k + n ≤ s.size) : (win s k n).size = n := by
  unfold win; rw [ByteArray.size_extract]; omega
theorem wkAB_gen (l : List UInt8) : ∀ p : Int × Int, l.foldl wkStep p = (p.1 + (wkAB l).1, p.2 + l.length * p.1 + (wkAB l).2) := by
  induction l with
  | nil => intro p; simp [wkAB]
  | cons c l ih =>
    intro p
    have h0 : wkAB (c :: l) = l.foldl wkStep (wkStep (0, 0) c) := rfl
    rw [h0, List.foldl_cons, ih, ih (wkStep (0, 0) c)]
    simp only [wkStep, List.length_cons, Prod.mk.injEq]
    generalize (c.toNat : Int) = x
    generalize (l.length : Nat) = n
    refine ⟨by omega, ?_⟩
    push_cast
    rw [Int.add_mul, Int.mul_add, Int.mul_add]
    simp only [Int.zero_add]
    omega
theorem wkAB_cons (c : UInt8) (l : List UInt8) : wkAB (c :: l) = (c.toNat + (wkAB l).1, (l.length + 1) * c.toNat + (wkAB l).2) := by
  have h0 : wkAB (c :: l) = l.foldl wkStep (wkStep (0, 0) c) := rfl
  rw [h0, wkAB_gen]
  simp only [wkStep, Int.zero_add, Prod.mk.injEq]
  refine ⟨trivial, ?_⟩
  rw [Int.add_mul, Int.one_mul]
  omega
/-- Rolling on by one byte. -/
theorem wkAB_roll (c d : UInt8) (l : List UInt8) : wkAB (l ++ [d]) = ((wkAB (c :: l)).1 - c.toNat + d.toNat, (wkAB (c :: l)).2 - (l.length + 1 : Nat) * c.toNat + ((wkAB (c :: l)).1 - c.toNat + d.toNat)) := by
  rw [wkAB_snoc, wkAB_cons]
  simp only [wkStep, Prod.mk.injEq]
  push_cast
  constructor <;> omega
def wA (s : ByteArray) : Int := (wkAB s.data.toList).1 % 65536
def wB (s : ByteArray) : Int := (wkAB s.data.toList).2 % 65536
theorem wk_AB (s : ByteArray) : wk s = wA s + wB s * 65536 := rfl
theorem wA_range (s : ByteArray) : 0 ≤ wA s ∧ wA s < 65536 := ⟨Int.emod_nonneg _ (by decide), Int.emod_lt_of_pos _ (by decide)⟩
theorem wB_range (s : ByteArray) : 0 ≤ wB s ∧ wB s < 65536 := ⟨Int.emod_nonneg _ (by decide), Int.emod_lt_of_pos _ (by decide)⟩
theorem wk_range (s : ByteArray) : 0 ≤ wk s ∧ wk s < 4294967296 := by
  have := wA_range s
  have := wB_range s
  rw [wk_AB]; omega
theorem win_list (s : ByteArray) (k n : Nat) : (win s k n).data.toList = (s.data.toList.drop k).take n := by
  unfold win
  simp [ByteArray.data_extract, Array.toList_extract, List.extract]
theorem win_roll {s : ByteArray} {k n : Nat} (hn : 0 < n) (h : k + n < s.size) :
    wA (win s (k + 1) n) = (wA (win s k n) - (s[k]'(by omega)).toNat + (s[k + n]'h).toNat) % 65536 ∧
    wB (win s (k + 1) n) = (wB (win s k n) - (n : Int) * (s[k]'(by omega)).toNat + (wA (win s k n) - (s[k]'(by omega)).toNat + (s[k + n]'h).toNat)) % 65536 := by
  obtain ⟨m, rfl⟩ : ∃ m, n = m + 1 := ⟨n - 1, by omega⟩
  have hz : s.data.toList.length = s.size := by rw [Array.length_toList]; rfl
  have h1 : (win s k (m + 1)).data.toList = s[k] :: (s.data.toList.drop (k + 1)).take m := by
    rw [win_list, List.drop_eq_getElem_cons (by omega), List.take_succ_cons]
    rfl
  have h2 : (win s (k + 1) (m + 1)).data.toList = (s.data.toList.drop (k + 1)).take m ++ [s[k + (m + 1)]] := by
    rw [win_list, List.take_succ_eq_append_getElem (by rw [List.length_drop]; omega)]
    simp [show k + 1 + m = k + (m + 1) by omega]
    rfl
  have hl : ((s.data.toList.drop (k + 1)).take m).length = m := by rw [List.length_take, List.length_drop]; omega
  have h3 := wkAB_roll s[k] s[k + (m + 1)] ((s.data.toList.drop (k + 1)).take m)
  rw [← h1, ← h2, hl] at h3
  unfold wA wB
  rw [h3]
  dsimp only
  generalize (wkAB (win s k (m + 1)).data.toList).1 = a
  generalize (wkAB (win s k (m + 1)).data.toList).2 = b
  generalize ((m + 1 : Nat) : Int) * (s[k].toNat : Int) = t
  constructor <;> omega
/-- A window, as it lies. -/
structure RollAt (w : World) (g : Nat) (s : ByteArray) (k n : Nat) : Prop where
  row : w.heap[g]? = some (.cells #[.string s, .int .i64 n, .int .i64 k, .int .i64 (wA (win s k n)), .int .i64 (wB (win s k n))] 159 (0, 0))
  room : k + n ≤ s.size
theorem RollAt.mods {w w' : World} {M : Nat → Prop} {g : Nat} {s : ByteArray} {k n : Nat} (h : RollAt w g s k n) (hm : Mods M w w') (hn : ¬ M g) : RollAt w' g s k n := ⟨hm.row h.row hn, h.room⟩
theorem cells5 {w : World} {g e : Nat} {a b c d x : Value} (h : w.heap[g]? = some (.cells #[a, b, c, d, x] e (0, 0))) :
    w.cell? ⟨g, 0, none⟩ = some a ∧ w.cell? ⟨g, 1, none⟩ = some b ∧ w.cell? ⟨g, 2, none⟩ = some c ∧ w.cell? ⟨g, 3, none⟩ = some d ∧ w.cell? ⟨g, 4, none⟩ = some x ∧ (∀ j, w.frozen? ⟨g, j, none⟩ = false) :=
  ⟨by rw [row_cell h]; rfl, by rw [row_cell h]; rfl, by rw [row_cell h]; rfl, by rw [row_cell h]; rfl, by rw [row_cell h]; rfl, fun j => row_frozen h j⟩
theorem f109_calls (g : Nat) (s : ByteArray) (k n : Nat) (w : World) (h : RollAt w g s k n) :
    Calls Try.prog 109 #[.pointer (some ⟨g, 0, none⟩)] w fun e w' => e = .returned (.int .i64 (wk (win s k n))) ∧ Mods Nope w w' := by
  obtain ⟨_, _, _, t3, t4, _⟩ := cells5 h.row
  have hA := wA_range (win s k n)
  have hB := wB_range (win s k n)
  rw [wk_AB]
  generalize wA (win s k n) = a at *
  generalize wB (win s k n) = b at *
  clear h
  go_enter Try.func109, Try.ntmps109
  go_upto_region 3 with fail
  go_quiet (fail)
  go_wp2
  go_ret
  exact ⟨rfl, (Mods.refl _ _).drewN _⟩
theorem f110_end (g : Nat) (s : ByteArray) (k n : Nat) (w : World) (h : RollAt w g s k n) (hn : 0 < n) (hn2 : n ≤ 1024) (hs : s.size ≤ 524288) (he : k + n = s.size) :
    Calls Try.prog 110 #[.pointer (some ⟨g, 0, none⟩)] w fun e w' => e = .returned (.bool false) ∧ Mods Nope w w' := by
  obtain ⟨t0, t1, t2, _, _, _⟩ := cells5 h.row
  have q1 : ((n : Int) == 0) = false := by simp; omega
  have q2 : ((k : Int) + (n : Int) == (s.size : Int)) = true := by simp; omega
  clear h
  go_enter Try.func110, Try.ntmps110
  go_upto_region 1 with fail
  go_quiet (fail)
  go_wp2
  go_ret
  exact ⟨rfl, (Mods.refl _ _).drewN _⟩
set_option maxRecDepth 100000 in
set_option maxHeartbeats 4000000 in
theorem f110_next (g : Nat) (s : ByteArray) (k n : Nat) (w : World) (h : RollAt w g s k n) (hn : 0 < n) (hn2 : n ≤ 1024) (hs : s.size ≤ 524288) (he : k + n < s.size) :
    Calls Try.prog 110 #[.pointer (some ⟨g, 0, none⟩)] w fun e w' => e = .returned (.bool true) ∧ RollAt w' g s (k + 1) n ∧ Mods (fun j => j = g) w w' := by
  have HH := Lib.hid h
  obtain ⟨t0, t1, t2, _, _, _⟩ := cells5 h.row
  have q1 : ((n : Int) == 0) = false := by simp; omega
  obtain ⟨m, hm⟩ : ∃ m, m = k + n := ⟨_, rfl⟩
  have hmi : (k : Int) + (n : Int) = (m : Int) := by omega
  have q2 : ((m : Int) == (s.size : Int)) = false := by simp; omega
  have hk : k < s.size := by omega
  have hml : m < s.size := by omega
  obtain ⟨r1, r2⟩ := win_roll (s := s) (k := k) (n := n) hn he
  have hA := wA_range (win s k n)
  have hB := wB_range (win s k n)
  have hc : (s[k]'hk).toNat < 256 := (s[k]'hk).toNat_lt
  have hd : (s[m]'hml).toNat < 256 := (s[m]'hml).toNat_lt
  have hsm : s[k + n]'he = s[m]'hml := by simp only [hm]
  rw [hsm] at r1 r2
  have R1 := Lib.hid r1
  have R2 := Lib.hid r2
  have HM := Lib.hid hm
  clear r1 r2 hsm hm
  clear h
  go_enter Try.func110, Try.ntmps110
  go_upto_region 1 with fail
  go_quiet (fail)
  generalize HW1 : w.drewN nq = w1
  have HM1 : Hid (Mods Nope w w1) := by unfold Hid; rw [← HW1]; exact (Mods.refl _ _).drewN _
  have HH1 := Lib.hid (HH.out.mods HM1.out (fun h => h))
  clear HW1 t0 t1 t2
  obtain ⟨t0, t1, t2, t3, t4, tf⟩ := cells5 HH1.out.row
  go_upto_region 3 with fail
  have HRW := Lib.hid HH1.out.row
  generalize wA (win s k n) = a at *
  generalize wB (win s k n) = b at *
  go_region
  generalize (s[k]'hk).toNat = c at *
  generalize (s[m]'hml).toNat = d at *
  obtain ⟨t, ht⟩ : ∃ t : Nat, t = n * c := ⟨_, rfl⟩
  have hti : (n : Int) * (c : Int) = (t : Int) := by rw [ht]; push_cast; rfl
  have htb : t ≤ 261120 := by rw [ht]; exact Nat.le_trans (Nat.mul_le_mul hn2 (show c ≤ 255 by omega)) (by decide)
  rw [hti] at R2
  obtain ⟨u, hu⟩ : ∃ u : Nat, u = t % 65536 := ⟨_, rfl⟩
  have hui : (t : Int).tmod 65536 = (u : Int) := by rw [hu]; rfl
  have hub : u < 65536 := by rw [hu]; exact Nat.mod_lt _ (by decide)
  have hA' := wA_range (win s (k + 1) n)
  have hB' := wB_range (win s (k + 1) n)
  have hat : (a - (c : Int) + (d : Int) + 65536).tmod 65536 = wA (win s (k + 1) n) := by
    rw [Int.tmod_eq_emod_of_nonneg (by omega), R1.out]; omega
  have hbt : (b - (u : Int) + wA (win s (k + 1) n) + 65536).tmod 65536 = wB (win s (k + 1) n) := by
    have h1 := R1.out
    rw [Int.tmod_eq_emod_of_nonneg (by omega), R2.out]; omega
  generalize HAA : wA (win s (k + 1) n) = a' at *
  generalize HBB : wB (win s (k + 1) n) = b' at *
  have HAA := Lib.hid HAA
  have HBB := Lib.hid HBB
  have HU := Lib.hid hu
  have HTT := Lib.hid ht
  clear hu ht
  go_upto_region 5 with fail
  have HRW2 : Hid ((w1.setCell ⟨g, 3, none⟩ (.int .i64 a')).drew.heap[g]? = some (.cells #[.string s, .int .i64 n, .int .i64 k, .int .i64 a', .int .i64 b] 159 (0, 0))) := row_set HRW.out 3 _
  have HM2 : Hid (Mods (fun j => j = g) w1 (w1.setCell ⟨g, 3, none⟩ (.int .i64 a')).drew) := Mods.drew ((Mods.refl (fun j => j = g) w1).setCell ⟨g, 3, none⟩ (fun _ => rfl) _)
  clear t0 t1 t2 t3 t4 tf
  generalize (w1.setCell ⟨g, 3, none⟩ (.int .i64 a')).drew = w2 at *
  obtain ⟨t0, t1, t2, t3, t4, tf⟩ := cells5 HRW2.out
  go_region
  go_upto_region 6 with fail
  have HRW3 : Hid ((w2.setCell ⟨g, 4, none⟩ (.int .i64 b')).drew.heap[g]? = some (.cells #[.string s, .int .i64 n, .int .i64 k, .int .i64 a', .int .i64 b'] 159 (0, 0))) := row_set HRW2.out 4 _
  have HM3 : Hid (Mods (fun j => j = g) w1 (w2.setCell ⟨g, 4, none⟩ (.int .i64 b')).drew) := Mods.drew (HM2.out.setCell _ (fun _ => rfl) _)
  clear t0 t1 t2 t3 t4 tf
  generalize (w2.setCell ⟨g, 4, none⟩ (.int .i64 b')).drew = w3 at *
  obtain ⟨t0, t1, t2, t3, t4, tf⟩ := cells5 HRW3.out
  obtain ⟨k', hk'⟩ : ∃ k', k' = k + 1 := ⟨_, rfl⟩
  have HK' := Lib.hid hk'
  have hk1 : (k : Int) + 1 = (k' : Int) := by omega
  have hk2 : k' ≤ 524288 := by omega
  clear hk'
  go_wp2
  go_ret
  have HRW4 : (w3.setCell ⟨g, 2, none⟩ (.int .i64 (k' : Int))).heap[g]? = some (.cells #[.string s, .int .i64 n, .int .i64 (k' : Int), .int .i64 a', .int .i64 b'] 159 (0, 0)) := row_set HRW3.out 2 _
  rw [← HK'.out]
  refine ⟨rfl, ⟨?_, by have := HK'.out; omega⟩, (HM1.out.any _).trans (HM3.out.setCell _ (fun _ => rfl) _)⟩
  rw [HK'.out, HAA.out, HBB.out, ← HK'.out]
  exact HRW4
set_option maxRecDepth 100000 in
set_option maxHeartbeats 4000000 in
theorem f112_end (g : Nat) (s : ByteArray) (k n : Nat) (w : World) (h : RollAt w g s k n) (hn : 0 < n) (hn2 : n ≤ 1024) (hs : s.size ≤ 524288) (he : s.size < k + n + n) :
    Calls Try.prog 112 #[.pointer (some ⟨g, 0, none⟩), .int .i64 n] w fun e w' => e = .returned (.bool false) ∧ Mods Nope w w' := by
  obtain ⟨t0, t1, t2, _, _, _⟩ := cells5 h.row
  have hr := h.room
  have q1 : ((n : Int) == 0) = false := by simp; omega
  have q2 : decide ((n : Int) < 0) = false := by simp
  obtain ⟨m, hm⟩ : ∃ m, m = s.size - n := ⟨_, rfl⟩
  have hmi : (s.size : Int) - (n : Int) = (m : Int) := by omega
  obtain ⟨m2, hm2⟩ : ∃ m2, m2 = m - k := ⟨_, rfl⟩
  have hmi2 : (m : Int) - (k : Int) = (m2 : Int) := by omega
  have q3 : decide ((m2 : Int) < (n : Int)) = true := by simp; omega
  have q4 : decide (m2 < n) = true := by simp; omega
  have hm3 : m ≤ 524288 := by omega
  have hm4 : m2 ≤ 524288 := by omega
  clear h hm hm2
  go_enter Try.func112, Try.ntmps112
  go_upto_region 1 with fail
  go_quiet (fail)
  go_wp2
  go_ret
  exact ⟨rfl, (Mods.refl _ _).drewN _⟩
end Go.Proofs.Ytblhbbgkkijkfaa
