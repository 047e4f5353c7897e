/- roll: a window over a text, walked. roll: Skip and New, walked. A slice that begins anywhere in a block of its own: appending, cutting off ahead. (*delta.maker).flush, walked. (*delta.maker).copy, walked. -/
import Derived.Test.YtblhbbgkkijkfaaMP
import Derived.Test.YtblhbbgkkijkfaaB0
import Derived.ArgAppend
import Derived.Lib.AppendStr
import Derived.Laws.BytesArg
namespace Go.Proofs.Ytblhbbgkkijkfaa
open Go.RowKit Go.Maps
/-- A window of a text. -/
def win (s : ByteArray) (at_ n : Nat) : ByteArray := s.extract at_ (at_ + n)
theorem win_size {s : ByteArray} {k n : Nat} (h : k + n ≤ s.size) : (win s k n).size = n := by
  unfold win; rw [ByteArray.size_extract]; omega
theorem wkAB_gen (l : List UInt8) : ∀ p : Int × Int, l.foldl wkStep p = (p.1 + (wkAB l).1, p.2 + l.length * p.1 + (wkAB l).2) := by
  induction l with
  | nil => intro p; simp [wkAB]
  | cons c l ih =>
    intro p
    have h0 : wkAB (c :: l) = l.foldl wkStep (wkStep (0, 0) c) := rfl
    rw [h0, List.foldl_cons, ih, ih (wkStep (0, 0) c)]
    simp only [wkStep, List.length_cons, Prod.mk.injEq]
    generalize (c.toNat : Int) = x
    generalize (l.length : Nat) = n
    refine ⟨by omega, ?_⟩
    push_cast
    rw [Int.add_mul, Int.mul_add, Int.mul_add]
    simp only [Int.zero_add]
    omega
theorem wkAB_cons (c : UInt8) (l : List UInt8) : wkAB (c :: l) = (c.toNat + (wkAB l).1, (l.length + 1) * c.toNat + (wkAB l).2) := by
  have h0 : wkAB (c :: l) = l.foldl wkStep (wkStep (0, 0) c) := rfl
  rw [h0, wkAB_gen]
  simp only [wkStep, Int.zero_add, Prod.mk.injEq]
  refine ⟨trivial, ?_⟩
  rw [Int.add_mul, Int.one_mul]
  omega
/-- Rolling on by one byte. -/
theorem wkAB_roll (c d : UInt8) (l : List UInt8) : wkAB (l ++ [d]) = ((wkAB (c :: l)).1 - c.toNat + d.toNat, (wkAB (c :: l)).2 - (l.length + 1 : Nat) * c.toNat + ((wkAB (c :: l)).1 - c.toNat + d.toNat)) := by
  rw [wkAB_snoc, wkAB_cons]
  simp only [wkStep, Prod.mk.injEq]
  push_cast
  constructor <;> omega
def wA (s : ByteArray) : Int := (wkAB s.data.toList).1 % 65536
def wB (s : ByteArray) : Int := (wkAB s.data.toList).2 % 65536
theorem wk_AB (s : ByteArray) : wk s = wA s + wB s * 65536 := rfl
theorem wA_range (s : ByteArray) : 0 ≤ wA s ∧ wA s < 65536 := ⟨Int.emod_nonneg _ (by decide), Int.emod_lt_of_pos _ (by decide)⟩
theorem wB_range (s : ByteArray) : 0 ≤ wB s ∧ wB s < 65536 := ⟨Int.emod_nonneg _ (by decide), Int.emod_lt_of_pos _ (by decide)⟩
theorem wk_range (s : ByteArray) : 0 ≤ wk s ∧ wk s < 4294967296 := by
  have := wA_range s
  have := wB_range s
  rw [wk_AB]; omega
theorem win_list (s : ByteArray) (k n : Nat) : (win s k n).data.toList = (s.data.toList.drop k).take n := by
  unfold win
  simp [ByteArray.data_extract, Array.toList_extract, List.extract]
theorem win_roll {s : ByteArray} {k n : Nat} (hn : 0 < n) (h : k + n < s.size) :
    wA (win s (k + 1) n) = (wA (win s k n) - (s[k]'(by omega)).toNat + (s[k + n]'h).toNat) % 65536 ∧
    wB (win s (k + 1) n) = (wB (win s k n) - (n : Int) * (s[k]'(by omega)).toNat + (wA (win s k n) - (s[k]'(by omega)).toNat + (s[k + n]'h).toNat)) % 65536 := by
  obtain ⟨m, rfl⟩ : ∃ m, n = m + 1 := ⟨n - 1, by omega⟩
  have hz : s.data.toList.length = s.size := by rw [Array.length_toList]; rfl
  have h1 : (win s k (m + 1)).data.toList = s[k] :: (s.data.toList.drop (k + 1)).take m := by
    rw [win_list, List.drop_eq_getElem_cons (by omega), List.take_succ_cons]
    rfl
  have h2 : (win s (k + 1) (m + 1)).data.toList = (s.data.toList.drop (k + 1)).take m ++ [s[k + (m + 1)]] := by
    rw [win_list, List.take_succ_eq_append_getElem (by rw [List.length_drop]; omega)]
    simp [show k + 1 + m = k + (m + 1) by omega]
    rfl
  have hl : ((s.data.toList.drop (k + 1)).take m).length = m := by rw [List.length_take, List.length_drop]; omega
  have h3 := wkAB_roll s[k] s[k + (m + 1)] ((s.data.toList.drop (k + 1)).take m)
  rw [← h1, ← h2, hl] at h3
  unfold wA wB
  rw [h3]
  dsimp only
  generalize (wkAB (win s k (m + 1)).data.toList).1 = a
  generalize (wkAB (win s k (m + 1)).data.toList).2 = b
  generalize ((m + 1 : Nat) : Int) * (s[k].toNat : Int) = t
  constructor <;> omega
/-- A window, as it lies. -/
structure RollAt (w : World) (g : Nat) (s : ByteArray) (k n : Nat) : Prop where
  row : w.heap[g]? = some (.cells #[.string s, .int .i64 n, .int .i64 k, .int .i64 (wA (win s k n)), .int .i64 (wB (win s k n))] 159 (0, 0))
  room : k + n ≤ s.size
theorem RollAt.mods {w w' : World} {M : Nat → Prop} {g : Nat} {s : ByteArray} {k n : Nat} (h : RollAt w g s k n) (hm : Mods M w w') (hn : ¬ M g) : RollAt w' g s k n := ⟨hm.row h.row hn, h.room⟩
theorem cells5 {w : World} {g e : Nat} {a b c d x : Value} (h : w.heap[g]? = some (.cells #[a, b, c, d, x] e (0, 0))) :
    w.cell? ⟨g, 0, none⟩ = some a ∧ w.cell? ⟨g, 1, none⟩ = some b ∧ w.cell? ⟨g, 2, none⟩ = some c ∧ w.cell? ⟨g, 3, none⟩ = some d ∧ w.cell? ⟨g, 4, none⟩ = some x ∧ (∀ j, w.frozen? ⟨g, j, none⟩ = false) :=
  ⟨by rw [row_cell h]; rfl, by rw [row_cell h]; rfl, by rw [row_cell h]; rfl, by rw [row_cell h]; rfl, by rw [row_cell h]; rfl, fun j => row_frozen h j⟩
theorem f109_calls (g : Nat) (s : ByteArray) (k n : Nat) (w : World) (h : RollAt w g s k n) :
    Calls Try.prog 109 #[.pointer (some ⟨g, 0, none⟩)] w fun e w' => e = .returned (.int .i64 (wk (win s k n))) ∧ Mods Nope w w' := by
  obtain ⟨_, _, _, t3, t4, _⟩ := cells5 h.row
  have hA := wA_range (win s k n)
  have hB := wB_range (win s k n)
  rw [wk_AB]
  generalize wA (win s k n) = a at *
  generalize wB (win s k n) = b at *
  clear h
  go_enter Try.func109, Try.ntmps109
  go_upto_region 3 with fail
  go_quiet (fail)
  go_wp2
  go_ret
  exact ⟨rfl, (Mods.refl _ _).drewN _⟩
theorem f110_end (g : Nat) (s : ByteArray) (k n : Nat) (w : World) (h : RollAt w g s k n) (hn : 0 < n) (hn2 : n ≤ 1024) (hs : s.size ≤ 524288) (he : k + n = s.size) :
    Calls Try.prog 110 #[.pointer (some ⟨g, 0, none⟩)] w fun e w' => e = .returned (.bool false) ∧ Mods Nope w w' := by
  obtain ⟨t0, t1, t2, _, _, _⟩ := cells5 h.row
  have q1 : ((n : Int) == 0) = false := by simp; omega
  have q2 : ((k : Int) + (n : Int) == (s.size : Int)) = true := by simp; omega
  clear h
  go_enter Try.func110, Try.ntmps110
  go_upto_region 1 with fail
  go_quiet (fail)
  go_wp2
  go_ret
  exact ⟨rfl, (Mods.refl _ _).drewN _⟩
set_option maxRecDepth 100000 in
set_option maxHeartbeats 4000000 in
theorem f110_next (g : Nat) (s : ByteArray) (k n : Nat) (w : World) (h : RollAt w g s k n) (hn : 0 < n) (hn2 : n ≤ 1024) (hs : s.size ≤ 524288) (he : k + n < s.size) :
    Calls Try.prog 110 #[.pointer (some ⟨g, 0, none⟩)] w fun e w' => e = .returned (.bool true) ∧ RollAt w' g s (k + 1) n ∧ Mods (fun j => j = g) w w' := by
  have HH := Lib.hid h
  obtain ⟨t0, t1, t2, _, _, _⟩ := cells5 h.row
  have q1 : ((n : Int) == 0) = false := by simp; omega
  obtain ⟨m, hm⟩ : ∃ m, m = k + n := ⟨_, rfl⟩
  have hmi : (k : Int) + (n : Int) = (m : Int) := by omega
  have q2 : ((m : Int) == (s.size : Int)) = false := by simp; omega
  have hk : k < s.size := by omega
  have hml : m < s.size := by omega
  obtain ⟨r1, r2⟩ := win_roll (s := s) (k := k) (n := n) hn he
  have hA := wA_range (win s k n)
  have hB := wB_range (win s k n)
  have hc : (s[k]'hk).toNat < 256 := (s[k]'hk).toNat_lt
  have hd : (s[m]'hml).toNat < 256 := (s[m]'hml).toNat_lt
  have hsm : s[k + n]'he = s[m]'hml := by simp only [hm]
  rw [hsm] at r1 r2
  have R1 := Lib.hid r1
  have R2 := Lib.hid r2
  have HM := Lib.hid hm
  clear r1 r2 hsm hm
  clear h
  go_enter Try.func110, Try.ntmps110
  go_upto_region 1 with fail
  go_quiet (fail)
  generalize HW1 : w.drewN nq = w1
  have HM1 : Hid (Mods Nope w w1) := by unfold Hid; rw [← HW1]; exact (Mods.refl _ _).drewN _
  have HH1 := Lib.hid (HH.out.mods HM1.out (fun h => h))
  clear HW1 t0 t1 t2
  obtain ⟨t0, t1, t2, t3, t4, tf⟩ := cells5 HH1.out.row
  go_upto_region 3 with fail
  have HRW := Lib.hid HH1.out.row
  generalize wA (win s k n) = a at *
  generalize wB (win s k n) = b at *
  go_region
  generalize (s[k]'hk).toNat = c at *
  generalize (s[m]'hml).toNat = d at *
  obtain ⟨t, ht⟩ : ∃ t : Nat, t = n * c := ⟨_, rfl⟩
  have hti : (n : Int) * (c : Int) = (t : Int) := by rw [ht]; push_cast; rfl
  have htb : t ≤ 261120 := by rw [ht]; exact Nat.le_trans (Nat.mul_le_mul hn2 (show c ≤ 255 by omega)) (by decide)
  rw [hti] at R2
  obtain ⟨u, hu⟩ : ∃ u : Nat, u = t % 65536 := ⟨_, rfl⟩
  have hui : (t : Int).tmod 65536 = (u : Int) := by rw [hu]; rfl
  have hub : u < 65536 := by rw [hu]; exact Nat.mod_lt _ (by decide)
  have hA' := wA_range (win s (k + 1) n)
  have hB' := wB_range (win s (k + 1) n)
  have hat : (a - (c : Int) + (d : Int) + 65536).tmod 65536 = wA (win s (k + 1) n) := by
    rw [Int.tmod_eq_emod_of_nonneg (by omega), R1.out]; omega
  have hbt : (b - (u : Int) + wA (win s (k + 1) n) + 65536).tmod 65536 = wB (win s (k + 1) n) := by
    have h1 := R1.out
    rw [Int.tmod_eq_emod_of_nonneg (by omega), R2.out]; omega
  generalize HAA : wA (win s (k + 1) n) = a' at *
  generalize HBB : wB (win s (k + 1) n) = b' at *
  have HAA := Lib.hid HAA
  have HBB := Lib.hid HBB
  have HU := Lib.hid hu
  have HTT := Lib.hid ht
  clear hu ht
  go_upto_region 5 with fail
  have HRW2 : Hid ((w1.setCell ⟨g, 3, none⟩ (.int .i64 a')).drew.heap[g]? = some (.cells #[.string s, .int .i64 n, .int .i64 k, .int .i64 a', .int .i64 b] 159 (0, 0))) := row_set HRW.out 3 _
  have HM2 : Hid (Mods (fun j => j = g) w1 (w1.setCell ⟨g, 3, none⟩ (.int .i64 a')).drew) := Mods.drew ((Mods.refl (fun j => j = g) w1).setCell ⟨g, 3, none⟩ (fun _ => rfl) _)
  clear t0 t1 t2 t3 t4 tf
  generalize (w1.setCell ⟨g, 3, none⟩ (.int .i64 a')).drew = w2 at *
  obtain ⟨t0, t1, t2, t3, t4, tf⟩ := cells5 HRW2.out
  go_region
  go_upto_region 6 with fail
  have HRW3 : Hid ((w2.setCell ⟨g, 4, none⟩ (.int .i64 b')).drew.heap[g]? = some (.cells #[.string s, .int .i64 n, .int .i64 k, .int .i64 a', .int .i64 b'] 159 (0, 0))) := row_set HRW2.out 4 _
  have HM3 : Hid (Mods (fun j => j = g) w1 (w2.setCell ⟨g, 4, none⟩ (.int .i64 b')).drew) := Mods.drew (HM2.out.setCell _ (fun _ => rfl) _)
  clear t0 t1 t2 t3 t4 tf
  generalize (w2.setCell ⟨g, 4, none⟩ (.int .i64 b')).drew = w3 at *
  obtain ⟨t0, t1, t2, t3, t4, tf⟩ := cells5 HRW3.out
  obtain ⟨k', hk'⟩ : ∃ k', k' = k + 1 := ⟨_, rfl⟩
  have HK' := Lib.hid hk'
  have hk1 : (k : Int) + 1 = (k' : Int) := by omega
  have hk2 : k' ≤ 524288 := by omega
  clear hk'
  go_wp2
  go_ret
  have HRW4 : (w3.setCell ⟨g, 2, none⟩ (.int .i64 (k' : Int))).heap[g]? = some (.cells #[.string s, .int .i64 n, .int .i64 (k' : Int), .int .i64 a', .int .i64 b'] 159 (0, 0)) := row_set HRW3.out 2 _
  rw [← HK'.out]
  refine ⟨rfl, ⟨?_, by have := HK'.out; omega⟩, (HM1.out.any _).trans (HM3.out.setCell _ (fun _ => rfl) _)⟩
  rw [HK'.out, HAA.out, HBB.out, ← HK'.out]
  exact HRW4
set_option maxRecDepth 100000 in
set_option maxHeartbeats 4000000 in
theorem f112_end (g : Nat) (s : ByteArray) (k n : Nat) (w : World) (h : RollAt w g s k n) (hn : 0 < n) (hn2 : n ≤ 1024) (hs : s.size ≤ 524288) (he : s.size < k + n + n) :
    Calls Try.prog 112 #[.pointer (some ⟨g, 0, none⟩), .int .i64 n] w fun e w' => e = .returned (.bool false) ∧ Mods Nope w w' := by
  obtain ⟨t0, t1, t2, _, _, _⟩ := cells5 h.row
  have hr := h.room
  have q1 : ((n : Int) == 0) = false := by simp; omega
  have q2 : decide ((n : Int) < 0) = false := by simp
  obtain ⟨m, hm⟩ : ∃ m, m = s.size - n := ⟨_, rfl⟩
  have hmi : (s.size : Int) - (n : Int) = (m : Int) := by omega
  obtain ⟨m2, hm2⟩ : ∃ m2, m2 = m - k := ⟨_, rfl⟩
  have hmi2 : (m : Int) - (k : Int) = (m2 : Int) := by omega
  have q3 : decide ((m2 : Int) < (n : Int)) = true := by simp; omega
  have q4 : decide (m2 < n) = true := by simp; omega
  have hm3 : m ≤ 524288 := by omega
  have hm4 : m2 ≤ 524288 := by omega
  clear h hm hm2
  go_enter Try.func112, Try.ntmps112
  go_upto_region 1 with fail
  go_quiet (fail)
  go_wp2
  go_ret
  exact ⟨rfl, (Mods.refl _ _).drewN _⟩
end Go.Proofs.Ytblhbbgkkijkfaa
namespace Go.Proofs.Ytblhbbgkkijkfaa
open Go.RowKit Go.Maps
theorem win_sub {s : ByteArray} {k n : Nat} : s.extract k (k + n) = win s k n := rfl
theorem wk_mod (s : ByteArray) : (wk s).tmod 65536 = wA s ∧ (wk s).tdiv 65536 = wB s := by
  have hA := wA_range s
  have hB := wB_range s
  rw [wk_AB]
  generalize wA s = a at *
  generalize wB s = b at *
  rw [Int.tmod_eq_emod_of_nonneg (by omega), Int.tdiv_eq_ediv_of_nonneg (by omega)]
  omega
set_option maxRecDepth 100000 in
set_option maxHeartbeats 4000000 in
theorem f112_skip (g : Nat) (s : ByteArray) (k n : Nat) (w : World) (h : RollAt w g s k n) (hn : 0 < n) (hn2 : n ≤ 1024) (hs : s.size ≤ 524288) (he : k + n + n ≤ s.size) :
    Calls Try.prog 112 #[.pointer (some ⟨g, 0, none⟩), .int .i64 n] w fun e w' => e = .returned (.bool true) ∧ RollAt w' g s (k + n) n ∧ Mods (fun j => j = g) w w' := by
  have HH := Lib.hid h
  obtain ⟨t0, t1, t2, _, _, _⟩ := cells5 h.row
  have hr := h.room
  have q1 : ((n : Int) == 0) = false := by simp; omega
  have q2 : decide ((n : Int) < 0) = false := by simp
  obtain ⟨m, hm⟩ : ∃ m, m = s.size - n := ⟨_, rfl⟩
  have hmi : (s.size : Int) - (n : Int) = (m : Int) := by omega
  obtain ⟨m2, hm2⟩ : ∃ m2, m2 = m - k := ⟨_, rfl⟩
  have hmi2 : (m : Int) - (k : Int) = (m2 : Int) := by omega
  have q3 : decide ((m2 : Int) < (n : Int)) = false := by simp; omega
  have q4 : decide (m2 < n) = false := by simp; omega
  have q5 : decide ((n : Int) < (n : Int)) = false := by simp
  have hm3 : m ≤ 524288 := by omega
  have hm4 : m2 ≤ 524288 := by omega
  obtain ⟨e, hee⟩ : ∃ e, e = k + n := ⟨_, rfl⟩
  have hei : (k : Int) + (n : Int) = (e : Int) := by omega
  obtain ⟨e2, hee2⟩ : ∃ e2, e2 = e + n := ⟨_, rfl⟩
  have hei2 : (e : Int) + (n : Int) = (e2 : Int) := by omega
  have he2s : e2 ≤ s.size := by omega
  have hes : e ≤ e2 := by omega
  have HE := Lib.hid hee
  have HE2 := Lib.hid hee2
  clear h hm hm2 hee hee2
  go_enter Try.func112, Try.ntmps112
  go_upto_region 1 with fail
  go_quiet (fail)
  generalize HW1 : w.drewN nq = w1
  have HM1 : Hid (Mods Nope w w1) := by unfold Hid; rw [← HW1]; exact (Mods.refl _ _).drewN _
  have HH1 := Lib.hid (HH.out.mods HM1.out (fun h => h))
  clear HW1 t0 t1 t2
  obtain ⟨t0, t1, t2, t3, t4, tf⟩ := cells5 HH1.out.row
  have HRW := Lib.hid HH1.out.row
  generalize wA (win s k n) = a at *
  generalize wB (win s k n) = b at *
  go_upto_region 10 with fail
  have HRW2 : Hid ((w1.setCell ⟨g, 2, none⟩ (.int .i64 e)).heap[g]? = some (.cells #[.string s, .int .i64 n, .int .i64 e, .int .i64 a, .int .i64 b] 159 (0, 0))) := row_set HRW.out 2 _
  have HM2 : Hid (Mods (fun j => j = g) w1 (w1.setCell ⟨g, 2, none⟩ (.int .i64 e))) := ((Mods.refl (fun j => j = g) w1).setCell ⟨g, 2, none⟩ (fun _ => rfl) _)
  clear t0 t1 t2 t3 t4 tf
  generalize w1.setCell ⟨g, 2, none⟩ (.int .i64 e) = w2 at *
  obtain ⟨t0, t1, t2, t3, t4, tf⟩ := cells5 HRW2.out
  go_quiet ((go_at_call 77; exact Calls.quiet_of_same (f77_calls _ _ (by rw [ByteArray.size_extract]; omega))))
  have hw : s.extract e e2 = win s e n := by unfold win; rw [HE2.out]
  rw [hw]
  obtain ⟨h1, h2⟩ := wk_mod (win s e n)
  have hBr := wB_range (win s e n)
  have hAr := wA_range (win s e n)
  have hr := wk_range (win s e n)
  generalize HX : wA (win s e n) = a' at *
  generalize HY : wB (win s e n) = b' at *
  have HX := Lib.hid HX
  have HY := Lib.hid HY
  generalize wk (win s e n) = x at *
  have HRW3 : Hid ((w2.drewN nq).heap[g]? = some (.cells #[.string s, .int .i64 n, .int .i64 e, .int .i64 a, .int .i64 b] 159 (0, 0))) := HRW2.out
  have HM3 : Hid (Mods (fun j => j = g) w1 (w2.drewN nq)) := HM2.out.drewN _
  clear t0 t1 t2 t3 t4 tf
  generalize w2.drewN nq = w3 at *
  obtain ⟨t0, t1, t2, t3, t4, tf⟩ := cells5 HRW3.out
  have u4 : (w3.setCell ⟨g, 3, none⟩ (.int .i64 a')).cell? ⟨g, 4, none⟩ = some (.int .i64 b) := by rw [row_cell (row_set HRW3.out 3 _)]; rfl
  have uf : (w3.setCell ⟨g, 3, none⟩ (.int .i64 a')).frozen? ⟨g, 4, none⟩ = false := row_frozen (row_set HRW3.out 3 _) 4
  go_wp2
  go_ret
  have HRW4 : ((w3.setCell ⟨g, 3, none⟩ (.int .i64 a')).setCell ⟨g, 4, none⟩ (.int .i64 b')).heap[g]? = some (.cells #[.string s, .int .i64 n, .int .i64 e, .int .i64 a', .int .i64 b'] 159 (0, 0)) := row_set (row_set HRW3.out 3 _) 4 _
  refine ⟨rfl, ⟨?_, by have := HE.out; have := HE2.out; omega⟩, (HM1.out.any _).trans ((HM3.out.setCell _ (fun _ => rfl) _).setCell _ (fun _ => rfl) _)⟩
  rw [← HE.out, HX.out, HY.out]
  exact HRW4
theorem f108_short (s : ByteArray) (n : Nat) (w : World) (hn : 0 < n) (hn2 : n ≤ 1024) (he : s.size < n) :
    Calls Try.prog 108 #[.string s, .int .i64 n] w fun e w' => e = .returned (.tuple #[.pointer none, .int .i64 3]) ∧ w' = w := by
  go_enter Try.func108, Try.ntmps108
  go_wp2
  go_ret2
  exact ⟨rfl, rfl⟩
theorem f108_new (s : ByteArray) (n : Nat) (w : World) (hn : 0 < n) (hn2 : n ≤ 1024) (he : n ≤ s.size) :
    Calls Try.prog 108 #[.string s, .int .i64 n] w fun e w' => ∃ g, e = .returned (.tuple #[.pointer (some ⟨g, 0, none⟩), .int .i64 0]) ∧ RollAt w' g s 0 n ∧ w.heap.size ≤ g ∧ Mods Nope w w' := by
  have hz : (win s 0 n).size ≤ 524288 := by rw [win_size (by omega)]; omega
  have hw : s.extract 0 n = win s 0 n := by unfold win; rw [Nat.zero_add]
  obtain ⟨h1, h2⟩ := wk_mod (win s 0 n)
  have hr := wk_range (win s 0 n)
  have hBr := wB_range (win s 0 n)
  have hAr := wA_range (win s 0 n)
  go_enter Try.func108, Try.ntmps108
  go_wp2_with fail
  refine (f77_calls (win s 0 n) _ hz).mono ?_; rintro e w1 ⟨rfl, rfl⟩
  generalize wk (win s 0 n) = x at *
  go_wp2
  go_ret2
  exact ⟨_, rfl, ⟨heap_alloc_new _ _, by omega⟩, Nat.le_refl _, (Mods.refl _ _).alloc _⟩
end Go.Proofs.Ytblhbbgkkijkfaa
namespace Go.Proofs.Ytblhbbgkkijkfaa
open Go.RowKit Go.Maps
/-- v is a slice of these cells, in a block of the call's own, anywhere in it. -/
def OwnsAt (w : World) (base : Nat) (e : TypeId) (v : Value) (xs : List Value) : Prop :=
  (v = .slice none 0 0 ∧ xs = []) ∨
  ∃ (g : Nat) (pre post tail : List Value), v = .slice (some ⟨g, pre.length, none⟩) xs.length (xs.length + post.length) ∧ base ≤ g ∧ w.heap[g]? = some (.cells (pre ++ (xs ++ (post ++ tail))).toArray e (0, 0)) ∧ xs.length + post.length ≤ maxLen
theorem OwnsAt.of_row {w : World} {base e n : Nat} {v : Value} {xs : List Value} (h : w.ownsRow base e 1 v n xs) : OwnsAt w base e v xs := by
  have hn : xs.length = n := by simpa using h.1
  rcases h.2 with ⟨hv, h0⟩ | ⟨g, cap, cur, hv, hb, hg, h1, h2, h3, h4⟩
  · exact .inl ⟨hv, List.eq_nil_of_length_eq_zero (by omega)⟩
  · refine .inr ⟨g, [], cur.toList.drop n, [], ?_, hb, ?_, ?_⟩
    · have h5 : (cur.toList.drop n).length = cap - n := by rw [List.length_drop, Array.length_toList (xs := cur)]; omega
      rw [hv, hn, h5, List.length_nil, show n + (cap - n) = cap by omega]
    · rw [hg, ← h4]
      simp
    · have h5 : (cur.toList.drop n).length = cap - n := by rw [List.length_drop, Array.length_toList (xs := cur)]; omega
      rw [h5]
      omega
theorem OwnsAt.mods {M : Nat → Prop} {w w' : World} {base : Nat} {e : TypeId} {v : Value} {xs : List Value} (h : OwnsAt w base e v xs) (hm : Mods M w w') (hn : ∀ k, v.ownBlock = some k → ¬ M k) : OwnsAt w' base e v xs := by
  rcases h with h | ⟨g, pre, post, tail, rfl, hb, hg, hl⟩
  · exact .inl h
  · exact .inr ⟨g, pre, post, tail, rfl, hb, hm.row hg (hn g rfl), hl⟩
theorem OwnsAt.rd {w : World} {base : Nat} {e : TypeId} {v : Value} {xs : List Value} (h : OwnsAt w base e v xs) :
    ∃ A c, v = .slice A xs.length c ∧ xs.length ≤ c ∧ c ≤ maxLen ∧ Rd w A xs ∧ (∀ a, A = some a → v.ownBlock = some a.block ∧ base ≤ a.block ∧ a.block < w.heap.size) := by
  rcases h with ⟨rfl, rfl⟩ | ⟨g, pre, post, tail, rfl, hb, hg, hl⟩
  · exact ⟨none, 0, rfl, Nat.le_refl _, by simp [maxLen], Rd.nil _ _, fun a e => by cases e⟩
  · refine ⟨_, _, rfl, by omega, hl, fun j u hu => ⟨g, pre.length, rfl, ?_⟩, fun a ha => ?_⟩
    · rw [row_cell hg]
      have hj : j < xs.length := (List.getElem?_eq_some_iff.1 hu).1
      rw [List.getElem?_toArray, List.getElem?_append_right (by omega), Nat.add_sub_cancel_left, List.getElem?_append_left hj]
      exact hu
    · cases ha
      exact ⟨rfl, hb, row_lt hg⟩
theorem OwnsAt.ne_row {w : World} {base e g e' : Nat} {v : Value} {xs : List Value} {cs : Array Value} {fr : Nat × Nat} (h : OwnsAt w base e v xs) (hg : w.heap[g]? = some (.cells cs e' fr)) (hne : e ≠ e') : ∀ k, v.ownBlock = some k → k ≠ g := by
  rintro k hk rfl
  rcases h with ⟨rfl, _⟩ | ⟨g', pre, post, tail, rfl, _, hh, _⟩
  · simp [Value.ownBlock] at hk
  · obtain rfl : g' = k := by simpa [Value.ownBlock] using hk
    rw [hh] at hg
    injection hg with hg
    injection hg with _ ht
    exact hne ht
theorem OwnsAt.lt {w : World} {base e : Nat} {v : Value} {xs : List Value} (h : OwnsAt w base e v xs) : ∀ k, v.ownBlock = some k → base ≤ k ∧ k < w.heap.size := by
  intro k hk
  rcases h with ⟨rfl, _⟩ | ⟨g', pre, post, tail, rfl, hb, hh, _⟩
  · simp [Value.ownBlock] at hk
  · obtain rfl : g' = k := by simpa [Value.ownBlock] using hk
    exact ⟨hb, row_lt hh⟩
/-- What is cut off ahead. -/
theorem OwnsAt.drop {w : World} {base : Nat} {e : TypeId} {A : Option Addr} {c n : Nat} {xs : List Value} (h : OwnsAt w base e (.slice A xs.length c) xs) (hn : n ≤ xs.length) (h0 : 0 < xs.length) :
    OwnsAt w base e (.slice (if c = n then A else A.map (·.add n)) (xs.length - n) (c - n)) (xs.drop n) := by
  rcases h with ⟨_, rfl⟩ | ⟨g, pre, post, tail, hv, hb, hg, hl⟩
  · simp at h0
  · injection hv with hA _ hc
    subst hA
    subst hc
    by_cases he : xs.length + post.length = n
    · rw [if_pos he]
      have h1 : n = xs.length := by omega
      have h2 : post = [] := List.eq_nil_of_length_eq_zero (by omega)
      subst h1
      subst h2
      refine .inr ⟨g, pre, [], xs ++ tail, ?_, hb, ?_, ?_⟩
      · simp
      · rw [hg]; simp
      · simp [maxLen]
    · rw [if_neg he]
      refine .inr ⟨g, pre ++ xs.take n, post, tail, ?_, hb, ?_, ?_⟩
      · simp only [Option.map_some, List.length_append, List.length_take, List.length_drop, Nat.min_eq_left hn]
        rw [show (⟨g, pre.length, none⟩ : Addr).add n = ⟨g, pre.length + n, none⟩ by unfold Addr.add; split <;> simp_all]
        congr 1
        omega
      · rw [hg]
        congr 3
        rw [List.append_assoc, ← List.append_assoc (xs.take n), List.take_append_drop]
      · rw [List.length_drop]; omega
section
variable {P : Program}
theorem cut_row {pre xs post tail news : List Value} (hm : news.length ≤ post.length) :
    (pre ++ (xs ++ (post ++ tail))).take (pre.length + xs.length) ++ news ++ (pre ++ (xs ++ (post ++ tail))).drop (pre.length + xs.length + news.length) = pre ++ ((xs ++ news) ++ (post.drop news.length ++ tail)) := by
  have h1 : (pre ++ (xs ++ (post ++ tail))).take (pre.length + xs.length) = pre ++ xs := by
    rw [← List.append_assoc, ← List.length_append, List.take_left]
  have h2 : (pre ++ (xs ++ (post ++ tail))).drop (pre.length + xs.length + news.length) = post.drop news.length ++ tail := by
    rw [← List.append_assoc, ← List.length_append, ← List.drop_drop, List.drop_left, List.drop_append_of_le_length hm]
  rw [h1, h2]
  simp
/-- Appending one cell. -/
theorem OwnsAt.app1 {w : World} (base : Nat) (t ty e : TypeId) (i : TypeInfo) (z : Value) (bytes : Nat) (ht : P.underlying t = some (.slice e)) (hi : P.info? e = some i) (hz : i.zero = some z)
    (hsize : i.size = 1) (hby : i.bytes = bytes) (hzs : z.cells.size = 1) (v : Value) (xs : List Value) (h : OwnsAt w base e v xs)
    (a : Addr) (c : Nat) (y : Value) (hy : w.cell? a = some y) (h1 : y.oneCell' = true) (h63 : xs.length + 1 ≤ maxLen) (hbytes : (xs.length + 1) * bytes ≤ 140737488355328) (hbase : base ≤ w.heap.size) :
    ∃ v' w', (Builtin.append_ #[t, t] ty #[v, .slice (some a) 1 c]).run P w = .ok v' w' ∧ OwnsAt w' base e v' (xs ++ [y]) ∧ w.grownBy w' v.ownBlock ∧ (v'.ownBlock = v.ownBlock ∨ ∀ k, v'.ownBlock = some k → w.heap.size ≤ k) := by
  have hnews : ∀ j u, [y][j]? = some u → w.cell? (a.add j) = some u := by
    intro j u hu
    have hj : j = 0 := by
      have := (List.getElem?_eq_some_iff.1 hu).1
      simp at this
      exact this
    subst hj
    have : a.add 0 = a := by unfold Addr.add; split <;> simp_all
    rw [this, hy]
    simpa using hu
  have h1' : ∀ u ∈ [y], u.oneCell' = true := by simpa using h1
  rcases h with ⟨rfl, rfl⟩ | ⟨g, pre, post, tail, rfl, hb, hg, hl⟩
  · obtain ⟨v', w', r1, r2, r3, _, r5⟩ := run_append_own_at (P := P) w base t ty e i z 1 bytes ht hi hz hsize hby hzs (by omega) (.slice none 0 0) 0 [] (World.ownsRow_nil w base e 1) a 1 c [y] (by simp) hnews h1' (by simpa using h63) (by simpa using hbytes) hbase
    exact ⟨v', w', r1, OwnsAt.of_row r2, r3, r5.imp id (fun h k hk => by rw [h] at hk; cases hk; exact Nat.le_refl _)⟩
  · by_cases hroom : 1 ≤ post.length
    · have hfit : pre.length + xs.length + [y].length ≤ (pre ++ (xs ++ (post ++ tail))).toArray.size := by simp; omega
      have hst := run_storeCells_at P g (pre.length + xs.length) e [y] 0 _ w hg (by simpa using hfit) h1'
      have hfc := run_firstCells_some (P := P) w i.size 1 a 1 c [y] (by rw [hsize]; rfl) hnews
      have hr : (Builtin.append_ #[t, t] ty #[.slice (some ⟨g, pre.length, none⟩) xs.length (xs.length + post.length), .slice (some a) 1 c]).run P w = .ok (.slice (some ⟨g, pre.length, none⟩) (xs.length + 1) (xs.length + post.length)) (w.setRow g (pre ++ ((xs ++ [y]) ++ (post.drop 1 ++ tail))).toArray) := by
        have hcr := cut_row (pre := pre) (xs := xs) (tail := tail) (news := [y]) (post := post) hroom
        simp only [List.length_cons, List.length_nil, Nat.zero_add] at hcr hst
        rw [← hcr]
        simp only [Nat.add_zero] at hst
        simp [Builtin.append_, run_underlying ht, sizeOf, typeInfo, hi, hsize, Builtin.lenOf, hroom, Addr.add_lit, hst, hsize ▸ hfc]
      refine ⟨_, _, hr, .inr ⟨g, pre, post.drop 1, tail, ?_, hb, setRow_heap w g _ _ e _ hg, ?_⟩, ⟨rfl, rfl, rfl, by simp, fun k _ hk => setRow_other w g k _ (fun e => hk (by simp [Value.ownBlock, e]))⟩, .inl rfl⟩
      · simp only [List.length_append, List.length_cons, List.length_nil, List.length_drop]
        congr 1
        omega
      · simp only [List.length_append, List.length_cons, List.length_nil, List.length_drop]
        omega
    · have holds : ∀ j u, xs[j]? = some u → w.cell? ((⟨g, pre.length, none⟩ : Addr).add j) = some u := by
        intro j u hu
        have hj : j < xs.length := (List.getElem?_eq_some_iff.1 hu).1
        have : (⟨g, pre.length, none⟩ : Addr).add j = ⟨g, pre.length + j, none⟩ := by unfold Addr.add; split <;> simp_all
        rw [this, row_cell hg, List.getElem?_toArray, List.getElem?_append_right (by omega), Nat.add_sub_cancel_left, List.getElem?_append_left hj]
        exact hu
      obtain ⟨v', w', r1, r2, r3⟩ := run_append_arg_grows (P := P) w t ty e i z 1 bytes ht hi hz hsize hby hzs (by omega) ⟨g, pre.length, none⟩ xs.length (xs.length + post.length) xs (by simp) holds a 1 c [y] (by simp) hnews (by omega) h63 hbytes
      refine ⟨v', w', r1, OwnsAt.of_row (own_base r2 hbase), ⟨r3.os, r3.tape, r3.output, r3.size, fun k hk _ => r3.block k hk (by simp)⟩, .inr (fun k hk => (r2.lt k hk).1)⟩
/-- Appending a string's bytes. -/
theorem OwnsAt.appStr {w : World} (base : Nat) (t u ty e : TypeId) (i : TypeInfo) (ht : P.underlying t = some (.slice e)) (hu : P.underlying u = some .string) (hi : P.info? e = some i) (hz : i.zero = some (.int .u8 0))
    (hsize : i.size = 1) (hby : i.bytes = 1) (v : Value) (xs : List Value) (h : OwnsAt w base e v xs) (s : ByteArray)
    (h63 : xs.length + s.size ≤ maxLen) (hbytes : xs.length + s.size ≤ 140737488355328) (hbase : base ≤ w.heap.size) :
    ∃ v' w', (Builtin.append_ #[t, u] ty #[v, .string s]).run P w = .ok v' w' ∧ OwnsAt w' base e v' (xs ++ Lib.strCells s) ∧ w.grownBy w' v.ownBlock := by
  have hsl := Lib.strCells_length s
  rcases h with ⟨rfl, rfl⟩ | ⟨g, pre, post, tail, rfl, hb, hg, hl⟩
  · obtain ⟨v', w', r1, r2, r3, _⟩ := Lib.run_append_own_string (P := P) w base t u ty e i ht hu hi hz hsize hby (.slice none 0 0) 0 [] (World.ownsRow_nil w base e 1) s (by simpa using h63) (by simpa using hbytes) hbase
    exact ⟨v', w', r1, OwnsAt.of_row r2, r3⟩
  · by_cases hroom : s.size ≤ post.length
    · have hfit : pre.length + xs.length + (Lib.strCells s).length ≤ (pre ++ (xs ++ (post ++ tail))).toArray.size := by simp; omega
      have hst := run_storeCells_at P g (pre.length + xs.length) e (Lib.strCells s) 0 _ w hg (by simpa using hfit) (Lib.strCells_oneCell s)
      have hf := Lib.run_firstCells_string (P := P) w 1 s
      have hcr := cut_row (pre := pre) (xs := xs) (tail := tail) (news := Lib.strCells s) (post := post) (by omega)
      have hr : (Builtin.append_ #[t, u] ty #[.slice (some ⟨g, pre.length, none⟩) xs.length (xs.length + post.length), .string s]).run P w = .ok (.slice (some ⟨g, pre.length, none⟩) (xs.length + s.size) (xs.length + post.length)) (w.setRow g (pre ++ ((xs ++ Lib.strCells s) ++ (post.drop (Lib.strCells s).length ++ tail))).toArray) := by
        rw [← hcr]
        simp only [Nat.add_zero] at hst
        simp [Builtin.append_, run_underlying ht, run_underlying hu, sizeOf, typeInfo, hi, hsize, Builtin.lenOf, hroom, Addr.add_lit, hst, hf]
      refine ⟨_, _, hr, .inr ⟨g, pre, post.drop (Lib.strCells s).length, tail, ?_, hb, setRow_heap w g _ _ e _ hg, ?_⟩, ⟨rfl, rfl, rfl, by simp, fun k _ hk => setRow_other w g k _ (fun e => hk (by simp [Value.ownBlock, e]))⟩⟩
      · simp only [List.length_append, List.length_drop, hsl]
        congr 1
        omega
      · simp only [List.length_append, List.length_drop, hsl]
        omega
    · have holds : ∀ j u, xs[j]? = some u → w.cell? ((⟨g, pre.length, none⟩ : Addr).add j) = some u := by
        intro j u hu
        have hj : j < xs.length := (List.getElem?_eq_some_iff.1 hu).1
        have : (⟨g, pre.length, none⟩ : Addr).add j = ⟨g, pre.length + j, none⟩ := by unfold Addr.add; split <;> simp_all
        rw [this, row_cell hg, List.getElem?_toArray, List.getElem?_append_right (by omega), Nat.add_sub_cancel_left, List.getElem?_append_left hj]
        exact hu
      have hr := Lib.run_append_grow_string (P := P) w t u ty e i (.int .u8 0) ht hu hi hz ⟨g, pre.length, none⟩ xs.length (xs.length + post.length) xs (by rw [hsize]; simp) holds s (by omega) (by simp only [maxLen] at h63; omega) (by rw [hby]; exact growslice_fits (by omega) (by omega))
      have hge := grownCap_ge w (xs.length + s.size) (xs.length + post.length) e
      have hcm : grownCap w (xs.length + s.size) (xs.length + post.length) e ≤ maxLen := grownCap_le_maxLen w (xs.length + s.size) (xs.length + post.length) e h63
      refine ⟨_, _, hr, OwnsAt.of_row (n := xs.length + s.size) ⟨by rw [List.length_append, hsl, Nat.mul_one], .inr ⟨w.heap.size, _, _, rfl, hbase, heap_alloc_new w.drew _, hge, hcm, ?_, ?_⟩⟩, ⟨rfl, rfl, rfl, by simp, fun k hk _ => heap_alloc_old w.drew _ hk⟩⟩
      · have hz1 : (Value.int IntKind.u8 0).cells.size = 1 := rfl
        simp only [Array.size_append, List.size_toArray, size_zeroCells, hz1, hsl]
        omega
      · simp only [Array.toList_append, List.append_assoc]
        rw [← List.append_assoc, show (xs.length + s.size) * 1 = (xs ++ Lib.strCells s).length by rw [List.length_append, hsl, Nat.mul_one]]
        exact List.take_left
variable {ops : Array Oper} {o : Oper} {a : Act} {Q : Exit → Act → World → Prop}
theorem step_at1 {K : Act → World → Prop} {E : Prop} (wa : World) (hgd : o.guard = none) (s x : Operand) (t e : TypeId) (z : Value) (bytes : Nat)
    (ho : o.op = .call { callee := .builtin .append, args := #[s, x], argTypes := #[t, t] })
    (ht : P.underlying t = some (.slice e)) (hinfo : (P.info? e).map (fun i => (i.zero, i.size, i.bytes)) = some (some z, 1, bytes)) (hz : z.cells.size = 1) (hb0 : 0 < bytes)
    (v : Value) (xs : List Value) (y : Value) (B : Nat) (hs : a.eval s = v) (hx : a.eval x = .slice (some ⟨B, 0, none⟩) 1 1) (hy : wa.cell? ⟨B, 0, none⟩ = some y) (h1 : y.oneCell' = true)
    (base : Nat) (HO : OwnsAt wa base e v xs) (hbase : base ≤ wa.heap.size) (hl : (xs.length + 1) * bytes ≤ 140737488355328)
    (h : ∀ A cap w1, OwnsAt w1 base e (.slice A (xs.length + 1) cap) (xs ++ [y]) → wa.grownBy w1 v.ownBlock → K (a.put o.dst (.slice A (xs.length + 1) cap)) w1) :
    if Region.wanted o (yielded ops a.tmps) = true then Oper.wp P o a wa K Q else E := by
  obtain ⟨i0, hi, hzz⟩ := Option.map_eq_some_iff.1 hinfo
  simp only [Prod.mk.injEq] at hzz
  obtain ⟨hz0, hz1, hz2⟩ := hzz
  have hlen : xs.length + 1 ≤ 140737488355328 := Nat.le_trans (Nat.le_mul_of_pos_right _ hb0) hl
  obtain ⟨v', w', hr, r1, r2, r3⟩ := HO.app1 (P := P) base t o.type e i0 z bytes ht hi hz0 hz1 hz2 hz v xs ⟨B, 0, none⟩ 1 y hy h1 (by simp only [maxLen]; omega) hl hbase
  have hw : Region.wanted o (yielded ops a.tmps) = true := by simp [Region.wanted, hgd]
  rw [if_pos hw]
  unfold Oper.wp execOp
  simp only [ho, resolve, invoke, builtin, Sem.run_bind, Sem.run_pure, Result.andThen_ok, List.map_toArray, List.map_cons, List.map_nil, hs, hx, hr]
  obtain ⟨A, c, rfl, _⟩ := r1.rd
  rw [List.length_append] at r1 ⊢
  exact h A c w' r1 r2
theorem step_atStr {K : Act → World → Prop} {E : Prop} (wa : World) (hgd : o.guard = none) (sl x : Operand) (t u e : TypeId)
    (ho : o.op = .call { callee := .builtin .append, args := #[sl, x], argTypes := #[t, u] })
    (ht : P.underlying t = some (.slice e)) (hu : P.underlying u = some .string) (hinfo : (P.info? e).map (fun i => (i.zero, i.size, i.bytes)) = some (some (.int .u8 0), 1, 1))
    (v : Value) (xs : List Value) (s : ByteArray) (hs : a.eval sl = v) (hx : a.eval x = .string s)
    (base : Nat) (HO : OwnsAt wa base e v xs) (hbase : base ≤ wa.heap.size) (hl : xs.length + s.size ≤ 140737488355328)
    (h : ∀ A cap w1, OwnsAt w1 base e (.slice A (xs.length + s.size) cap) (xs ++ Lib.strCells s) → wa.grownBy w1 v.ownBlock → K (a.put o.dst (.slice A (xs.length + s.size) cap)) w1) :
    if Region.wanted o (yielded ops a.tmps) = true then Oper.wp P o a wa K Q else E := by
  obtain ⟨i0, hi, hzz⟩ := Option.map_eq_some_iff.1 hinfo
  simp only [Prod.mk.injEq] at hzz
  obtain ⟨hz0, hz1, hz2⟩ := hzz
  obtain ⟨v', w', hr, r1, r2⟩ := HO.appStr (P := P) base t u o.type e i0 ht hu hi hz0 hz1 hz2 v xs s (by simp only [maxLen]; omega) hl hbase
  have hw : Region.wanted o (yielded ops a.tmps) = true := by simp [Region.wanted, hgd]
  rw [if_pos hw]
  unfold Oper.wp execOp
  simp only [ho, resolve, invoke, builtin, Sem.run_bind, Sem.run_pure, Result.andThen_ok, List.map_toArray, List.map_cons, List.map_nil, hs, hx, hr]
  obtain ⟨A, c, rfl, _⟩ := r1.rd
  have hsl := Lib.strCells_length s
  rw [List.length_append, hsl] at r1 ⊢
  exact h A c w' r1 r2
/-- Appending one struct of three cells. -/
theorem step_app3 {K : Act → World → Prop} {E : Prop} (wa : World) (hgd : o.guard = none) (s x : Operand) (t e : TypeId) (z : Value) (bytes : Nat)
    (ho : o.op = .call { callee := .builtin .append, args := #[s, x], argTypes := #[t, t] })
    (ht : P.underlying t = some (.slice e)) (hinfo : (P.info? e).map (fun i => (i.zero, i.size, i.bytes)) = some (some z, 3, bytes)) (hz : z.cells.size = 3)
    (v : Value) (n : Nat) (xs : List Value) (y0 y1 y2 : Value) (B : Nat) (hs : a.eval s = v) (hx : a.eval x = .slice (some ⟨B, 0, none⟩) 1 1) (hy0 : wa.cell? ⟨B, 0, none⟩ = some y0) (hy1 : wa.cell? ⟨B, 1, none⟩ = some y1) (hy2 : wa.cell? ⟨B, 2, none⟩ = some y2)
    (h0 : y0.oneCell' = true) (h1 : y1.oneCell' = true) (h2 : y2.oneCell' = true)
    (base : Nat) (HO : wa.ownsRow base e 3 v n xs) (hbase : base ≤ wa.heap.size) (hl : (n + 1) * bytes ≤ 140737488355328) (hn : n + 1 ≤ maxLen)
    (h : ∀ g cap w1, w1.ownsRow base e 3 (.slice (some ⟨g, 0, none⟩) (n + 1) cap) (n + 1) (xs ++ [y0, y1, y2]) → wa.grownBy w1 v.ownBlock → (v.ownBlock = some g ∨ wa.heap.size ≤ g) → K (a.put o.dst (.slice (some ⟨g, 0, none⟩) (n + 1) cap)) w1) :
    if Region.wanted o (yielded ops a.tmps) = true then Oper.wp P o a wa K Q else E := by
  obtain ⟨i0, hi, hzz⟩ := Option.map_eq_some_iff.1 hinfo
  simp only [Prod.mk.injEq] at hzz
  obtain ⟨hz0, hz1, hz2⟩ := hzz
  refine step_append_lies wa hgd s x t ho base e i0 z 3 bytes ht hi hz0 hz1 hz2 hz (by omega) v n xs hs HO ⟨B, 0, none⟩ 1 1 [y0, y1, y2] hx rfl ?_ (by simpa using ⟨h0, h1, h2⟩) (by omega) (by omega) hl hbase _ rfl ?_
  · intro j u hu
    rw [add_plain]
    rcases j with _ | _ | _ | j
    · simp only [List.getElem?_cons_zero, Option.some.injEq] at hu; subst hu; exact hy0
    · simp only [List.getElem?_cons_succ, List.getElem?_cons_zero, Option.some.injEq] at hu; subst hu; exact hy1
    · simp only [List.getElem?_cons_succ, List.getElem?_cons_zero, Option.some.injEq] at hu; subst hu; exact hy2
    · simp at hu
  · intro g cap w1 h2 h3 h4 _
    exact h g cap w1 h2 h3 (h4.imp id (fun e => by omega))
end
theorem info117 : (Try.prog.info? 117).map (fun i => (i.zero, i.size, i.bytes)) = some (some (.agg #[.int .i64 0, .int .i64 0, .string ⟨#[]⟩]), 3, 32) := by kernel_rfl
end Go.Proofs.Ytblhbbgkkijkfaa
namespace Go.Proofs.Ytblhbbgkkijkfaa
open Go.RowKit Go.Maps
/-- A step, and how it lies. -/
structure Stp where
  pos : Int
  len : Int
  text : ByteArray
deriving DecidableEq
def Stp.cells (x : Stp) : List Value := [.int .i64 x.pos, .int .i64 x.len, .string x.text]
def stps (l : List Stp) : List Value := l.flatMap Stp.cells
theorem stps_length (l : List Stp) : (stps l).length = l.length * 3 := by
  induction l with
  | nil => rfl
  | cons x l ih =>
    have : stps (x :: l) = x.cells ++ stps l := rfl
    rw [this, List.length_append, ih]
    simp [Stp.cells]; omega
theorem stps_append (l m : List Stp) : stps (l ++ m) = stps l ++ stps m := by simp [stps]
/-- Bytes as steps of at most 4096 each. -/
def chunksN : Nat → ByteArray → List Stp
  | 0, _ => []
  | n + 1, s => if s.size = 0 then [] else ⟨0, 0, s.extract 0 (min s.size 4096)⟩ :: chunksN n (s.extract (min s.size 4096) s.size)
def chunks (s : ByteArray) : List Stp := chunksN s.size s
theorem chunksN_eq : ∀ (n : Nat) (s : ByteArray), s.size ≤ n → chunksN n s = chunks s := by
  intro n
  induction n using Nat.strongRecOn with
  | ind n ih =>
    intro s hs
    unfold chunks
    rcases n with _ | n
    · rw [show s.size = 0 by omega]
    · rcases hz : s.size with _ | m
      · simp [chunksN, hz]
      · have h1 : (s.extract (min s.size 4096) s.size).size ≤ m := by rw [ByteArray.size_extract]; omega
        rw [chunksN, chunksN]
        rw [if_neg (by omega), if_neg (by omega)]
        rw [ih n (by omega) _ (by omega), ih m (by omega) _ h1]
theorem chunks_step {s : ByteArray} (h : 0 < s.size) : chunks s = ⟨0, 0, s.extract 0 (min s.size 4096)⟩ :: chunks (s.extract (min s.size 4096) s.size) := by
  conv => lhs; unfold chunks
  rcases hz : s.size with _ | m
  · omega
  · rw [chunksN, if_neg (by omega), chunksN_eq m _ (by rw [ByteArray.size_extract]; omega), hz]
theorem chunks_nil {s : ByteArray} (h : s.size = 0) : chunks s = [] := by unfold chunks; rw [h]; rfl
/-- What a maker holds. -/
structure MakerAt (w : World) (B m : Nat) (l : List Stp) (t : ByteArray) (sv tv : Value) : Prop where
  base : B ≤ w.heap.size
  row : w.heap[m]? = some (.cells #[sv, tv] 133 (0, 0))
  steps : w.ownsRow B 117 3 sv l.length (stps l)
  text : OwnsAt w B 5 tv (Lib.strCells t)
theorem MakerAt.mods {w w' : World} {M : Nat → Prop} {B m : Nat} {l : List Stp} {t : ByteArray} {sv tv : Value} (h : MakerAt w B m l t sv tv) (hm : Mods M w w') (hn : ∀ k, B ≤ k ∨ k = m → k < w.heap.size → ¬ M k) : MakerAt w' B m l t sv tv :=
  ⟨Nat.le_trans h.base hm.size, hm.row h.row (hn m (.inr rfl) (row_lt h.row)), hm.owns h.steps (fun k hk => hn k (.inl (h.steps.lt k hk).1) (h.steps.lt k hk).2), h.text.mods hm (fun k hk => hn k (.inl (h.text.lt k hk).1) (h.text.lt k hk).2)⟩
theorem MakerAt.sep {w : World} {B m : Nat} {l : List Stp} {t : ByteArray} {sv tv : Value} (h : MakerAt w B m l t sv tv) : ∀ k, tv.ownBlock = some k → sv.ownBlock ≠ some k := by
  intro k hk hk2
  rcases h.steps.2 with ⟨rfl, _⟩ | ⟨g, cap, cur, rfl, _, hg, _⟩
  · simp [Value.ownBlock] at hk2
  · obtain rfl : g = k := by simpa [Value.ownBlock] using hk2
    exact h.text.ne_row hg (by decide) g hk rfl
theorem MakerAt.ne {w : World} {B m : Nat} {l : List Stp} {t : ByteArray} {sv tv : Value} (h : MakerAt w B m l t sv tv) : sv.ownBlock ≠ some m ∧ tv.ownBlock ≠ some m :=
  ⟨fun e => own_ne_row h.steps h.row (by decide) m e rfl, fun e => h.text.ne_row h.row (by decide) m e rfl⟩
/-- One step more. -/
theorem MakerAt.addStep {w w3 : World} {B m g cap : Nat} {l : List Stp} {t : ByteArray} {sv tv : Value} (h : MakerAt w B m l t sv tv) (x : Stp) {wa : World} (ha : Mods Nope w wa)
    (hown : w3.ownsRow B 117 3 (.slice (some ⟨g, 0, none⟩) (l.length + 1) cap) (l.length + 1) (stps l ++ x.cells)) (hg : wa.grownBy w3 sv.ownBlock) :
    MakerAt (w3.setCell ⟨m, 0, none⟩ (.slice (some ⟨g, 0, none⟩) (l.length + 1) cap)) B m (l ++ [x]) t (.slice (some ⟨g, 0, none⟩) (l.length + 1) cap) tv ∧
    w3.heap[m]? = some (.cells #[sv, tv] 133 (0, 0)) ∧ Mods (fun j => B ≤ j ∨ j = m) w (w3.setCell ⟨m, 0, none⟩ (.slice (some ⟨g, 0, none⟩) (l.length + 1) cap)) := by
  have h3 : Mods (fun j => sv.ownBlock = some j) w w3 := (ha.any _).grown hg (fun k e _ => e)
  have hr3 := h3.row h.row h.ne.1
  have hs := (Mods.refl (fun j => j = m) w3).setCell ⟨m, 0, none⟩ (fun _ => rfl) (.slice (some ⟨g, 0, none⟩) (l.length + 1) cap)
  have hgm : g ≠ m := fun e => own_ne_row hown hr3 (by decide) g rfl e
  refine ⟨⟨Nat.le_trans h.base (Nat.le_trans h3.size hs.size), row_set hr3 0 _, ?_, ?_⟩, hr3, (h3.mono (fun k hk e => .inl (h.steps.lt k e).1)).then hs (fun k hk e => .inr e)⟩
  · rw [List.length_append, stps_append]
    have : stps [x] = x.cells := by simp [stps]
    rw [this]
    exact hs.owns hown (fun k hk e => hgm (by simpa [Value.ownBlock] using hk.trans (congrArg some e)))
  · exact (h.text.mods h3 (fun k hk e => h.sep k hk e)).mods hs (fun k hk e => h.ne.2 (by rw [← e]; exact hk))
theorem add_at (g o j : Nat) : (⟨g, o, none⟩ : Addr).add j = ⟨g, o + j, none⟩ := by unfold Addr.add; split <;> simp_all
theorem strCells_drop (t : ByteArray) (q : Nat) : (Lib.strCells t).drop q = Lib.strCells (t.extract q t.size) := by
  have hz : t.data.toList.length = t.size := by rw [Array.length_toList]; rfl
  have hx : (t.extract q t.size).data.toList = t.data.toList.drop q := by
    simp only [ByteArray.data_extract, Array.toList_extract, List.extract]
    rw [List.take_of_length_le (by rw [List.length_drop]; omega)]
  simp only [Lib.strCells]
  rw [hx, List.map_drop]
/-- The gathered bytes cut ahead. -/
theorem MakerAt.cutText {w : World} {B m : Nat} {l : List Stp} {t : ByteArray} {sv : Value} {A : Option Addr} {c q : Nat} (h : MakerAt w B m l t sv (.slice A t.size c)) (hq : q ≤ t.size) (h0 : 0 < t.size) :
    MakerAt (w.setCell ⟨m, 1, none⟩ (.slice (if c = q then A else A.map (·.add q)) (t.size - q) (c - q))) B m l (t.extract q t.size) sv (.slice (if c = q then A else A.map (·.add q)) (t.size - q) (c - q)) ∧
    Mods (fun j => j = m) w (w.setCell ⟨m, 1, none⟩ (.slice (if c = q then A else A.map (·.add q)) (t.size - q) (c - q))) := by
  have hsl := Lib.strCells_length t
  have hs := (Mods.refl (fun j => j = m) w).setCell ⟨m, 1, none⟩ (fun _ => rfl) (.slice (if c = q then A else A.map (·.add q)) (t.size - q) (c - q))
  have ht := h.text
  rw [← hsl] at ht
  have hd := ht.drop (n := q) (by omega) (by omega)
  rw [hsl, strCells_drop] at hd
  refine ⟨⟨Nat.le_trans h.base hs.size, row_set h.row 1 _, hs.owns h.steps (fun k hk e => h.ne.1 (by rw [← e]; exact hk)), hd.mods hs (fun k hk e => ?_)⟩, hs⟩
  exact hd.ne_row h.row (by decide) k hk e
theorem cells2 {w : World} {g e : Nat} {a b : Value} (h : w.heap[g]? = some (.cells #[a, b] e (0, 0))) :
    w.cell? ⟨g, 0, none⟩ = some a ∧ w.cell? ⟨g, 1, none⟩ = some b ∧ (∀ j, w.frozen? ⟨g, j, none⟩ = false) :=
  ⟨by rw [row_cell h]; rfl, by rw [row_cell h]; rfl, fun j => row_frozen h j⟩
/-- string(b[:n]). -/
theorem conv_at {w : World} {b off : Nat} {t : ByteArray} (h : Rd w (some ⟨b, off, none⟩) (Lib.strCells t)) {n : Nat} (hn : n ≤ t.size) (c : Nat) :
    (convert 89 9 (.slice (some ⟨b, off, none⟩) n c)).run Try.prog w = .ok (.string (t.extract 0 n)) w := by
  have hz : t.data.toList.length = t.size := by rw [Array.length_toList]; rfl
  have hx : (t.extract 0 n).data.toList = t.data.toList.take n := by
    simp [ByteArray.data_extract, Array.toList_extract, List.extract]
  have hs : Lib.strCells t = t.data.toList.map fun b => Value.int .u8 b.toNat := rfl
  rw [hs] at h
  generalize t.data.toList = D at *
  have h1 := run_convert_bytes_arg (P := Try.prog) w 89 5 Try.underlying89 Try.underlying5 b off n c ((D.take n).map fun x => (x.toNat : Int)) (by rw [List.length_map, List.length_take]; omega) (fun i hi => by
    have hi' : i < D.length := by omega
    obtain ⟨b', off', e, hc⟩ := h i (.int .u8 D[i].toNat) (by rw [List.getElem?_map, List.getElem?_eq_getElem hi']; rfl)
    cases e
    rw [hc]
    simp only [List.getD_eq_getElem?_getD, List.getElem?_map, List.getElem?_take, if_pos hi, List.getElem?_eq_getElem hi', Option.map_some, Option.getD_some]) 9 Try.underlying9
  rw [h1]
  have h2 : strOfNums ((D.take n).map fun x => (x.toNat : Int)) = t.extract 0 n := by
    apply ByteArray.ext
    apply Array.ext'
    rw [strOfNums_data, hx, List.map_map]
    conv => rhs; rw [← List.map_id (List.take n D)]
    apply List.map_congr_left
    intro u _
    simp
  rw [h2]
set_option maxRecDepth 100000 in
set_option maxHeartbeats 4000000 in
theorem f138_calls (B m : Nat) (l : List Stp) (t : ByteArray) (sv tv : Value) (w : World) (h : MakerAt w B m l t sv tv) (hb : l.length + t.size ≤ 2000000) :
    Calls Try.prog 138 #[.pointer (some ⟨m, 0, none⟩)] w fun e w' => ∃ sv' tv', e = .returned (.tuple #[]) ∧ MakerAt w' B m (l ++ chunks t) ⟨#[]⟩ sv' tv' ∧ Mods (fun j => B ≤ j ∨ j = m) w w' := by
  have HH := Lib.hid h
  clear h
  go_enter Try.func138, Try.ntmps138
  go_wp2_with fail
  go_loopg [] t.size (fun gk wr => ∃ l' t' sv' tv', gk = t'.size ∧ MakerAt wr B m l' t' sv' tv' ∧ l' ++ chunks t' = l ++ chunks t ∧ l'.length + t'.size ≤ 2000000 ∧ Mods (fun j => B ≤ j ∨ j = m) w wr)
  case atStart => exact ⟨l, t, sv, tv, rfl, HH.out, rfl, hb, Mods.refl _ _⟩
  case round =>
    obtain ⟨l', t', sv', tv', hgk, hM, hc, hl, hm⟩ := hrel
    subst hgk
    have HM := Lib.hid hM
    have HC := Lib.hid hc
    have HMM := Lib.hid hm
    clear hM hc hm
    obtain ⟨A, c, hA, hc1, hc2, hrd, _⟩ := HM.out.text.rd
    have hsl := Lib.strCells_length t'
    rw [hsl] at hA hc1
    subst hA
    obtain ⟨m0, m1, mf⟩ := cells2 HM.out.row
    by_cases h0 : 0 < t'.size
    · obtain ⟨q, hq⟩ : ∃ q, q = min t'.size 4096 := ⟨_, rfl⟩
      have hqi : min (t'.size : Int) 4096 = (q : Int) := by omega
      have hqs : q ≤ t'.size := by omega
      have hq0 : 0 < q := by omega
      have HQ := Lib.hid hq
      obtain ⟨g, off, hA, _⟩ := hrd 0 ((Lib.strCells t')[0]'(by omega)) (List.getElem?_eq_getElem _)
      subst hA
      have hcv := conv_at hrd hqs c
      have hcd : (convert 89 9 (.slice (some ⟨g, off, none⟩) q c)).run Try.prog wr.drew = .ok (.string (t'.extract 0 q)) wr.drew := conv_at (hrd.below ((Mods.refl _ _).drew)) hqs c
      have HO : Hid (wr.ownsRow B 117 3 sv' l'.length (stps l')) := HM.out.steps
      have hBw := HM.out.base
      have ha0 : ∀ o, (wr.alloc o).cell? ⟨m, 0, none⟩ = some sv' := fun o => ((Mods.refl Nope _).alloc o).cell m0 (fun h => h)
      have hc0 : ¬ c = 0 := by omega
      have hqc : q ≤ c := by omega
      clear hq
      have hm64 : min (t'.size : Int) 4096 ≤ 4096 := by omega
      rw [hqi] at hm64
      go_upto_region 2 with fail
      generalize HX : t'.extract 0 q = x at hcd hcv
      have HX := Lib.hid HX
      go_region_law (first
        | (refine step_app3 _ rfl _ _ 54 117 (.agg #[.int .i64 0, .int .i64 0, .string ⟨#[]⟩]) 32 rfl Try.underlying54 info117 rfl sv' l'.length (stps l') (.int .i64 0) (.int .i64 0) (.string x) _ rfl rfl (by simp) (by simp) (by simp) rfl rfl rfl B (by exact (((Mods.refl Nope wr).alloc _).drew).owns HO.out (fun _ _ h => h)) (by simp; omega) (by omega) (by unfold maxLen; omega) ?_; intro g3 cap3 w3 hown3 hg3 hat3
           have HADD := Lib.hid (HM.out.addStep ⟨0, 0, x⟩ (((Mods.refl Nope wr).alloc _).drew) hown3 hg3)
           have hcc : w3.cell? ⟨m, 0, none⟩ = some sv' := by rw [row_cell HADD.out.2.1]; rfl
           have hff : w3.frozen? ⟨m, 0, none⟩ = false := row_frozen HADD.out.2.1 0
           clear hown3 hg3 hat3))
      all_goals
        go_upto_region 3 with fail
        obtain ⟨hM4, _, hm4⟩ := HADD.out
        have HM4 := Lib.hid hM4
        have HMM4 := Lib.hid (HMM.out.trans hm4)
        clear hM4 hm4 HADD hcc hff m0 m1 ha0 mf hcd hcv HM HMM HO
        generalize w3.setCell ⟨m, 0, none⟩ (.slice (some ⟨g3, 0, none⟩) (l'.length + 1) cap3) = w4 at *
        obtain ⟨m0, m1, mf⟩ := cells2 HM4.out.row
        have HDR := Lib.hid (HM4.out.cutText hqs h0)
        have HCC : Hid ((l' ++ [⟨0, 0, x⟩]) ++ chunks (t'.extract q t'.size) = l ++ chunks t) := by
          unfold Hid
          rw [← HC.out, chunks_step h0, ← HQ.out, HX.out]
          simp
        by_cases hcq : c = q
        · rw [if_pos hcq, show c - q = 0 by omega] at HDR
          go_wp2_with fail
          go_roundg (t'.extract q t'.size).size
          case measure => rw [ByteArray.size_extract]; omega
          case rel =>
            refine ⟨_, _, _, _, rfl, HDR.out.1, HCC.out, ?_, HMM4.out.trans (HDR.out.2.mono (fun i _ e => Or.inr e))⟩
            rw [ByteArray.size_extract, List.length_append, List.length_singleton]
            omega
        · rw [if_neg hcq, Option.map_some, add_at] at HDR
          go_wp2_with fail
          go_roundg (t'.extract q t'.size).size
          case measure => rw [ByteArray.size_extract]; omega
          case rel =>
            refine ⟨_, _, _, _, rfl, HDR.out.1, HCC.out, ?_, HMM4.out.trans (HDR.out.2.mono (fun i _ e => Or.inr e))⟩
            rw [ByteArray.size_extract, List.length_append, List.length_singleton]
            omega
    · have ht0 : t' = ⟨#[]⟩ := ByteArray.ext (Array.eq_empty_of_size_eq_zero (by have : t'.data.size = t'.size := rfl; omega))
      have HN := Lib.hid (chunks_nil (s := t') (by omega))
      go_wp2
      go_end0
      refine ⟨sv', .slice A t'.size c, rfl, ?_, HMM.out⟩
      rw [← HC.out, HN.out, List.append_nil, ← ht0]
      exact HM.out
end Go.Proofs.Ytblhbbgkkijkfaa
namespace Go.Proofs.Ytblhbbgkkijkfaa
open Go.RowKit Go.Maps
/-- A copy behind steps. -/
def cpy (l : List Stp) (a n : Int) : List Stp :=
  match l.getLast? with
  | some x => if 0 < x.len ∧ x.pos + x.len = a then l.dropLast ++ [⟨x.pos, x.len + n, x.text⟩] else l ++ [⟨a, n, ⟨#[]⟩⟩]
  | none => l ++ [⟨a, n, ⟨#[]⟩⟩]
theorem cpy_nil (a n : Int) : cpy [] a n = [⟨a, n, ⟨#[]⟩⟩] := rfl
theorem cpy_snoc (l : List Stp) (x : Stp) (a n : Int) : cpy (l ++ [x]) a n = if 0 < x.len ∧ x.pos + x.len = a then l ++ [⟨x.pos, x.len + n, x.text⟩] else (l ++ [x]) ++ [⟨a, n, ⟨#[]⟩⟩] := by
  unfold cpy
  rw [List.getLast?_concat]
  simp only [List.dropLast_concat]
/-- A step that may be. -/
def StpIn (x : Stp) : Prop := 0 ≤ x.pos ∧ 0 ≤ x.len ∧ x.pos + x.len ≤ 524288
theorem chunksN_in : ∀ (n : Nat) (t : ByteArray), ∀ x ∈ chunksN n t, StpIn x := by
  intro n
  induction n with
  | zero => intro t x hx; simp [chunksN] at hx
  | succ n ih =>
    intro t x hx
    unfold chunksN at hx
    split at hx
    · simp at hx
    · rcases List.mem_cons.1 hx with rfl | h
      · exact ⟨by simp, by simp, by simp⟩
      · exact ih _ x h
theorem chunks_in (t : ByteArray) : ∀ x ∈ chunks t, StpIn x := chunksN_in _ t
theorem chunksN_len : ∀ (n : Nat) (t : ByteArray), (chunksN n t).length ≤ t.size := by
  intro n
  induction n with
  | zero => intro t; simp [chunksN]
  | succ n ih =>
    intro t
    unfold chunksN
    split
    · simp
    · have := ih (t.extract (min t.size 4096) t.size)
      rw [ByteArray.size_extract] at this
      rw [List.length_cons]
      omega
theorem chunks_len (t : ByteArray) : (chunks t).length ≤ t.size := chunksN_len _ t
theorem owns_set {w : World} {base e size n g cap j : Nat} {xs : List Value} (h : w.ownsRow base e size (.slice (some ⟨g, 0, none⟩) n cap) n xs) (u : Value) :
    (w.setCell ⟨g, j, none⟩ u).ownsRow base e size (.slice (some ⟨g, 0, none⟩) n cap) n (xs.set j u) := by
  refine ⟨by rw [List.length_set]; exact h.1, ?_⟩
  rcases h.2 with ⟨hv, _⟩ | ⟨g', cap', cur, hv, hb, hg, h1, h2, h3, h4⟩
  · cases hv
  · injection hv with hA _ hcc
    injection hA with hA
    injection hA with hA _ _
    subst hA
    subst hcc
    refine .inr ⟨g, cap, cur.setIfInBounds j u, rfl, hb, row_set hg j u, h1, h2, by simpa using h3, ?_⟩
    rw [← h4, Array.toList_setIfInBounds, List.take_set]
theorem last_cells (l : List Stp) (x : Stp) (y : Int) : (stps (l ++ [x]))[l.length * 3]? = some (.int .i64 x.pos) ∧ (stps (l ++ [x]))[l.length * 3 + 1]? = some (.int .i64 x.len) ∧ (stps (l ++ [x])).set (l.length * 3 + 1) (.int .i64 y) = stps (l ++ [⟨x.pos, y, x.text⟩]) := by
  have h : ∀ z : Stp, stps (l ++ [z]) = stps l ++ [.int .i64 z.pos, .int .i64 z.len, .string z.text] := fun z => by rw [stps_append]; simp [stps, Stp.cells]
  have hl := stps_length l
  refine ⟨?_, ?_, ?_⟩
  · rw [h, List.getElem?_append_right (by omega), hl, Nat.sub_self]; rfl
  · rw [h, List.getElem?_append_right (by omega), hl, Nat.add_sub_cancel_left]; rfl
  · rw [h, h, List.set_append_right _ _ (by omega), hl, Nat.add_sub_cancel_left]; rfl
/-- The last step is longer. -/
theorem MakerAt.longer {w : World} {B m g cap k K : Nat} {l : List Stp} {x : Stp} {t : ByteArray} {tv : Value} (h : MakerAt w B m (l ++ [x]) t (.slice (some ⟨g, 0, none⟩) K cap) tv) (y : Int) (hk : k = l.length) (hK : K = k + 1) :
    MakerAt (w.setCell ⟨g, k * 3 + 1, none⟩ (.int .i64 y)) B m (l ++ [⟨x.pos, y, x.text⟩]) t (.slice (some ⟨g, 0, none⟩) K cap) tv ∧
    Mods (fun j => B ≤ j ∨ j = m) w (w.setCell ⟨g, k * 3 + 1, none⟩ (.int .i64 y)) := by
  subst hK
  subst hk
  have hs := (Mods.refl (fun j => j = g) w).setCell ⟨g, l.length * 3 + 1, none⟩ (fun _ => rfl) (.int .i64 y)
  have hgB := h.steps.lt g rfl
  refine ⟨⟨Nat.le_trans h.base hs.size, hs.row h.row (fun e => h.ne.1 (by rw [e]; rfl)), ?_, h.text.mods hs (fun k hk e => h.sep k hk (by rw [e]; rfl))⟩, hs.mono (fun k _ e => .inl (e ▸ hgB.1))⟩
  have ho := h.steps
  have hl : (l ++ [x]).length = l.length + 1 := by simp
  rw [hl] at ho
  have h2 := owns_set ho (j := l.length * 3 + 1) (.int .i64 y)
  rw [(last_cells l x y).2.2] at h2
  have hl2 : (l ++ [(⟨x.pos, y, x.text⟩ : Stp)]).length = l.length + 1 := by simp
  rw [hl2]
  exact h2
theorem wpList_app3 {P : Program} {ops : Array Oper} {o : Oper} {a : Act} {Q : Exit → Act → World → Prop} {rest : List Oper} (wa : World) (hgd : o.guard = none) (s x : Operand) (t e : TypeId) (z : Value) (bytes : Nat)
    (ho : o.op = .call { callee := .builtin .append, args := #[s, x], argTypes := #[t, t] })
    (ht : P.underlying t = some (.slice e)) (hinfo : (P.info? e).map (fun i => (i.zero, i.size, i.bytes)) = some (some z, 3, bytes)) (hz : z.cells.size = 3)
    (v : Value) (n : Nat) (xs : List Value) (y0 y1 y2 : Value) (B : Nat) (hs : a.eval s = v) (hx : a.eval x = .slice (some ⟨B, 0, none⟩) 1 1) (hy0 : wa.cell? ⟨B, 0, none⟩ = some y0) (hy1 : wa.cell? ⟨B, 1, none⟩ = some y1) (hy2 : wa.cell? ⟨B, 2, none⟩ = some y2)
    (h0 : y0.oneCell' = true) (h1 : y1.oneCell' = true) (h2 : y2.oneCell' = true)
    (base : Nat) (HO : wa.ownsRow base e 3 v n xs) (hbase : base ≤ wa.heap.size) (hl : (n + 1) * bytes ≤ 140737488355328) (hn : n + 1 ≤ maxLen)
    (h : ∀ g cap w1, w1.ownsRow base e 3 (.slice (some ⟨g, 0, none⟩) (n + 1) cap) (n + 1) (xs ++ [y0, y1, y2]) → wa.grownBy w1 v.ownBlock → (v.ownBlock = some g ∨ wa.heap.size ≤ g) → wpList P ops Q rest (a.put o.dst (.slice (some ⟨g, 0, none⟩) (n + 1) cap)) w1) :
    wpList P ops Q (o :: rest) a wa := by
  refine wpList_step (fun K hK => ?_)
  exact step_app3 (E := K (a.put o.dst undef) wa) wa hgd s x t e z bytes ho ht hinfo hz v n xs y0 y1 y2 B hs hx hy0 hy1 hy2 h0 h1 h2 base HO hbase hl hn (fun g cap w1 h2 h3 h4 => hK _ _ (h g cap w1 h2 h3 h4))
set_option maxRecDepth 100000 in
set_option maxHeartbeats 4000000 in
theorem f111_calls (B m : Nat) (l : List Stp) (t : ByteArray) (sv tv : Value) (a n : Int) (w : World) (h : MakerAt w B m l t sv tv) (hb : l.length + t.size ≤ 1000000) (hin : ∀ x ∈ l, StpIn x) (ha : 0 ≤ a) (hn : 0 ≤ n) (han : a + n ≤ 524288) :
    Calls Try.prog 111 #[.pointer (some ⟨m, 0, none⟩), .int .i64 a, .int .i64 n] w fun e w' => ∃ sv' tv', e = .returned (.tuple #[]) ∧ MakerAt w' B m (cpy (l ++ chunks t) a n) ⟨#[]⟩ sv' tv' ∧ Mods (fun j => B ≤ j ∨ j = m) w w' := by
  have hin' : ∀ x ∈ l ++ chunks t, StpIn x := fun x hx => (List.mem_append.1 hx).elim (hin x) (chunks_in t x)
  have hb' : (l ++ chunks t).length ≤ 1000000 := by rw [List.length_append]; have := chunks_len t; omega
  have HC := Lib.hid (f138_calls B m l t sv tv w h (by omega))
  clear hin h hb
  generalize l ++ chunks t = L at *
  go_enter Try.func111, Try.ntmps111
  go_wp2_with fail
  refine HC.out.mono ?_; rintro e w1 ⟨sv1, tv1, rfl, hM1, hm1⟩
  have HM1 := Lib.hid hM1
  have HMM1 := Lib.hid hm1
  clear hM1 hm1 HC
  obtain ⟨A, c, hA, _, _, hrd, _⟩ := Rd.of_owns HM1.out.steps
  subst hA
  obtain ⟨K, hK⟩ : ∃ K, K = L.length := ⟨_, rfl⟩
  rw [← hK] at HM1 hb'
  obtain ⟨m0, m1, mf⟩ := cells2 HM1.out.row
  have HKL := Lib.hid hK
  clear hK
  rcases List.eq_nil_or_concat L with hL | ⟨L0, x, hL⟩
  · have hK0 : K = 0 := by rw [HKL.out, hL]; rfl
    have hki : (K : Int) - 1 = -1 := by omega
    clear hK0
    have HR : Hid (cpy L a n = L ++ [⟨a, n, ⟨#[]⟩⟩]) := by unfold Hid; rw [hL]; rfl
    clear hL
    go_upto_region 2 with fail
    go_quiet (fail)
    generalize HW2 : w1.drewN nq = w2
    have HNQ : Hid (Mods Nope w1 w2) := by unfold Hid; rw [← HW2]; exact (Mods.refl _ _).drewN _
    have HM2 := Lib.hid (HM1.out.mods HNQ.out (fun _ _ _ h => h))
    have HMM2 := Lib.hid (HMM1.out.trans (HNQ.out.any _))
    clear HW2 m0 m1 mf HM1
    obtain ⟨m0, m1, mf⟩ := cells2 HM2.out.row
    have HO : Hid (w2.ownsRow B 117 3 (.slice A K c) L.length (stps L)) := HM2.out.steps
    have hBw := HM2.out.base
    go_wp2_with (at_builtin; refine wpList_app3 _ rfl _ _ 54 117 (.agg #[.int .i64 0, .int .i64 0, .string ⟨#[]⟩]) 32 rfl Try.underlying54 info117 rfl (.slice A K c) L.length (stps L) (.int .i64 a) (.int .i64 n) (.string ⟨#[]⟩) _ rfl rfl (by simp) (by simp) (by simp) rfl rfl rfl B (by exact ((Mods.refl Nope w2).alloc _).owns HO.out (fun _ _ h => h)) (by simp; omega) (by have := HKL.out; omega) (by have := HKL.out; unfold maxLen; omega) ?_)
    intro g3 cap3 w3 hown3 hg3 hat3
    have HADD := Lib.hid (HM2.out.addStep ⟨a, n, ⟨#[]⟩⟩ ((Mods.refl Nope w2).alloc _) hown3 hg3)
    have hcc : w3.cell? ⟨m, 0, none⟩ = some (.slice A K c) := by rw [row_cell HADD.out.2.1]; rfl
    have hff : w3.frozen? ⟨m, 0, none⟩ = false := row_frozen HADD.out.2.1 0
    clear hown3 hg3 hat3 m0 m1 mf
    go_wp2
    go_end0
    have e := HADD.out.1
    rw [← HR.out] at e
    exact ⟨_, _, rfl, e, HMM2.out.trans HADD.out.2.2⟩
  · rw [List.concat_eq_append] at hL
    have hKk : K = L0.length + 1 := by rw [HKL.out, hL]; simp
    obtain ⟨k, hk⟩ : ∃ k, k = L0.length := ⟨_, rfl⟩
    have HK := Lib.hid hk
    rw [← hk] at hKk
    have hki : (K : Int) - 1 = (k : Int) := by omega
    have HKk := Lib.hid hKk
    have hkK : (k : Int) < (K : Int) := by omega
    have hk0 : decide ((0 : Int) ≤ (k : Int)) = true := by simp
    have hx := hin' x (by rw [hL]; simp)
    obtain ⟨x0, x1, x2⟩ := hx
    obtain ⟨e1, e2, _⟩ := last_cells L0 x 0
    rw [← hL, ← hk] at e1 e2
    obtain ⟨g, off, hA, c1⟩ := hrd _ _ e1
    have hgo : off = 0 := by
      rcases HM1.out.steps.2 with ⟨hv, _⟩ | ⟨_, _, _, hv, _⟩
      · rw [hA] at hv; cases hv
      · rw [hA] at hv; cases hv; rfl
    subst hgo
    subst hA
    obtain ⟨_, _, hA, c2⟩ := hrd _ _ e2
    cases hA
    rw [Nat.zero_add] at c1 c2
    have hsum : x.pos + x.len ≤ 524288 := x2
    have HLL := Lib.hid hL
    clear e1 e2 hk hKk hL
    generalize hxp : x.pos = xp at *
    generalize hxl : x.len = xl at *
    by_cases q1 : 0 < xl
    · have hd1 : decide (0 < xl) = true := decide_eq_true q1
      by_cases q2 : xp + xl = a
      · have hd2 : (xp + xl == a) = true := by simp [q2]
        have HR : Hid (cpy L a n = L0 ++ [⟨x.pos, xl + n, x.text⟩]) := by unfold Hid; rw [HLL.out, cpy_snoc, hxp, hxl, if_pos ⟨q1, q2⟩]
        have HQ2 := Lib.hid q2
        clear q2
        go_upto_region 2 with fail
        go_quiet (fail)
        generalize HW2 : w1.drewN nq = w2
        have HNQ : Hid (Mods Nope w1 w2) := by unfold Hid; rw [← HW2]; exact (Mods.refl _ _).drewN _
        have HM2 := Lib.hid (HM1.out.mods HNQ.out (fun _ _ _ h => h))
        have HMM2 := Lib.hid (HMM1.out.trans (HNQ.out.any _))
        clear HW2 m0 m1 mf HM1
        obtain ⟨m0, m1, mf⟩ := cells2 HM2.out.row
        have c3 : w2.cell? ⟨g, k * 3 + 1, none⟩ = some (.int .i64 xl) := HNQ.out.cell c2 (fun h => h)
        have hgm : g < w2.heap.size := (HM2.out.steps.lt g rfl).2
        have hf3 : w2.frozen? ⟨g, k * 3 + 1, none⟩ = false := by
          rcases HM2.out.steps.2 with ⟨hv, _⟩ | ⟨_, _, _, hv, _, hg, _⟩
          · cases hv
          · cases hv; exact row_frozen hg _
        rw [HLL.out] at HM2
        have HLO := Lib.hid (HM2.out.longer (xl + n) HK.out HKk.out)
        have hxn : xl + n ≤ 524288 := by have := HQ2.out; omega
        go_wp2
        refine bodyPost_ret (results_none rfl _ _ _) rfl ?_
        have e := HLO.out.1
        rw [← HR.out] at e
        exact ⟨_, _, rfl, e, HMM2.out.trans HLO.out.2⟩
      · have hd2 : (xp + xl == a) = false := by simpa using q2
        have HR : Hid (cpy L a n = L ++ [⟨a, n, ⟨#[]⟩⟩]) := by unfold Hid; rw [HLL.out, cpy_snoc, hxp, hxl, if_neg (fun h => q2 h.2)]
        clear q2
        go_upto_region 2 with fail
        go_quiet (fail)
        generalize HW2 : w1.drewN nq = w2
        have HNQ : Hid (Mods Nope w1 w2) := by unfold Hid; rw [← HW2]; exact (Mods.refl _ _).drewN _
        have HM2 := Lib.hid (HM1.out.mods HNQ.out (fun _ _ _ h => h))
        have HMM2 := Lib.hid (HMM1.out.trans (HNQ.out.any _))
        clear HW2 m0 m1 mf HM1
        obtain ⟨m0, m1, mf⟩ := cells2 HM2.out.row
        have HO : Hid (w2.ownsRow B 117 3 (.slice (some ⟨g, 0, none⟩) K c) L.length (stps L)) := HM2.out.steps
        have hBw := HM2.out.base
        go_wp2_with (at_builtin; refine wpList_app3 _ rfl _ _ 54 117 (.agg #[.int .i64 0, .int .i64 0, .string ⟨#[]⟩]) 32 rfl Try.underlying54 info117 rfl (.slice (some ⟨g, 0, none⟩) K c) L.length (stps L) (.int .i64 a) (.int .i64 n) (.string ⟨#[]⟩) _ rfl rfl (by simp) (by simp) (by simp) rfl rfl rfl B (by exact ((Mods.refl Nope w2).alloc _).owns HO.out (fun _ _ h => h)) (by simp; omega) (by have := HKL.out; omega) (by have := HKL.out; unfold maxLen; omega) ?_)
        intro g3 cap3 w3 hown3 hg3 hat3
        have HADD := Lib.hid (HM2.out.addStep ⟨a, n, ⟨#[]⟩⟩ ((Mods.refl Nope w2).alloc _) hown3 hg3)
        have hcc : w3.cell? ⟨m, 0, none⟩ = some (.slice (some ⟨g, 0, none⟩) K c) := by rw [row_cell HADD.out.2.1]; rfl
        have hff : w3.frozen? ⟨m, 0, none⟩ = false := row_frozen HADD.out.2.1 0
        clear hown3 hg3 hat3 m0 m1 mf
        go_wp2
        go_end0
        have e := HADD.out.1
        rw [← HR.out] at e
        exact ⟨_, _, rfl, e, HMM2.out.trans HADD.out.2.2⟩
    · have hd1 : decide (0 < xl) = false := decide_eq_false q1
      have HR : Hid (cpy L a n = L ++ [⟨a, n, ⟨#[]⟩⟩]) := by unfold Hid; rw [HLL.out, cpy_snoc, hxp, hxl, if_neg (fun h => q1 h.1)]
      go_upto_region 2 with fail
      go_quiet (fail)
      generalize HW2 : w1.drewN nq = w2
      have HNQ : Hid (Mods Nope w1 w2) := by unfold Hid; rw [← HW2]; exact (Mods.refl _ _).drewN _
      have HM2 := Lib.hid (HM1.out.mods HNQ.out (fun _ _ _ h => h))
      have HMM2 := Lib.hid (HMM1.out.trans (HNQ.out.any _))
      clear HW2 m0 m1 mf HM1
      obtain ⟨m0, m1, mf⟩ := cells2 HM2.out.row
      have HO : Hid (w2.ownsRow B 117 3 (.slice (some ⟨g, 0, none⟩) K c) L.length (stps L)) := HM2.out.steps
      have hBw := HM2.out.base
      go_wp2_with (at_builtin; refine wpList_app3 _ rfl _ _ 54 117 (.agg #[.int .i64 0, .int .i64 0, .string ⟨#[]⟩]) 32 rfl Try.underlying54 info117 rfl (.slice (some ⟨g, 0, none⟩) K c) L.length (stps L) (.int .i64 a) (.int .i64 n) (.string ⟨#[]⟩) _ rfl rfl (by simp) (by simp) (by simp) rfl rfl rfl B (by exact ((Mods.refl Nope w2).alloc _).owns HO.out (fun _ _ h => h)) (by simp; omega) (by have := HKL.out; omega) (by have := HKL.out; unfold maxLen; omega) ?_)
      intro g3 cap3 w3 hown3 hg3 hat3
      have HADD := Lib.hid (HM2.out.addStep ⟨a, n, ⟨#[]⟩⟩ ((Mods.refl Nope w2).alloc _) hown3 hg3)
      have hcc : w3.cell? ⟨m, 0, none⟩ = some (.slice (some ⟨g, 0, none⟩) K c) := by rw [row_cell HADD.out.2.1]; rfl
      have hff : w3.frozen? ⟨m, 0, none⟩ = false := row_frozen HADD.out.2.1 0
      clear hown3 hg3 hat3 m0 m1 mf
      go_wp2
      go_end0
      have e := HADD.out.1
      rw [← HR.out] at e
      exact ⟨_, _, rfl, e, HMM2.out.trans HADD.out.2.2⟩
end Go.Proofs.Ytblhbbgkkijkfaa
