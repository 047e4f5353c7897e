/- roll: Skip and New, walked. -/
import Derived.Test.YtblhbbgkkijkfaaK1
namespace Go.Proofs.Ytblhbbgkkijkfaa
open Go.RowKit Go.Maps
theorem win_sub {s : ByteArray} {k n : Nat} : s.extract k (k + n) = win s k n := rfl
theorem wk_mod (s : ByteArray) : (wk s).tmod 65536 = wA s ∧ (wk s).tdiv 65536 = wB s := by
  have hA := wA_range s
  have hB := wB_range s
  rw [wk_AB]
  generalize wA s = a at *
  generalize wB s = b at *
  rw [Int.tmod_eq_emod_of_nonneg (by omega), Int.tdiv_eq_ediv_of_nonneg (by omega)]
  omega
set_option maxRecDepth 100000 in
set_option maxHeartbeats 4000000 in
theorem f112_skip (g : Nat) (s : ByteArray) (k n : Nat) (w : World) (h : RollAt w g s k n) (hn : 0 < n) (hn2 : n ≤ 1024) (hs : s.size ≤ 524288) (he : k + n + n ≤ s.size) :
    Calls Try.prog 112 #[.pointer (some ⟨g, 0, none⟩), .int .i64 n] w fun e w' => e = .returned (.bool true) ∧ RollAt w' g s (k + n) n ∧ Mods (fun j => j = g) w w' := by
  have HH := Lib.hid h
  obtain ⟨t0, t1, t2, _, _, _⟩ := cells5 h.row
  have hr := h.room
  have q1 : ((n : Int) == 0) = false := by simp; omega
  have q2 : decide ((n : Int) < 0) = false := by simp
  obtain ⟨m, hm⟩ : ∃ m, m = s.size - n := ⟨_, rfl⟩
  have hmi : (s.size : Int) - (n : Int) = (m : Int) := by omega
  obtain ⟨m2, hm2⟩ : ∃ m2, m2 = m - k := ⟨_, rfl⟩
  have hmi2 : (m : Int) - (k : Int) = (m2 : Int) := by omega
  have q3 : decide ((m2 : Int) < (n : Int)) = false := by simp; omega
  have q4 : decide (m2 < n) = false := by simp; omega
  have q5 : decide ((n : Int) < (n : Int)) = false := by simp
  have hm3 : m ≤ 524288 := by omega
  have hm4 : m2 ≤ 524288 := by omega
  obtain ⟨e, hee⟩ : ∃ e, e = k + n := ⟨_, rfl⟩
  have hei : (k : Int) + (n : Int) = (e : Int) := by omega
  obtain ⟨e2, hee2⟩ : ∃ e2, e2 = e + n := ⟨_, rfl⟩
  have hei2 : (e : Int) + (n : Int) = (e2 : Int) := by omega
  have he2s : e2 ≤ s.size := by omega
  have hes : e ≤ e2 := by omega
  have HE := Lib.hid hee
  have HE2 := Lib.hid hee2
  clear h hm hm2 hee hee2
  go_enter Try.func112, Try.ntmps112
  go_upto_region 1 with fail
  go_quiet (fail)
  generalize HW1 : w.drewN nq = w1
  have HM1 : Hid (Mods Nope w w1) := by unfold Hid; rw [← HW1]; exact (Mods.refl _ _).drewN _
  have HH1 := Lib.hid (HH.out.mods HM1.out (fun h => h))
  clear HW1 t0 t1 t2
  obtain ⟨t0, t1, t2, t3, t4, tf⟩ := cells5 HH1.out.row
  have HRW := Lib.hid HH1.out.row
  generalize wA (win s k n) = a at *
  generalize wB (win s k n) = b at *
  go_upto_region 10 with fail
  have HRW2 : Hid ((w1.setCell ⟨g, 2, none⟩ (.int .i64 e)).heap[g]? = some (.cells #[.string s, .int .i64 n, .int .i64 e, .int .i64 a, .int .i64 b] 159 (0, 0))) := row_set HRW.out 2 _
  have HM2 : Hid (Mods (fun j => j = g) w1 (w1.setCell ⟨g, 2, none⟩ (.int .i64 e))) := ((Mods.refl (fun j => j = g) w1).setCell ⟨g, 2, none⟩ (fun _ => rfl) _)
  clear t0 t1 t2 t3 t4 tf
  generalize w1.setCell ⟨g, 2, none⟩ (.int .i64 e) = w2 at *
  obtain ⟨t0, t1, t2, t3, t4, tf⟩ := cells5 HRW2.out
  go_quiet ((go_at_call 77; exact Calls.quiet_of_same (f77_calls _ _ (by rw [ByteArray.size_extract]; omega))))
  have hw : s.extract e e2 = win s e n := by unfold win; rw [HE2.out]
  rw [hw]
  obtain ⟨h1, h2⟩ := wk_mod (win s e n)
  have hBr := wB_range (win s e n)
  have hAr := wA_range (win s e n)
  have hr := wk_range (win s e n)
  generalize HX : wA (win s e n) = a' at *
  generalize HY : wB (win s e n) = b' at *
  have HX := Lib.hid HX
  have HY := Lib.hid HY
  generalize wk (win s e n) = x at *
  have HRW3 : Hid ((w2.drewN nq).heap[g]? = some (.cells #[.string s, .int .i64 n, .int .i64 e, .int .i64 a, .int .i64 b] 159 (0, 0))) := HRW2.out
  have HM3 : Hid (Mods (fun j => j = g) w1 (w2.drewN nq)) := HM2.out.drewN _
  clear t0 t1 t2 t3 t4 tf
  generalize w2.drewN nq = w3 at *
  obtain ⟨t0, t1, t2, t3, t4, tf⟩ := cells5 HRW3.out
  have u4 : (w3.setCell ⟨g, 3, none⟩ (.int .i64 a')).cell? ⟨g, 4, none⟩ = some (.int .i64 b) := by rw [row_cell (row_set HRW3.out 3 _)]; rfl
  have uf : (w3.setCell ⟨g, 3, none⟩ (.int .i64 a')).frozen? ⟨g, 4, none⟩ = false := row_frozen (row_set HRW3.out 3 _) 4
  go_wp2
  go_ret
  have HRW4 : ((w3.setCell ⟨g, 3, none⟩ (.int .i64 a')).setCell ⟨g, 4, none⟩ (.int .i64 b')).heap[g]? = some (.cells #[.string s, .int .i64 n, .int .i64 e, .int .i64 a', .int .i64 b'] 159 (0, 0)) := row_set (row_set HRW3.out 3 _) 4 _
  refine ⟨rfl, ⟨?_, by have := HE.out; have := HE2.out; omega⟩, (HM1.out.any _).trans ((HM3.out.setCell _ (fun _ => rfl) _).setCell _ (fun _ => rfl) _)⟩
  rw [← HE.out, HX.out, HY.out]
  exact HRW4
theorem f108_short (s : ByteArray) (n : Nat) (w : World) (hn : 0 < n) (hn2 : n ≤ 1024) (he : s.size < n) :
    Calls Try.prog 108 #[.string s, .int .i64 n] w fun e w' => e = .returned (.tuple #[.pointer none, .int .i64 3]) ∧ w' = w := by
  go_enter Try.func108, Try.ntmps108
  go_wp2
  go_ret2
  exact ⟨rfl, rfl⟩
theorem f108_new (s : ByteArray) (n : Nat) (w : World) (hn : 0 < n) (hn2 : n ≤ 1024) (he : n ≤ s.size) :
    Calls Try.prog 108 #[.string s, .int .i64 n] w fun e w' => ∃ g, e = .returned (.tuple #[.pointer (some ⟨g, 0, none⟩), .int .i64 0]) ∧ RollAt w' g s 0 n ∧ w.heap.size ≤ g ∧ Mods Nope w w' := by
  have hz : (win s 0 n).size ≤ 524288 := by rw [win_size (by omega)]; omega
  have hw : s.extract 0 n = win s 0 n := by unfold win; rw [Nat.zero_add]
  obtain ⟨h1, h2⟩ := wk_mod (win s 0 n)
  have hr := wk_range (win s 0 n)
  have hBr := wB_range (win s 0 n)
  have hAr := wA_range (win s 0 n)
  go_enter Try.func108, Try.ntmps108
  go_wp2_with fail
  refine (f77_calls (win s 0 n) _ hz).mono ?_; rintro e w1 ⟨rfl, rfl⟩
  generalize wk (win s 0 n) = x at *
  go_wp2
  go_ret2
  exact ⟨_, rfl, ⟨heap_alloc_new _ _, by omega⟩, Nat.le_refl _, (Mods.refl _ _).alloc _⟩
end Go.Proofs.Ytblhbbgkkijkfaa
