/- barquelaw05.SignReads, walked. -/
import Derived.Test.YtblhbbgkkijkfaaC5
import Derived.Test.YtblhbbgkkijkfaaSM
import Derived.Test.YtblhbbgkkijkfaaOG
namespace Go.Proofs.Ytblhbbgkkijkfaa
open Go.RowKit Go.Maps
set_option maxRecDepth 100000 in
set_option maxHeartbeats 2000000 in
theorem signReads_walk (a0 : ByteArray) (w0 : a0.size ≤ maxLen) (w : World) :
    Calls Try.prog 9 #[.string a0] w fun e w' => e = .returned (.bool true) ∧ Mods Nope w w' := by
  have HS := Lib.hid w0
  clear w0
  go_enter Try.func9, Try.ntmps9
  go_wp2_with fail
  refine (f28_calls a0 12000 _ HS.out (by omega)).mono ?_; rintro e w1 ⟨rfl, rfl⟩
  have HT : Hid ((cutT a0 12000).size ≤ maxLen) := by have := cutT_size a0 12000; unfold Hid maxLen; omega
  generalize cutT a0 12000 = t at HT ⊢
  have hC1 := fun wx => f52_calls t wx HT.out
  have hC2 := fun wx => f53_calls t wx HT.out
  generalize sigOf t = X at hC1 hC2
  obtain ⟨blk, size, ws, ms, er⟩ := X
  unfold OfPost at hC1 hC2
  have HC1 := Lib.hid hC1
  have HC2 := Lib.hid hC2
  clear hC1 hC2
  go_wp2_with fail
  refine (HC1.out _).mono ?_; rintro e w2 ⟨wv, sv, rfl, hw2, hs2, hm2⟩
  obtain ⟨A, c, rfl, hlc, hc, hrw, _⟩ := Rd.of_owns hw2
  obtain ⟨A', c', rfl, hlc', hc', hrs, _⟩ := Rd.of_owns hs2
  simp only [sigV]
  have HW2 := Lib.hid hrw
  have HS2 := Lib.hid hrs
  have HM2 := Lib.hid hm2
  have HB1 : Hid (ws.length ≤ 9223372036854775807) := Nat.le_trans hlc hc
  have HB2 : Hid (ms.length ≤ 9223372036854775807) := Nat.le_trans hlc' hc'
  clear hw2 hs2 hm2 hrw hrs hlc hc hlc' hc'
  go_wp2_with fail
  refine (HC2.out _).mono ?_; rintro e w3 ⟨wv, sv, rfl, hw3, hs3, hm3⟩
  obtain ⟨B, d, rfl, _, _, hrw, _⟩ := Rd.of_owns hw3
  obtain ⟨B', d', rfl, _, _, hrs, _⟩ := Rd.of_owns hs3
  simp only [sigV]
  have HW3 := Lib.hid hrw
  have HS3 := Lib.hid hrs
  have hMX := ((Mods.refl Nope w2).alloc (.cells #[.int .i64 blk, .int .i64 size, .slice A ws.length c, .slice A' ms.length c'] 31)).trans hm3
  have HW2' := Lib.hid (HW2.out.below hMX)
  have HS2' := Lib.hid (HS2.out.below hMX)
  have HG := Lib.hid (hm3.row (heap_alloc_new w2 (.cells #[.int .i64 blk, .int .i64 size, .slice A ws.length c, .slice A' ms.length c'] 31)) (fun h => h))
  have HM3 := Lib.hid (HM2.out.trans hMX)
  have hz : w2.heap.size < w3.heap.size := row_lt HG.out
  clear hw3 hs3 hm3 hrw hrs hMX HW2 HS2 HM2
  have g0 : w3.cell? ⟨w2.heap.size, 0, none⟩ = some (.int .i64 blk) := by rw [row_cell HG.out]; rfl
  have g1 : w3.cell? ⟨w2.heap.size, 1, none⟩ = some (.int .i64 size) := by rw [row_cell HG.out]; rfl
  have g2 : w3.cell? ⟨w2.heap.size, 2, none⟩ = some (.slice A ws.length c) := by rw [row_cell HG.out]; rfl
  have g3 : w3.cell? ⟨w2.heap.size, 3, none⟩ = some (.slice A' ms.length c') := by rw [row_cell HG.out]; rfl
  have hee : (er == er) = true := by simp
  go_wp2_with fail
  refine (f46_true blk size A A' B B' c c' d d' _ _ ws ms _ rfl rfl (HW2'.out.alloc _) (HS2'.out.alloc _) (HW3.out.alloc _) (HS3.out.alloc _) HB1.out HB2.out).mono ?_; rintro e w4 ⟨rfl, hm4⟩
  have HM4 := Lib.hid ((HM3.out.alloc (.cells #[.int .i64 blk, .int .i64 size, .slice B ws.length d, .slice B' ms.length d'] 31)).trans hm4)
  clear hm4 g0 g1 g2 g3
  go_wp2_with fail
  refine (f27_calls _).mono ?_; rintro e w5 ⟨rfl, h5⟩
  go_wp2
  go_ret
  exact ⟨rfl, HM4.out.trans h5⟩
end Go.Proofs.Ytblhbbgkkijkfaa
