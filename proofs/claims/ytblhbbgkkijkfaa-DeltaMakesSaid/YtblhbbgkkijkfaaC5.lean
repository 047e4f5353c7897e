/- sign.Sign where the size of blocks may not be; barquelaw05.awake. -/
import Derived.Test.YtblhbbgkkijkfaaC4
namespace Go.Proofs.Ytblhbbgkkijkfaa
open Go.RowKit Go.Maps
theorem f30_err (p : Value) (s : ByteArray) (x : Int) (w : World) (h : fitsB x = false) :
    Calls Try.prog 30 #[p, .string s, .int .i64 x] w fun e w' => e = .returned (.tuple #[sigV 0 0 (.slice none 0 0) (.slice none 0 0), .int .i64 1]) ∧ Mods Nope w w' := by
  go_enter Try.func30, Try.ntmps30
  go_wp2_with fail
  refine (f74_calls _ _).mono ?_; rintro e w' ⟨rfl, rfl⟩
  rw [h]
  go_wp2
  refine bodyPost_ret (v := .tuple #[sigV 0 0 (.slice none 0 0) (.slice none 0 0), .int .i64 1]) (by simp [results, Try.results30, go_sem, sigV]) rfl ⟨rfl, ?_⟩
  exact (Mods.refl _ _).alloc _
def zs40 : Array Value := (List.replicate 40 (Value.int .u8 0)).toArray
theorem make40 (w : World) : (Instr.makeSlice 89 (.int .i64 40) (.int .i64 40)).run Try.prog w = .ok (.slice (some ⟨w.heap.size, 0, none⟩) 40 40) (w.alloc (.cells zs40 5)) := by kernel_rfl
def s40 : ByteArray := strOfNums (List.replicate 40 0)
theorem s40_size : s40.size = 40 := by rw [s40, strOfNums_size]; simp
/-- Block g holds the forty noughts. -/
def Z40 (w : World) (g : Nat) : Prop := w.heap[g]? = some (.cells zs40 5 (0, 0))
theorem Z40.new {w : World} {n : Nat} (h : w.heap.size = n) : Z40 (w.alloc (.cells zs40 5)) n := h ▸ heap_alloc_new w _
theorem Z40.alloc {w : World} {g : Nat} (h : Z40 w g) (o : Obj) : Z40 (w.alloc o) g := row_alloc h o
theorem Z40.drew {w : World} {g : Nat} (h : Z40 w g) : Z40 w.drew g := h
theorem conv40 (w : World) (g : Nat) (h : Z40 w g) : (convert 89 9 (.slice (some ⟨g, 0, none⟩) 40 40)).run Try.prog w = .ok (.string s40) w :=
  run_convert_bytes_arg (P := Try.prog) w 89 5 Try.underlying89 Try.underlying5 g 0 40 40 (List.replicate 40 0) (by simp) (fun i hi => by
    rw [Nat.zero_add, row_cell h]
    have e1 : zs40[i]? = some (.int .u8 0) := by
      unfold zs40
      rw [List.getElem?_toArray, List.getElem?_replicate, if_pos hi]
    have e2 : (List.replicate 40 (0 : Int)).getD i 0 = 0 := by
      rw [List.getD_eq_getElem?_getD, List.getElem?_replicate, if_pos hi]; rfl
    rw [e1, e2]) 9 Try.underlying9
theorem sign40 (b mb : Nat) (w : World) (hb : IsBook w b mb (.ideal [])) :
    Calls Try.prog 30 #[.pointer (some ⟨b, 0, none⟩), .string s40, .int .i64 16] w fun e w' => ∃ A c A' c',
      e = .returned (.tuple #[.agg #[.int .i64 16, .int .i64 40, .slice A 3 c, .slice A' 3 c'], .int .i64 0]) ∧ Mods (MB mb) w w' := by
  have h := f30_ok b mb (.ideal []) s40 16 w hb (by simp [Bk.len]) (by rw [s40_size]; omega) (by omega) (by omega)
  refine Calls.mono h fun e w' ⟨wv, sv, he, hw, hs, hbk, hm⟩ => ?_
  rw [s40_size, show cnt 40 16 = 3 by decide] at hw hs
  obtain ⟨A, c, rfl, _⟩ := Rd.of_owns hw
  obtain ⟨A', c', rfl, _⟩ := Rd.of_owns hs
  rw [s40_size] at he
  exact ⟨A, c, A', c', he, hm⟩
/-- Block g holds a signature's noughts. -/
def Z31 (w : World) (g : Nat) : Prop := w.heap[g]? = some (.cells #[.int .i64 0, .int .i64 0, .slice none 0 0, .slice none 0 0] 31 (0, 0))
theorem Z31.new {w : World} {n : Nat} (h : w.heap.size = n) : Z31 (w.alloc (.cells #[.int .i64 0, .int .i64 0, .slice none 0 0, .slice none 0 0] 31)) n := h ▸ heap_alloc_new w _
theorem Z31.alloc {w : World} {g : Nat} (h : Z31 w g) (o : Obj) : Z31 (w.alloc o) g := row_alloc h o
theorem Z31.drew {w : World} {g : Nat} (h : Z31 w g) : Z31 w.drew g := h
theorem Z31.c0 {w : World} {g : Nat} (h : Z31 w g) : w.cell? ⟨g, 0, none⟩ = some (.int .i64 0) := by rw [row_cell h]; rfl
theorem Z31.c1 {w : World} {g : Nat} (h : Z31 w g) : w.cell? ⟨g, 1, none⟩ = some (.int .i64 0) := by rw [row_cell h]; rfl
theorem Z31.c2 {w : World} {g : Nat} (h : Z31 w g) : w.cell? ⟨g, 2, none⟩ = some (.slice none 0 0) := by rw [row_cell h]; rfl
theorem Z31.c3 {w : World} {g : Nat} (h : Z31 w g) : w.cell? ⟨g, 3, none⟩ = some (.slice none 0 0) := by rw [row_cell h]; rfl
theorem Z31.fr {w : World} {g : Nat} (h : Z31 w g) (j : Nat) : w.frozen? ⟨g, j, none⟩ = false := row_frozen h j
theorem book_ne {w : World} {b mb g e : Nat} {L : List ByteArray} {cs : Array Value} {fr : Nat × Nat} (hb : IsBook w b mb (.ideal L)) (hg : w.heap[g]? = some (.cells cs e fr)) : ¬ MB mb g := by
  rintro rfl
  obtain ⟨_, _, _, _, D, ⟨es, clock, h, _⟩, _⟩ := hb
  rw [h] at hg
  cases hg
/-- The cells of that block, for the walk. -/
theorem Z31.all {w : World} {g n : Nat} (h : Z31 w g) (e : g = n) : Z31 w n ∧ w.cell? ⟨n, 0, none⟩ = some (.int .i64 0) ∧ w.cell? ⟨n, 1, none⟩ = some (.int .i64 0) ∧ w.cell? ⟨n, 2, none⟩ = some (.slice none 0 0) ∧ w.cell? ⟨n, 3, none⟩ = some (.slice none 0 0) ∧ (∀ j, w.frozen? ⟨n, j, none⟩ = false) :=
  e ▸ ⟨h, h.c0, h.c1, h.c2, h.c3, h.fr⟩
theorem Z31.keep {w w1 : World} {g : Nat} (hm : Mods Nope w w1) (h : Z31 w g) : Z31 w1 g := hm.row h (fun h => h)
theorem Z31.keepB {w w1 : World} {g b mb : Nat} {L : List ByteArray} (hm : Mods (MB mb) w w1) (hb : IsBook w b mb (.ideal L)) (h : Z31 w g) : Z31 w1 g := hm.row h (book_ne hb h)
theorem Z40.keep {w w1 : World} {g : Nat} (hm : Mods Nope w w1) (h : Z40 w g) : Z40 w1 g := hm.row h (fun h => h)
theorem conv40_0 (w : World) (n : Nat) (h : w.heap.size = n) : (convert 89 9 (.slice (some ⟨n, 0, none⟩) 40 40)).run Try.prog (w.alloc (.cells zs40 5)) = .ok (.string s40) (w.alloc (.cells zs40 5)) :=
  conv40 _ _ (Z40.new h)
theorem conv40_1 (w : World) (n : Nat) (o : Obj) (h : w.heap.size = n) : (convert 89 9 (.slice (some ⟨n, 0, none⟩) 40 40)).run Try.prog ((w.alloc (.cells zs40 5)).alloc o) = .ok (.string s40) ((w.alloc (.cells zs40 5)).alloc o) :=
  conv40 _ _ ((Z40.new h).alloc o)
theorem conv40_2 (w : World) (n : Nat) (h : w.heap.size = n) : (convert 89 9 (.slice (some ⟨n, 0, none⟩) 40 40)).run Try.prog (w.alloc (.cells zs40 5)).drew = .ok (.string s40) (w.alloc (.cells zs40 5)).drew :=
  conv40 _ _ (Z40.new h)
theorem conv40_3 (w : World) (n : Nat) (o : Obj) (h : w.heap.size = n) : (convert 89 9 (.slice (some ⟨n, 0, none⟩) 40 40)).run Try.prog ((w.alloc (.cells zs40 5)).alloc o).drew = .ok (.string s40) ((w.alloc (.cells zs40 5)).alloc o).drew :=
  conv40 _ _ ((Z40.new h).alloc o)
theorem Z40.all {w : World} {g n : Nat} (h : Z40 w g) (e : g = n) : (convert 89 9 (.slice (some ⟨n, 0, none⟩) 40 40)).run Try.prog w = .ok (.string s40) w ∧ ∀ o, (convert 89 9 (.slice (some ⟨n, 0, none⟩) 40 40)).run Try.prog (w.alloc o) = .ok (.string s40) (w.alloc o) :=
  e ▸ ⟨conv40 _ _ h, fun o => conv40 _ _ (h.alloc o)⟩
set_option maxRecDepth 100000 in
set_option maxHeartbeats 1000000 in
theorem f27_calls (w : World) : Calls Try.prog 27 #[] w fun e w' => e = .returned (.bool true) ∧ Mods Nope w w' := by
  have hmk := make40
  have cv0 := conv40_0
  have cv1 := conv40_1
  have cv2 := conv40_2
  have cv3 := conv40_3
  go_enter Try.func27, Try.ntmps27
  go_upto_region 1 with fail
  go_cut [1, 2] (fun p e wx => ∃ g, p = .pointer (some ⟨g, 0, none⟩) ∧ e = .int .i64 0 ∧ (∃ A c, wx.cell? ⟨g, 2, none⟩ = some (.slice A 3 c)) ∧ (∃ A c, wx.cell? ⟨g, 3, none⟩ = some (.slice A 3 c)) ∧ Mods Nope w wx)
  case first =>
    go_region_with (first
      | (go_at_call 29; refine (f29_calls _).mono ?_; rintro e w1 ⟨b, mb, rfl, hb1, hmb1, hbk, hm⟩
         first
           | (have zA0 := Z40.keep hm (by repeat (with_reducible first | exact Z40.new rfl | apply Z40.drew | apply Z40.alloc))
              obtain ⟨zA, zB⟩ := zA0.all (by first | (simp only [World.size_alloc]; rfl) | rfl)
              clear zA0)
           | have zA : True := trivial
         have HM1 : Hid (Mods Nope w w1) := Mods.trans (by repeat (with_reducible first | exact Mods.refl _ _ | apply Mods.alloc | apply Mods.drew)) hm
         have HMB : Hid (w.heap.size ≤ mb) := Nat.le_trans (Mods.size (M := Nope) (by repeat (with_reducible first | exact Mods.refl _ _ | apply Mods.alloc | apply Mods.drew))) hmb1
         first
           | (have yA0 := Z31.keep hm (by repeat (with_reducible first | exact Z31.new rfl | apply Z31.drew | apply Z31.alloc))
              obtain ⟨yA, _⟩ := yA0.all (by first | (simp only [World.size_alloc]; rfl) | rfl)
              clear yA0)
           | have yA : True := trivial
         clear hb1 hmb1 hm)
      | (go_at_call 30; refine (sign40 b mb _ (hbk.nope (by repeat (with_reducible first | exact Mods.refl _ _ | apply Mods.alloc | apply Mods.drew)))).mono ?_; rintro e w4 ⟨A, c, A', c', rfl, hm4⟩
         have HM4 : Hid (Mods Nope w w4) := Mods.then (by repeat (with_reducible first | exact HM1.out | apply Mods.alloc | apply Mods.drew)) hm4 (fun i hi (e : i = mb) => absurd (e ▸ hi) (Nat.not_lt.2 HMB.out))
         first
           | (have yB0 := Z31.keepB hm4 (hbk.nope (by repeat (with_reducible first | exact Mods.refl _ _ | apply Mods.alloc | apply Mods.drew))) (by repeat (with_reducible first | exact yA | exact Z31.new rfl | apply Z31.drew | apply Z31.alloc))
              obtain ⟨yB, k0, k1, k2, k3, kf⟩ := yB0.all (by first | (simp only [World.size_alloc]; rfl) | rfl)
              clear yB0)
           | have yB : True := trivial
         clear hm4))
    all_goals go_wp2_with fail
    all_goals
      go_meet
      refine ⟨_, rfl, rfl, ⟨A, c, ?_⟩, ⟨A', c', ?_⟩, ?_⟩
      · go_simp
      · go_simp
      · repeat (with_reducible first | exact HM4.out | apply Mods.alloc | apply Mods.drew | refine Mods.setCell ?_ _ (fun h => absurd h (by have := HM1.out.size; simp; try omega)) _)
  case rest =>
    obtain ⟨g, rfl, rfl, ⟨A, c, hA⟩, ⟨A', c', hA'⟩, hm⟩ := hcut
    go_wp2_with fail
    refine (f25_calls _ _).mono ?_; rintro e w1 ⟨rfl, rfl⟩
    have hs : sblk 257 = 32 := by decide
    rw [hs]
    go_wp2
    go_ret
    exact ⟨rfl, hm⟩
end Go.Proofs.Ytblhbbgkkijkfaa
