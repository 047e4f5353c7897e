/- marks.numbered, marks.Ideal, (*Book).none, Mark, Is, walked: the book of this program. -/
import Derived.Test.YtblhbbgkkijkfaaC1
namespace Go.Proofs.Ytblhbbgkkijkfaa
open Go.RowKit Go.Maps

def zs32 : Array Value := (List.replicate 32 (Value.int .u8 0)).toArray
theorem make32 (w : World) : (Instr.makeSlice 89 (.int .i64 32) (.int .i64 32)).run Try.prog w = .ok (.slice (some ⟨w.heap.size, 0, none⟩) 32 32) (w.alloc (.cells zs32 5)) := by kernel_rfl
/-- The bytes of a number's mark, as far as the loop has come. -/
def markUpto (n k : Nat) : List Int := (List.range 32).map fun i => if i < k then ((n / 2 ^ (8 * (i % 8)) % 256 : Nat) : Int) else 0
theorem markUpto_end (n : Nat) : markUpto n 32 = markNums n := by
  unfold markUpto markNums
  apply List.map_congr_left
  intro i hi
  rw [if_pos (by simpa using hi)]
theorem markUpto_step (n k : Nat) (hk : k < 32) : (markUpto n k).set k ((n / 2 ^ (8 * (k % 8)) % 256 : Nat) : Int) = markUpto n (k + 1) := by
  apply List.ext_getElem?
  intro i
  simp only [markUpto, List.getElem?_set, List.getElem?_map, List.length_map, List.length_range]
  by_cases h : k = i
  · subst h
    simp [hk]
  · simp only [if_neg h]
    rcases Nat.lt_or_ge i 32 with hi | hi
    · simp only [List.getElem?_range hi, Option.map_some, Option.some.injEq]
      by_cases h2 : i < k
      · rw [if_pos h2, if_pos (by omega)]
      · rw [if_neg h2, if_neg (by omega)]
    · rw [List.getElem?_eq_none (by simpa using hi)]
      rfl
def bytesV (xs : List Int) : List Value := xs.map (Value.int .u8)
theorem zs32_eq (n : Nat) : zs32 = (bytesV (markUpto n 0)).toArray := by
  unfold zs32 bytesV markUpto
  simp
  rfl
theorem markUpto_length (n k : Nat) : (markUpto n k).length = 32 := by simp [markUpto]
theorem bytesV_length (xs : List Int) : (bytesV xs).length = xs.length := by simp [bytesV]

set_option maxHeartbeats 400000 in
theorem f82_calls (n : Nat) (w : World) :
    Calls Try.prog 82 #[.int .i64 n] w fun e w' => e = .returned (.string (mark n)) ∧ Mods Nope w w' := by
  have hmk := make32
  have H0 := Lib.hid ((World.ownsRow_lit (base := w.heap.size) (e := 5) (size := 1) w zs32 32 (Nat.le_refl _) (by simp [maxLen]) (by simp [zs32])))
  go_enter Try.func82, Try.ntmps82
  go_wp2
  go_loopw [8] (fun i wr => ∃ k : Nat, k ≤ 32 ∧ i = .int .i64 k ∧ wr.ownsRow w.heap.size 5 1 (.slice (some ⟨w.heap.size, 0, none⟩) 32 32) 32 (bytesV (markUpto n k)) ∧ Mods Nope w wr) (fun i _ => 32 - (intOf i).toNat)
  case atStart =>
    refine ⟨0, by omega, rfl, ?_, (Mods.refl _ _).alloc _⟩
    have h := H0.out
    rw [zs32_eq n] at h ⊢
    simpa using h
  case round =>
    obtain ⟨k, hk, rfl, hown, hm⟩ := hrel
    have hfz := hown.frozenAt k
    by_cases hlt : k < 32
    · have hc := hown.cellAt k (by omega)
      rw [show (bytesV (markUpto n k))[k]? = some (.int .u8 0) by simp [bytesV, markUpto, hlt]] at hc
      have hst := hown.stored k (.int .u8 ((n / 2 ^ (8 * (k % 8)) % 256 : Nat) : Int))
      have HS := Lib.hid hst
      clear hst
      have e8 : (8 : Int) * ((k : Int) % 8) ≤ 56 := by omega
      go_wp2
      go_roundw
      case rel =>
        refine ⟨k + 1, by omega, by go_num, ?_, ?_⟩
        · have h := HS.out.1
          rw [show (bytesV (markUpto n k)).set k (.int .u8 ((n / 2 ^ (8 * (k % 8)) % 256 : Nat) : Int)) = bytesV (markUpto n (k + 1)) by rw [← markUpto_step n k hlt]; simp [bytesV, List.map_set]] at h
          simpa using h
        · exact hm.setCell _ (fun h => absurd h (Nat.lt_irrefl _)) _
      case measure => simp [intOf]; omega
    · obtain rfl : k = 32 := by omega
      rw [markUpto_end] at hown
      have hcv := run_convert_bytes_arg (P := Try.prog) wr 89 5 Try.underlying89 Try.underlying5 w.heap.size 0 32 32 (markNums n) (markNums_length n) (fun i hi => by
        rw [Nat.zero_add]
        have := hown.cellAt i (by omega)
        rw [this]
        simp [bytesV, markNums, hi]) 9 Try.underlying9
      go_wp2
      go_ret
      exact ⟨rfl, hm⟩

theorem f82_int (x : Int) (n : Nat) (w : World) (h : x = n) :
    Calls Try.prog 82 #[.int .i64 x] w fun e w' => e = .returned (.string (mark n)) ∧ Mods Nope w w' := by
  subst h
  exact f82_calls n w

/-! ### The book -/
/-- What the sum of a real book's mixer does. -/
def Sums (mix : Array Value) (f : ByteArray → ByteArray) : Prop :=
  ∀ (s : ByteArray) (w : World), s.size ≤ 140737488351232 → Calls Try.prog 81 #[.agg mix, .string s] w fun e w' => e = .returned (.string (f s)) ∧ Mods Nope w w'
/-- The map of an ideal book holds just the texts of L, each with its place. -/
def SeenAs (D : DataW Unit) (L : List ByteArray) : Prop :=
  Tidy D ∧ Maps.size D = L.length ∧ ∀ s : ByteArray, has D (.string s.data.toList) = decide (place s L < L.length) ∧ (place s L < L.length → D.atKey (.string s.data.toList) (.lit (.int .i64 0)) = .lit (.int .i64 (place s L + 1 : Nat)))
/-- b is a book's block; mb its map's. -/
def IsBook (w : World) (b mb : Nat) : Bk → Prop
  | .ideal L => b ≠ mb ∧ w.cell? ⟨b, 72, none⟩ = some (.bool false) ∧ w.cell? ⟨b, 73, none⟩ = some (.map (some mb)) ∧ w.cell? ⟨b, 74, none⟩ = some (.bool true) ∧
      ∃ D, w.ownsMap Try.prog 9 (plainElem Try.prog 3) mb L.length D ∧ SeenAs D L
  | .real f => w.cell? ⟨b, 72, none⟩ = some (.bool true) ∧ mb = b ∧ ∃ mix : Array Value, mix.size = 72 ∧ (∀ j (h : j < mix.size), w.cell? ⟨b, j, none⟩ = some mix[j]) ∧ Sums mix f
theorem IsBook.lt {w : World} {b mb : Nat} {B : Bk} (h : IsBook w b mb B) : b < w.heap.size ∧ mb < w.heap.size := by
  cases B with
  | ideal L =>
    obtain ⟨_, h1, _, _, D, h4, _⟩ := h
    exact ⟨lt_of_cell h1, h4.lt⟩
  | real f =>
    obtain ⟨h1, rfl, _⟩ := h
    exact ⟨lt_of_cell h1, lt_of_cell h1⟩
theorem IsBook.mods {M : Nat → Prop} {w w' : World} {b mb : Nat} {B : Bk} (h : IsBook w b mb B) (hm : Mods M w w') (hb : ¬ M b) (hmb : ¬ M mb) : IsBook w' b mb B := by
  cases B with
  | ideal L =>
    obtain ⟨h0, h1, h2, h3, D, h4, h5⟩ := h
    exact ⟨h0, hm.cell h1 hb, hm.cell h2 hb, hm.cell h3 hb, D, hm.ownsMap h4 hmb, h5⟩
  | real f =>
    obtain ⟨h1, h2, mix, h3, h4, h5⟩ := h
    exact ⟨hm.cell h1 hb, h2, mix, h3, fun j hj => hm.cell (h4 j hj) hb, h5⟩
theorem IsBook.nope {w w' : World} {b mb : Nat} {B : Bk} (h : IsBook w b mb B) (hm : Mods Nope w w') : IsBook w' b mb B := h.mods hm (fun h => h) (fun h => h)
/-- The map's block alone may be changed by marking. -/
def MB (mb : Nat) (k : Nat) : Prop := k = mb

theorem f80_ideal (b : Nat) (w : World) (h0 : w.cell? ⟨b, 72, none⟩ = some (.bool false)) (h1 : w.cell? ⟨b, 74, none⟩ = some (.bool true)) :
    Calls Try.prog 80 #[.pointer (some ⟨b, 0, none⟩)] w fun e w' => e = .returned (.bool false) ∧ w' = w := by
  go_enter Try.func80, Try.ntmps80
  go_wp2
  go_ret
  exact ⟨rfl, rfl⟩
theorem f80_real (b : Nat) (w : World) (h0 : w.cell? ⟨b, 72, none⟩ = some (.bool true)) :
    Calls Try.prog 80 #[.pointer (some ⟨b, 0, none⟩)] w fun e w' => e = .returned (.bool false) ∧ w' = w := by
  go_enter Try.func80, Try.ntmps80
  go_wp2
  go_ret
  exact ⟨rfl, rfl⟩

theorem seen_empty : SeenAs (.map []) [] := by
  refine ⟨tidy_empty, rfl, fun s => ⟨rfl, fun h => ?_⟩⟩
  simp [place] at h
theorem book_cells (m : Value) : ((Try.zeroCells97.setIfInBounds 74 (Value.bool true)).setIfInBounds 73 m)[72]? = some (.bool false) ∧
    ((Try.zeroCells97.setIfInBounds 74 (Value.bool true)).setIfInBounds 73 m)[73]? = some m ∧ ((Try.zeroCells97.setIfInBounds 74 (Value.bool true)).setIfInBounds 73 m)[74]? = some (.bool true) :=
  ⟨by kernel_rfl, by kernel_rfl, by kernel_rfl⟩
theorem f29_calls (w : World) :
    Calls Try.prog 29 #[] w fun e w' => ∃ b mb, e = .returned (.pointer (some ⟨b, 0, none⟩)) ∧ w.heap.size ≤ b ∧ w.heap.size ≤ mb ∧ IsBook w' b mb (.ideal []) ∧ Mods Nope w w' := by
  have hmm := @run_makeMap Try.prog
  go_enter Try.func29, Try.ntmps29
  go_wp2
  go_ret
  have hrow := heap_alloc_new (w.alloc (.map #[] 0)) (.cells ((Try.zeroCells97.setIfInBounds 74 (Value.bool true)).setIfInBounds 73 (Value.map (some w.heap.size))) 97)
  have hb := book_cells (Value.map (some w.heap.size))
  have hsz : (w.alloc (.map #[] 0)).heap.size = w.heap.size + 1 := by simp
  rw [hsz] at hrow
  refine ⟨w.heap.size + 1, w.heap.size, rfl, by omega, by omega, ⟨by omega, ?_, ?_, ?_, .map [], ?_, seen_empty⟩, ?_⟩
  · rw [cell_of_row _ _ _ _ _ _ hrow]; exact hb.1
  · rw [cell_of_row _ _ _ _ _ _ hrow]; exact hb.2.1
  · rw [cell_of_row _ _ _ _ _ _ hrow]; exact hb.2.2
  · exact (World.ownsMap_made w Try.prog 9 (plainElem Try.prog 3)).alloc _
  · exact ((Mods.refl _ _).alloc _).alloc _

theorem seen_put {D : DataW Unit} {L : List ByteArray} (h : SeenAs D L) (s : ByteArray) (hs : ¬ place s L < L.length) :
    SeenAs (D.put (.string s.data.toList) (.lit (.int .i64 (L.length + 1 : Nat)))) (L ++ [s]) := by
  obtain ⟨h1, h2, h3⟩ := h
  have hk : ∀ t : ByteArray, WideAt.IsKeyLit (.string t.data.toList) := fun t => by simp [WideAt.IsKeyLit]
  have hno : s ∉ L := fun hm => hs (place_lt.2 hm)
  refine ⟨h1.put (hk s) _, ?_, fun t => ?_⟩
  · rw [size_put h1, (h3 s).1]
    simp [hs, h2]
  · by_cases e : t = s
    · subst e
      rw [has_put_same h1.isMap (hk t), place_snoc hno]
      refine ⟨by simp, fun _ => ?_⟩
      rw [atKey_put_same h1.isMap (hk t)]
    · have hne : (Lit.string t.data.toList) ≠ .string s.data.toList := by
        intro h
        injection h with h
        exact e (by cases t; cases s; simp_all)
      rw [has_put_other hne, (h3 t).1]
      have hp : place t L < L.length → place t (L ++ [s]) = place t L := fun h => place_append (place_lt.1 h) _
      by_cases ht : place t L < L.length
      · refine ⟨?_, fun _ => ?_⟩
        · rw [hp ht]; simp [ht]; omega
        · rw [atKey_put_other hne, (h3 t).2 ht, hp ht]
      · have hm : t ∉ L ++ [s] := by
          intro hm
          rcases List.mem_append.1 hm with hm | hm
          · exact ht (place_lt.2 hm)
          · simp at hm; exact e hm
        have hout : ¬ place t (L ++ [s]) < (L ++ [s]).length := fun h => hm (place_lt.1 h)
        exact ⟨by simp only [ht, hout], fun h => absurd h hout⟩
theorem law9 : Keyed Try.prog 9 := string_keyed Try.underlying9
theorem zero3 (w : World) : (zeroValue 3).run Try.prog w = .ok (.int .i64 0) w := by kernel_rfl

theorem wf_small (n : Nat) (h : n < 1125899906842624) : (Lit.int .i64 ((n : Int) + 1)).wf = true := WalkArith.wf_i64 (by omega)
theorem room_small (n : Nat) (h : n < 1125899906842624) : n < maxLen := by unfold maxLen; omega
theorem lit_inj {H : Type} {a b : Int} (h : (DataW.lit (.int .i64 a) : DataW H) = .lit (.int .i64 b)) : a = b := by simpa using h
set_option maxRecDepth 100000 in
set_option maxHeartbeats 1000000 in
theorem f78_ideal (b mb : Nat) (L : List ByteArray) (s : ByteArray) (w : World) (hb : IsBook w b mb (.ideal L)) (hL : L.length < 1125899906842624) (hs : s.size ≤ maxLen) :
    Calls Try.prog 78 #[.pointer (some ⟨b, 0, none⟩), .string s] w fun e w' =>
      e = .returned (.string ((Bk.ideal L).mark s)) ∧ IsBook w' b mb ((Bk.ideal L).add s) ∧ Mods (MB mb) w w' := by
  obtain ⟨hne, c0, c1, c2, D, hown, hseen⟩ := hb
  have hkey := Go.WideMaps.keyOf_string_mk Try.underlying9 hs
  have hhas := (hseen.2.2 s).1
  have hat := (hseen.2.2 s).2
  have hsize := hseen.2.1
  have H := And.intro hhas (And.intro hat hsize)
  have HH := Lib.hid H
  have HS := Lib.hid hseen
  clear hhas hat hsize H hseen hs
  have HL := Lib.hid hL
  clear hL
  go_enter Try.func78, Try.ntmps78
  go_wp2_with fail
  refine (f80_ideal _ _ c0 c2).mono ?_; rintro e w' ⟨rfl, rfl⟩
  go_wp2_with (at_lookup; refine wpList_lookup_own_ok_int _ rfl _ _ 90 rfl 9 3 .i64 law9 Try.underlying90 Try.underlying3 (zero3 _) mb L.length D rfl hown _ _ rfl hkey ?_)
  intro c hat hwc
  rw [HH.out.1]
  by_cases hin : place s L < L.length
  · rw [decide_eq_true hin]
    have hc := HH.out.2.1 hin
    rw [hat] at hc
    obtain rfl := lit_inj hc
    have HI := Lib.hid hin
    clear hat hwc hc hin
    go_wp2_with fail
    refine (f82_int _ (place s L + 1) _ (by omega)).mono ?_
    rintro e w1 ⟨rfl, h1⟩
    go_wp2
    go_ret
    refine ⟨rfl, ?_, h1.any _⟩
    have hbook : IsBook w' b mb (.ideal L) := ⟨hne, c0, c1, c2, D, hown, HS.out⟩
    have := hbook.nope h1
    simpa [Bk.add, HI.out] using this
  · rw [decide_eq_false hin]
    have hwf := Lib.hid (wf_small _ HL.out)
    have hLm := Lib.hid (room_small _ HL.out)
    have HI := Lib.hid hin
    clear hat hwc hin
    have hLi : (L.length : Int) ≤ 1125899906842624 := by have := HL.out; omega
    go_wp2_with (first
      | (at_len; refine wpList_len_own _ rfl _ _ rfl 9 3 Try.underlying90 _ mb L.length D rfl hown ?_; rw [HH.out.2.2])
      | (at_mapUpdate; refine wpList_mapUpdate_in _ rfl _ _ _ 90 rfl 9 3 law9 Try.underlying90 _ mb L.length D rfl hown hLm.out _ _ _ rfl rfl hkey _ [] (plainElem_int Try.underlying3 hwf.out) ?_))
    intro w1 hown1 hturn1
    go_wp2_with fail
    refine (f82_int _ (L.length + 1) _ (by omega)).mono ?_
    rintro e w2 ⟨rfl, h2⟩
    go_wp2
    go_ret
    have hm1 : Mods (MB mb) w' w1 := (Mods.refl _ _).grown hturn1.grown (fun k hk _ => by cases hk; rfl)
    have hbook : IsBook w1 b mb ((Bk.ideal L).add s) := by
      simp only [Bk.add, HI.out, if_false, IsBook]
      refine ⟨hne, hm1.cell c0 hne, hm1.cell c1 hne, hm1.cell c2 hne, _, ?_, seen_put HS.out s HI.out⟩
      rw [show (L ++ [s]).length = L.length + 1 by simp]
      exact hown1
    have hpl : place s L = L.length := by have := place_le s L; have := HI.out; omega
    exact ⟨ret_str (by rw [Bk.mark, hpl]), hbook.nope h2, hm1.then h2 (fun _ _ h => h.elim)⟩
end Go.Proofs.Ytblhbbgkkijkfaa
