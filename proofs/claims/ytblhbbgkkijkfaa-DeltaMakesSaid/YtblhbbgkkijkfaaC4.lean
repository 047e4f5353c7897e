/- The small functions of marks, roll and sign, walked: sizes of blocks, pieces, weak sums, numbers as marks, the ideal book. marks.numbered, marks.Ideal, (*Book).none, Mark, Is, walked: the book of this program. (*Book).Mark and Is at whatever book. sign.Sign, walked. -/
import Derived.Test.YtblhbbgkkijkfaaB0
import Derived.Test.YtblhbbgkkijkfaaS0
import Derived.Deep.MidRow
namespace Go.Proofs.Ytblhbbgkkijkfaa
open Go.RowKit Go.Maps

/-! ### sign.Block, barqueref05.Block -/
def sblk (n : Int) : Int := if n ≤ 256 then 16 else if n ≤ 1024 then 32 else if n ≤ 4096 then 64 else if n ≤ 16384 then 128 else if n ≤ 65536 then 256 else if n ≤ 262144 then 512 else 1024
theorem sblk_range (n : Int) : 16 ≤ sblk n ∧ sblk n ≤ 1024 := by unfold sblk; (repeat' split) <;> omega
def BlkAt (n b : Int) : Prop := b = 16 ∨ (b = 32 ∧ 256 < n) ∨ (b = 64 ∧ 1024 < n) ∨ (b = 128 ∧ 4096 < n) ∨ (b = 256 ∧ 16384 < n) ∨ (b = 512 ∧ 65536 < n) ∨ (b = 1024 ∧ 262144 < n)
theorem f25_calls (n : Int) (w : World) :
    Calls Try.prog 25 #[.int .i64 n] w fun e w' => e = .returned (.int .i64 (sblk n)) ∧ w' = w := by
  go_enter Try.func25, Try.ntmps25
  go_wp2
  go_loop [3] (fun b => ∃ x : Int, b = .int .i64 x ∧ BlkAt n x) (fun b => (1024 - intOf b).toNat)
  case atStart => exact ⟨16, rfl, .inl rfl⟩
  case round =>
    obtain ⟨x, rfl, h⟩ := hrel
    rcases h with rfl | ⟨rfl, h⟩ | ⟨rfl, h⟩ | ⟨rfl, h⟩ | ⟨rfl, h⟩ | ⟨rfl, h⟩ | ⟨rfl, h⟩
    all_goals
      go_wp2
    all_goals
      first
      | (go_round
         case rel => exact ⟨_, rfl, by unfold BlkAt; omega⟩
         case measure => simp [intOf])
      | (go_ret; exact ⟨ret_int (by unfold sblk; (repeat' split) <;> omega), rfl⟩)
theorem f26_calls (n : Int) (w : World) :
    Calls Try.prog 26 #[.int .i64 n] w fun e w' => e = .returned (.int .i64 (sblk n)) ∧ w' = w := by
  go_enter Try.func26, Try.ntmps26
  go_wp2
  go_loop [3] (fun b => ∃ x : Int, b = .int .i64 x ∧ BlkAt n x) (fun b => (1024 - intOf b).toNat)
  case atStart => exact ⟨16, rfl, .inl rfl⟩
  case round =>
    obtain ⟨x, rfl, h⟩ := hrel
    rcases h with rfl | ⟨rfl, h⟩ | ⟨rfl, h⟩ | ⟨rfl, h⟩ | ⟨rfl, h⟩ | ⟨rfl, h⟩ | ⟨rfl, h⟩
    all_goals
      go_wp2
    all_goals
      first
      | (go_round
         case rel => exact ⟨_, rfl, by unfold BlkAt; omega⟩
         case measure => simp [intOf])
      | (go_ret; exact ⟨ret_int (by unfold sblk; (repeat' split) <;> omega), rfl⟩)

/-! ### sign.fits, sign.count, sign.piece -/
def fitsB (n : Int) : Bool := decide (16 ≤ n ∧ n ≤ 1024)
theorem fitsB_true {n : Int} : fitsB n = true ↔ 16 ≤ n ∧ n ≤ 1024 := by simp [fitsB]
theorem fitsB_false {n : Int} : fitsB n = false ↔ n < 16 ∨ 1024 < n := by rw [fitsB, decide_eq_false_iff_not]; omega
theorem f74_calls (n : Int) (w : World) :
    Calls Try.prog 74 #[.int .i64 n] w fun e w' => e = .returned (.bool (fitsB n)) ∧ w' = w := by
  by_cases h : 16 ≤ n
  · go_enter Try.func74, Try.ntmps74
    go_wp2
    go_ret
    exact ⟨ret_bool (by simp [fitsB, h]), rfl⟩
  · go_enter Try.func74, Try.ntmps74
    go_wp2
    go_ret
    exact ⟨ret_bool (by symm; rw [fitsB, decide_eq_false_iff_not]; omega), rfl⟩
/-- How many blocks a text of a size has. -/
def cnt (n b : Nat) : Nat := (n + b - 1) / b
theorem cnt_spec (n b : Nat) (hb : 0 < b) : n ≤ cnt n b * b ∧ ∀ k, k < cnt n b → k * b < n := by
  unfold cnt
  have h1 := Nat.div_add_mod (n + b - 1) b
  have h2 := Nat.mod_lt (n + b - 1) hb
  rw [Nat.mul_comm] at h1
  refine ⟨by omega, fun k hk => ?_⟩
  have := Nat.mul_le_mul_right b (show k + 1 ≤ (n + b - 1) / b by omega)
  rw [Nat.add_mul] at this
  omega
theorem cnt_le (n b : Nat) (hb : 0 < b) : cnt n b ≤ n := by
  rcases Nat.eq_zero_or_pos (cnt n b) with h | h
  · omega
  · have := (cnt_spec n b hb).2 (cnt n b - 1) (by omega)
    have h2 := Nat.le_mul_of_pos_right (cnt n b - 1) hb
    omega
theorem f75_calls (n b : Nat) (w : World) (hn : n ≤ 524288) (hb : 16 ≤ b) (hb' : b ≤ 1024) :
    Calls Try.prog 75 #[.int .i64 n, .int .i64 b] w fun e w' => e = .returned (.int .i64 (cnt n b : Nat)) ∧ w' = w := by
  go_enter Try.func75, Try.ntmps75
  go_wp2
  go_ret
  exact ⟨ret_int (by rw [show ((n : Int) + b - 1) = ((n + b - 1 : Nat) : Int) by omega]; rfl), rfl⟩
/-- A block of a text. -/
def pc (s : ByteArray) (i b : Nat) : ByteArray := s.extract (i * b) (min ((i + 1) * b) s.size)
theorem ret_ext {s : ByteArray} {a b c d : Nat} (h : a = c) (h' : b = d) : Ending.returned (.string (s.extract a b)) = .returned (.string (s.extract c d)) := by rw [h, h']
theorem f76_calls (s : ByteArray) (i b : Nat) (w : World) (hs : s.size ≤ 524288) (hb : 16 ≤ b) (hb' : b ≤ 1024) (hi : i * b < s.size) :
    Calls Try.prog 76 #[.string s, .int .i64 i, .int .i64 b] w fun e w' => e = .returned (.string (pc s i b)) ∧ w' = w := by
  have h1 : i ≤ 524288 := by have := Nat.le_mul_of_pos_right i (show 0 < b by omega); omega
  have e2 : ((i : Int) + 1) * b = ((i * b + b : Nat) : Int) := by rw [Int.add_mul]; push_cast; omega
  have e3 : ((i : Int)) * b = ((i * b : Nat) : Int) := by push_cast; rfl
  have g0 : 0 ≤ ((i : Int) + 1) * b := by omega
  have g1 : ((i : Int) + 1) * b ≤ 600000 := by omega
  have g2 : 0 ≤ (i : Int) * b := by omega
  have g3 : (i : Int) * b < s.size := by omega
  have g4 : (i : Int) * b ≤ ((i : Int) + 1) * b := by omega
  have n3 : (i + 1) * b = i * b + b := by rw [Nat.add_mul, Nat.one_mul]
  have HN3 := Lib.hid n3
  by_cases hle : ((i : Int) + 1) * b ≤ s.size
  · have hm : (i * b + b) ≤ s.size := by omega
    clear e2 e3 n3
    go_enter Try.func76, Try.ntmps76
    go_wp2
    go_ret
    exact ⟨ret_ext rfl (by rw [HN3.out]; omega), rfl⟩
  · have hm : s.size ≤ (i * b + b) := by omega
    clear e2 e3 n3
    go_enter Try.func76, Try.ntmps76
    go_wp2
    go_ret
    exact ⟨ret_ext rfl (by rw [HN3.out]; omega), rfl⟩

/-! ### roll.Sum -/
set_option maxHeartbeats 400000 in
theorem f77_calls (s : ByteArray) (w : World) (hs : s.size ≤ 524288) :
    Calls Try.prog 77 #[.string s] w fun e w' => e = .returned (.int .i64 (wk s)) ∧ w' = w := by
  go_enter Try.func77, Try.ntmps77
  go_wp2
  go_loop [3, 4, 8] (fun a b i => ∃ k : Nat, k ≤ s.size ∧ i = .int .i64 k ∧ a = .int .i64 (wkAB (s.data.toList.take k)).1 ∧ b = .int .i64 (wkAB (s.data.toList.take k)).2) (fun _ _ i => s.size - (intOf i).toNat)
  case atStart => exact ⟨0, Nat.zero_le _, rfl, rfl, rfl⟩
  case round =>
    obtain ⟨k, hk, rfl, rfl, rfl⟩ := hrel
    obtain ⟨b1, b2, b3, b4⟩ := wkAB_small (l := s.data.toList.take k) (by have := List.length_take_le k s.data.toList; omega)
    by_cases hlt : k < s.size
    · have hsn := wkAB_snoc (s.data.toList.take k) s[k]
      have hts := take_snoc s k hlt
      have HS : Hid (wkAB (s.data.toList.take (k + 1)) = wkStep (wkAB (s.data.toList.take k)) s[k]) := by rw [hts]; exact hsn
      clear hsn hts
      have hc : ((s[k].toNat : Nat) : Int) ≤ 255 := by have := s[k].toNat_lt; omega
      go_wp2
      go_round
      case rel => exact ⟨k + 1, by omega, by go_num, by rw [HS.out]; rfl, by rw [HS.out]; rfl⟩
      case measure => simp [intOf]; omega
    · have e : s.data.toList.take k = s.data.toList := List.take_of_length_le (by simp; omega)
      have HE := Lib.hid e
      clear e
      go_wp2
      go_ret
      exact ⟨ret_int (by rw [wk, HE.out]), rfl⟩
end Go.Proofs.Ytblhbbgkkijkfaa
namespace Go.Proofs.Ytblhbbgkkijkfaa
open Go.RowKit Go.Maps

def zs32 : Array Value := (List.replicate 32 (Value.int .u8 0)).toArray
theorem make32 (w : World) : (Instr.makeSlice 89 (.int .i64 32) (.int .i64 32)).run Try.prog w = .ok (.slice (some ⟨w.heap.size, 0, none⟩) 32 32) (w.alloc (.cells zs32 5)) := by kernel_rfl
/-- The bytes of a number's mark, as far as the loop has come. -/
def markUpto (n k : Nat) : List Int := (List.range 32).map fun i => if i < k then ((n / 2 ^ (8 * (i % 8)) % 256 : Nat) : Int) else 0
theorem markUpto_end (n : Nat) : markUpto n 32 = markNums n := by
  unfold markUpto markNums
  apply List.map_congr_left
  intro i hi
  rw [if_pos (by simpa using hi)]
theorem markUpto_step (n k : Nat) (hk : k < 32) : (markUpto n k).set k ((n / 2 ^ (8 * (k % 8)) % 256 : Nat) : Int) = markUpto n (k + 1) := by
  apply List.ext_getElem?
  intro i
  simp only [markUpto, List.getElem?_set, List.getElem?_map, List.length_map, List.length_range]
  by_cases h : k = i
  · subst h
    simp [hk]
  · simp only [if_neg h]
    rcases Nat.lt_or_ge i 32 with hi | hi
    · simp only [List.getElem?_range hi, Option.map_some, Option.some.injEq]
      by_cases h2 : i < k
      · rw [if_pos h2, if_pos (by omega)]
      · rw [if_neg h2, if_neg (by omega)]
    · rw [List.getElem?_eq_none (by simpa using hi)]
      rfl
def bytesV (xs : List Int) : List Value := xs.map (Value.int .u8)
theorem zs32_eq (n : Nat) : zs32 = (bytesV (markUpto n 0)).toArray := by
  unfold zs32 bytesV markUpto
  simp
  rfl
theorem markUpto_length (n k : Nat) : (markUpto n k).length = 32 := by simp [markUpto]
theorem bytesV_length (xs : List Int) : (bytesV xs).length = xs.length := by simp [bytesV]

set_option maxHeartbeats 400000 in
theorem f82_calls (n : Nat) (w : World) :
    Calls Try.prog 82 #[.int .i64 n] w fun e w' => e = .returned (.string (mark n)) ∧ Mods Nope w w' := by
  have hmk := make32
  have H0 := Lib.hid ((World.ownsRow_lit (base := w.heap.size) (e := 5) (size := 1) w zs32 32 (Nat.le_refl _) (by simp [maxLen]) (by simp [zs32])))
  go_enter Try.func82, Try.ntmps82
  go_wp2
  go_loopw [8] (fun i wr => ∃ k : Nat, k ≤ 32 ∧ i = .int .i64 k ∧ wr.ownsRow w.heap.size 5 1 (.slice (some ⟨w.heap.size, 0, none⟩) 32 32) 32 (bytesV (markUpto n k)) ∧ Mods Nope w wr) (fun i _ => 32 - (intOf i).toNat)
  case atStart =>
    refine ⟨0, by omega, rfl, ?_, (Mods.refl _ _).alloc _⟩
    have h := H0.out
    rw [zs32_eq n] at h ⊢
    simpa using h
  case round =>
    obtain ⟨k, hk, rfl, hown, hm⟩ := hrel
    have hfz := hown.frozenAt k
    by_cases hlt : k < 32
    · have hc := hown.cellAt k (by omega)
      rw [show (bytesV (markUpto n k))[k]? = some (.int .u8 0) by simp [bytesV, markUpto, hlt]] at hc
      have hst := hown.stored k (.int .u8 ((n / 2 ^ (8 * (k % 8)) % 256 : Nat) : Int))
      have HS := Lib.hid hst
      clear hst
      have e8 : (8 : Int) * ((k : Int) % 8) ≤ 56 := by omega
      go_wp2
      go_roundw
      case rel =>
        refine ⟨k + 1, by omega, by go_num, ?_, ?_⟩
        · have h := HS.out.1
          rw [show (bytesV (markUpto n k)).set k (.int .u8 ((n / 2 ^ (8 * (k % 8)) % 256 : Nat) : Int)) = bytesV (markUpto n (k + 1)) by rw [← markUpto_step n k hlt]; simp [bytesV, List.map_set]] at h
          simpa using h
        · exact hm.setCell _ (fun h => absurd h (Nat.lt_irrefl _)) _
      case measure => simp [intOf]; omega
    · obtain rfl : k = 32 := by omega
      rw [markUpto_end] at hown
      have hcv := run_convert_bytes_arg (P := Try.prog) wr 89 5 Try.underlying89 Try.underlying5 w.heap.size 0 32 32 (markNums n) (markNums_length n) (fun i hi => by
        rw [Nat.zero_add]
        have := hown.cellAt i (by omega)
        rw [this]
        simp [bytesV, markNums, hi]) 9 Try.underlying9
      go_wp2
      go_ret
      exact ⟨rfl, hm⟩

theorem f82_int (x : Int) (n : Nat) (w : World) (h : x = n) :
    Calls Try.prog 82 #[.int .i64 x] w fun e w' => e = .returned (.string (mark n)) ∧ Mods Nope w w' := by
  subst h
  exact f82_calls n w

/-! ### The book -/
/-- What the sum of a real book's mixer does. -/
def Sums (mix : Array Value) (f : ByteArray → ByteArray) : Prop :=
  ∀ (s : ByteArray) (w : World), s.size ≤ 140737488351232 → Calls Try.prog 81 #[.agg mix, .string s] w fun e w' => e = .returned (.string (f s)) ∧ Mods Nope w w'
/-- The map of an ideal book holds just the texts of L, each with its place. -/
def SeenAs (D : DataW Unit) (L : List ByteArray) : Prop :=
  Tidy D ∧ Maps.size D = L.length ∧ ∀ s : ByteArray, has D (.string s.data.toList) = decide (place s L < L.length) ∧ (place s L < L.length → D.atKey (.string s.data.toList) (.lit (.int .i64 0)) = .lit (.int .i64 (place s L + 1 : Nat)))
/-- b is a book's block; mb its map's. -/
def IsBook (w : World) (b mb : Nat) : Bk → Prop
  | .ideal L => b ≠ mb ∧ w.cell? ⟨b, 72, none⟩ = some (.bool false) ∧ w.cell? ⟨b, 73, none⟩ = some (.map (some mb)) ∧ w.cell? ⟨b, 74, none⟩ = some (.bool true) ∧
      ∃ D, w.ownsMap Try.prog 9 (plainElem Try.prog 3) mb L.length D ∧ SeenAs D L
  | .real f => w.cell? ⟨b, 72, none⟩ = some (.bool true) ∧ mb = b ∧ ∃ mix : Array Value, mix.size = 72 ∧ (∀ j (h : j < mix.size), w.cell? ⟨b, j, none⟩ = some mix[j]) ∧ Sums mix f
theorem IsBook.lt {w : World} {b mb : Nat} {B : Bk} (h : IsBook w b mb B) : b < w.heap.size ∧ mb < w.heap.size := by
  cases B with
  | ideal L =>
    obtain ⟨_, h1, _, _, D, h4, _⟩ := h
    exact ⟨lt_of_cell h1, h4.lt⟩
  | real f =>
    obtain ⟨h1, rfl, _⟩ := h
    exact ⟨lt_of_cell h1, lt_of_cell h1⟩
theorem IsBook.mods {M : Nat → Prop} {w w' : World} {b mb : Nat} {B : Bk} (h : IsBook w b mb B) (hm : Mods M w w') (hb : ¬ M b) (hmb : ¬ M mb) : IsBook w' b mb B := by
  cases B with
  | ideal L =>
    obtain ⟨h0, h1, h2, h3, D, h4, h5⟩ := h
    exact ⟨h0, hm.cell h1 hb, hm.cell h2 hb, hm.cell h3 hb, D, hm.ownsMap h4 hmb, h5⟩
  | real f =>
    obtain ⟨h1, h2, mix, h3, h4, h5⟩ := h
    exact ⟨hm.cell h1 hb, h2, mix, h3, fun j hj => hm.cell (h4 j hj) hb, h5⟩
theorem IsBook.nope {w w' : World} {b mb : Nat} {B : Bk} (h : IsBook w b mb B) (hm : Mods Nope w w') : IsBook w' b mb B := h.mods hm (fun h => h) (fun h => h)
/-- The map's block alone may be changed by marking. -/
def MB (mb : Nat) (k : Nat) : Prop := k = mb

theorem f80_ideal (b : Nat) (w : World) (h0 : w.cell? ⟨b, 72, none⟩ = some (.bool false)) (h1 : w.cell? ⟨b, 74, none⟩ = some (.bool true)) :
    Calls Try.prog 80 #[.pointer (some ⟨b, 0, none⟩)] w fun e w' => e = .returned (.bool false) ∧ w' = w := by
  go_enter Try.func80, Try.ntmps80
  go_wp2
  go_ret
  exact ⟨rfl, rfl⟩
theorem f80_real (b : Nat) (w : World) (h0 : w.cell? ⟨b, 72, none⟩ = some (.bool true)) :
    Calls Try.prog 80 #[.pointer (some ⟨b, 0, none⟩)] w fun e w' => e = .returned (.bool false) ∧ w' = w := by
  go_enter Try.func80, Try.ntmps80
  go_wp2
  go_ret
  exact ⟨rfl, rfl⟩

theorem seen_empty : SeenAs (.map []) [] := by
  refine ⟨tidy_empty, rfl, fun s => ⟨rfl, fun h => ?_⟩⟩
  simp [place] at h
theorem book_cells (m : Value) : ((Try.zeroCells97.setIfInBounds 74 (Value.bool true)).setIfInBounds 73 m)[72]? = some (.bool false) ∧
    ((Try.zeroCells97.setIfInBounds 74 (Value.bool true)).setIfInBounds 73 m)[73]? = some m ∧ ((Try.zeroCells97.setIfInBounds 74 (Value.bool true)).setIfInBounds 73 m)[74]? = some (.bool true) :=
  ⟨by kernel_rfl, by kernel_rfl, by kernel_rfl⟩
theorem f29_calls (w : World) :
    Calls Try.prog 29 #[] w fun e w' => ∃ b mb, e = .returned (.pointer (some ⟨b, 0, none⟩)) ∧ w.heap.size ≤ b ∧ w.heap.size ≤ mb ∧ IsBook w' b mb (.ideal []) ∧ Mods Nope w w' := by
  have hmm := @run_makeMap Try.prog
  go_enter Try.func29, Try.ntmps29
  go_wp2
  go_ret
  have hrow := heap_alloc_new (w.alloc (.map #[] 0)) (.cells ((Try.zeroCells97.setIfInBounds 74 (Value.bool true)).setIfInBounds 73 (Value.map (some w.heap.size))) 97)
  have hb := book_cells (Value.map (some w.heap.size))
  have hsz : (w.alloc (.map #[] 0)).heap.size = w.heap.size + 1 := by simp
  rw [hsz] at hrow
  refine ⟨w.heap.size + 1, w.heap.size, rfl, by omega, by omega, ⟨by omega, ?_, ?_, ?_, .map [], ?_, seen_empty⟩, ?_⟩
  · rw [cell_of_row _ _ _ _ _ _ hrow]; exact hb.1
  · rw [cell_of_row _ _ _ _ _ _ hrow]; exact hb.2.1
  · rw [cell_of_row _ _ _ _ _ _ hrow]; exact hb.2.2
  · exact (World.ownsMap_made w Try.prog 9 (plainElem Try.prog 3)).alloc _
  · exact ((Mods.refl _ _).alloc _).alloc _

theorem seen_put {D : DataW Unit} {L : List ByteArray} (h : SeenAs D L) (s : ByteArray) (hs : ¬ place s L < L.length) :
    SeenAs (D.put (.string s.data.toList) (.lit (.int .i64 (L.length + 1 : Nat)))) (L ++ [s]) := by
  obtain ⟨h1, h2, h3⟩ := h
  have hk : ∀ t : ByteArray, WideAt.IsKeyLit (.string t.data.toList) := fun t => by simp [WideAt.IsKeyLit]
  have hno : s ∉ L := fun hm => hs (place_lt.2 hm)
  refine ⟨h1.put (hk s) _, ?_, fun t => ?_⟩
  · rw [size_put h1, (h3 s).1]
    simp [hs, h2]
  · by_cases e : t = s
    · subst e
      rw [has_put_same h1.isMap (hk t), place_snoc hno]
      refine ⟨by simp, fun _ => ?_⟩
      rw [atKey_put_same h1.isMap (hk t)]
    · have hne : (Lit.string t.data.toList) ≠ .string s.data.toList := by
        intro h
        injection h with h
        exact e (by cases t; cases s; simp_all)
      rw [has_put_other hne, (h3 t).1]
      have hp : place t L < L.length → place t (L ++ [s]) = place t L := fun h => place_append (place_lt.1 h) _
      by_cases ht : place t L < L.length
      · refine ⟨?_, fun _ => ?_⟩
        · rw [hp ht]; simp [ht]; omega
        · rw [atKey_put_other hne, (h3 t).2 ht, hp ht]
      · have hm : t ∉ L ++ [s] := by
          intro hm
          rcases List.mem_append.1 hm with hm | hm
          · exact ht (place_lt.2 hm)
          · simp at hm; exact e hm
        have hout : ¬ place t (L ++ [s]) < (L ++ [s]).length := fun h => hm (place_lt.1 h)
        exact ⟨by simp only [ht, hout], fun h => absurd h hout⟩
theorem law9 : Keyed Try.prog 9 := string_keyed Try.underlying9
theorem zero3 (w : World) : (zeroValue 3).run Try.prog w = .ok (.int .i64 0) w := by kernel_rfl

theorem wf_small (n : Nat) (h : n < 1125899906842624) : (Lit.int .i64 ((n : Int) + 1)).wf = true := WalkArith.wf_i64 (by omega)
theorem room_small (n : Nat) (h : n < 1125899906842624) : n < maxLen := by unfold maxLen; omega
theorem lit_inj {H : Type} {a b : Int} (h : (DataW.lit (.int .i64 a) : DataW H) = .lit (.int .i64 b)) : a = b := by simpa using h
set_option maxRecDepth 100000 in
set_option maxHeartbeats 1000000 in
theorem f78_ideal (b mb : Nat) (L : List ByteArray) (s : ByteArray) (w : World) (hb : IsBook w b mb (.ideal L)) (hL : L.length < 1125899906842624) (hs : s.size ≤ maxLen) :
    Calls Try.prog 78 #[.pointer (some ⟨b, 0, none⟩), .string s] w fun e w' =>
      e = .returned (.string ((Bk.ideal L).mark s)) ∧ IsBook w' b mb ((Bk.ideal L).add s) ∧ Mods (MB mb) w w' := by
  obtain ⟨hne, c0, c1, c2, D, hown, hseen⟩ := hb
  have hkey := Go.WideMaps.keyOf_string_mk Try.underlying9 hs
  have hhas := (hseen.2.2 s).1
  have hat := (hseen.2.2 s).2
  have hsize := hseen.2.1
  have H := And.intro hhas (And.intro hat hsize)
  have HH := Lib.hid H
  have HS := Lib.hid hseen
  clear hhas hat hsize H hseen hs
  have HL := Lib.hid hL
  clear hL
  go_enter Try.func78, Try.ntmps78
  go_wp2_with fail
  refine (f80_ideal _ _ c0 c2).mono ?_; rintro e w' ⟨rfl, rfl⟩
  go_wp2_with (at_lookup; refine wpList_lookup_own_ok_int _ rfl _ _ 90 rfl 9 3 .i64 law9 Try.underlying90 Try.underlying3 (zero3 _) mb L.length D rfl hown _ _ rfl hkey ?_)
  intro c hat hwc
  rw [HH.out.1]
  by_cases hin : place s L < L.length
  · rw [decide_eq_true hin]
    have hc := HH.out.2.1 hin
    rw [hat] at hc
    obtain rfl := lit_inj hc
    have HI := Lib.hid hin
    clear hat hwc hc hin
    go_wp2_with fail
    refine (f82_int _ (place s L + 1) _ (by omega)).mono ?_
    rintro e w1 ⟨rfl, h1⟩
    go_wp2
    go_ret
    refine ⟨rfl, ?_, h1.any _⟩
    have hbook : IsBook w' b mb (.ideal L) := ⟨hne, c0, c1, c2, D, hown, HS.out⟩
    have := hbook.nope h1
    simpa [Bk.add, HI.out] using this
  · rw [decide_eq_false hin]
    have hwf := Lib.hid (wf_small _ HL.out)
    have hLm := Lib.hid (room_small _ HL.out)
    have HI := Lib.hid hin
    clear hat hwc hin
    have hLi : (L.length : Int) ≤ 1125899906842624 := by have := HL.out; omega
    go_wp2_with (first
      | (at_len; refine wpList_len_own _ rfl _ _ rfl 9 3 Try.underlying90 _ mb L.length D rfl hown ?_; rw [HH.out.2.2])
      | (at_mapUpdate; refine wpList_mapUpdate_in _ rfl _ _ _ 90 rfl 9 3 law9 Try.underlying90 _ mb L.length D rfl hown hLm.out _ _ _ rfl rfl hkey _ [] (plainElem_int Try.underlying3 hwf.out) ?_))
    intro w1 hown1 hturn1
    go_wp2_with fail
    refine (f82_int _ (L.length + 1) _ (by omega)).mono ?_
    rintro e w2 ⟨rfl, h2⟩
    go_wp2
    go_ret
    have hm1 : Mods (MB mb) w' w1 := (Mods.refl _ _).grown hturn1.grown (fun k hk _ => by cases hk; rfl)
    have hbook : IsBook w1 b mb ((Bk.ideal L).add s) := by
      simp only [Bk.add, HI.out, if_false, IsBook]
      refine ⟨hne, hm1.cell c0 hne, hm1.cell c1 hne, hm1.cell c2 hne, _, ?_, seen_put HS.out s HI.out⟩
      rw [show (L ++ [s]).length = L.length + 1 by simp]
      exact hown1
    have hpl : place s L = L.length := by have := place_le s L; have := HI.out; omega
    exact ⟨ret_str (by rw [Bk.mark, hpl]), hbook.nope h2, hm1.then h2 (fun _ _ h => h.elim)⟩
end Go.Proofs.Ytblhbbgkkijkfaa
namespace Go.Proofs.Ytblhbbgkkijkfaa
open Go.RowKit Go.Maps
theorem info95 : (Try.prog.info? 95).map (·.size) = some 72 := by kernel_rfl
set_option maxRecDepth 100000 in
set_option maxHeartbeats 1000000 in
theorem f78_real (b : Nat) (f : ByteArray → ByteArray) (s : ByteArray) (w : World) (hb : IsBook w b b (.real f)) (hs : s.size ≤ 140737488351232) :
    Calls Try.prog 78 #[.pointer (some ⟨b, 0, none⟩), .string s] w fun e w' => e = .returned (.string (f s)) ∧ Mods Nope w w' := by
  obtain ⟨c0, _, mix, hsz, hcells, hsum⟩ := hb
  have hr : w.rangeAt b 0 mix.toList := by
    intro j v hv
    have hj : j < mix.size := by
      rcases Nat.lt_or_ge j mix.size with h | h
      · exact h
      · rw [List.getElem?_eq_none (by simpa using h)] at hv; cases hv
    rw [Nat.zero_add, hcells j hj]
    simpa [hj] using hv
  have hi : (Try.prog.info? 95).map (·.size) = some mix.toList.length := by rw [info95]; simp [hsz]
  have HI := Lib.hid hi
  have HR := Lib.hid hr
  have hcall := hsum s w hs
  have HC := Lib.hid hcall
  clear hcells hsum hr hcall hs hsz hi
  go_enter Try.func78, Try.ntmps78
  go_wp2_with fail
  refine (f80_real _ _ c0).mono ?_; rintro e w' ⟨rfl, rfl⟩
  go_wp2_with (with_reducible refine wpList_load_mid (op := ⟨some 18, _, _, _, _, _⟩) rfl 95 _ rfl b 0 rfl mix.toList _ HR.out Try.underlying95 rfl HI.out ?_)
  refine HC.out.mono ?_
  rintro e w1 ⟨rfl, h1⟩
  go_wp2
  go_ret
  exact ⟨rfl, h1⟩

/-- Marking, whatever the book. -/
theorem f78_calls (b mb : Nat) (B : Bk) (s : ByteArray) (w : World) (hb : IsBook w b mb B) (hL : B.len < 1125899906842624) (hs : s.size ≤ 140737488351232) :
    Calls Try.prog 78 #[.pointer (some ⟨b, 0, none⟩), .string s] w fun e w' => e = .returned (.string (B.mark s)) ∧ IsBook w' b mb (B.add s) ∧ Mods (MB mb) w w' := by
  cases B with
  | ideal L => exact f78_ideal b mb L s w hb hL (by unfold maxLen; omega)
  | real f =>
    obtain rfl : mb = b := hb.2.1
    exact (f78_real mb f s w hb hs).mono fun e w' ⟨he, hm⟩ => ⟨he, hb.nope hm, hm.any _⟩

set_option maxRecDepth 100000 in
set_option maxHeartbeats 1000000 in
theorem f34_ideal (b mb : Nat) (L : List ByteArray) (s m : ByteArray) (w : World) (hb : IsBook w b mb (.ideal L)) (hs : s.size ≤ maxLen) (hk : (Bk.ideal L).knows s) (hm : m = (Bk.ideal L).mark s) :
    Calls Try.prog 34 #[.pointer (some ⟨b, 0, none⟩), .string s, .string m] w fun e w' => e = .returned (.bool true) ∧ Mods Nope w w' := by
  obtain ⟨hne, c0, c1, c2, D, hown, hseen⟩ := hb
  have hkey := Go.WideMaps.keyOf_string_mk Try.underlying9 hs
  have hin : place s L < L.length := place_lt.2 hk
  have hhas := (hseen.2.2 s).1
  rw [decide_eq_true hin] at hhas
  have hat0 := (hseen.2.2 s).2 hin
  have HH := Lib.hid (And.intro hhas hat0)
  have HM : Hid (m = mark (place s L + 1)) := hm
  clear hhas hat0 hseen hs hin hk hm hne
  go_enter Try.func34, Try.ntmps34
  go_wp2_with fail
  refine (f80_ideal _ _ c0 c2).mono ?_; rintro e w' ⟨rfl, rfl⟩
  go_wp2_with (at_lookup; refine wpList_lookup_own_ok_int _ rfl _ _ 90 rfl 9 3 .i64 law9 Try.underlying90 Try.underlying3 (zero3 _) mb L.length D rfl hown _ _ rfl hkey ?_)
  intro c hat hwc
  rw [HH.out.1]
  have hc := HH.out.2
  rw [hat] at hc
  obtain rfl := lit_inj hc
  clear hat hwc hc
  go_wp2_with fail
  refine (f82_int _ (place s L + 1) _ (by omega)).mono ?_
  rintro e w1 ⟨rfl, h1⟩
  obtain rfl : m = mark (place s L + 1) := HM
  go_wp2
  go_ret
  exact ⟨by simp, h1⟩
end Go.Proofs.Ytblhbbgkkijkfaa
namespace Go.Proofs.Ytblhbbgkkijkfaa
open Go.RowKit Go.Maps
theorem grown_row {w w1 : World} {row : Option Nat} {g : Nat} {o : Obj} (h : w.grownBy w1 row) (hg : w.heap[g]? = some o) (hne : ∀ k, row = some k → k ≠ g) : w1.heap[g]? = some o :=
  (h.block g (row_lt hg) (fun e => hne g e.symm rfl)).trans hg
/-- A signature as a value. -/
def sigV (b s : Int) (wv sv : Value) : Value := .agg #[.int .i64 b, .int .i64 s, wv, sv]
def pcs (s : ByteArray) (b n : Nat) : List ByteArray := (List.range n).map fun i => pc s i b
theorem pcs_snoc (s : ByteArray) (b n : Nat) : pcs s b (n + 1) = pcs s b n ++ [pc s n b] := by simp [pcs, List.range_succ]
theorem pcs_length (s : ByteArray) (b n : Nat) : (pcs s b n).length = n := by simp [pcs]
theorem pc_size (s : ByteArray) (i b : Nat) : (pc s i b).size ≤ b := by
  simp only [pc, ByteArray.size_extract]
  rw [Nat.add_mul]
  omega
/-- The marks that Sign has written after k blocks. -/
def smarks (B : Bk) (s : ByteArray) (n k : Nat) : List ByteArray := (pcs s n k).map (B.adds (pcs s n k)).mark
theorem smarks_length (B : Bk) (s : ByteArray) (n k : Nat) : (smarks B s n k).length = k := by simp [smarks, pcs_length]
theorem smarks_snoc (B : Bk) (s : ByteArray) (n k : Nat) : smarks B s n (k + 1) = smarks B s n k ++ [(B.adds (pcs s n k)).mark (pc s k n)] := by
  unfold smarks
  rw [pcs_snoc, List.map_append, Bk.adds_snoc]
  congr 1
  · apply List.map_congr_left
    intro t ht
    exact Bk.mark_add (Bk.knows_of_mem ht) _
  · simp [Bk.mark_self]
def sweak (s : ByteArray) (n k : Nat) : List Int := (pcs s n k).map wk
theorem sweak_length (s : ByteArray) (n k : Nat) : (sweak s n k).length = k := by simp [sweak, pcs_length]
theorem sweak_snoc (s : ByteArray) (n k : Nat) : sweak s n (k + 1) = sweak s n k ++ [wk (pc s k n)] := by simp [sweak, pcs_snoc]
/-- What the loop of Sign has made: i sums, k marks. -/
structure SignAt (b mb : Nat) (B : Bk) (s : ByteArray) (n : Nat) (w wr : World) (i k : Nat) (wv sv : Value) : Prop where
  g : wr.heap[w.heap.size + 1]? = some (.cells #[.int .i64 n, .int .i64 s.size, wv, sv] 31 (0, 0))
  res : wr.heap[w.heap.size]? = some (.cells #[.int .i64 0, .int .i64 0, .slice none 0 0, .slice none 0 0] 31 (0, 0))
  weak : wr.ownsRow w.heap.size 3 1 wv i (ints (sweak s n i))
  strong : wr.ownsRow w.heap.size 9 1 sv k (strs (smarks B s n k))
  book : IsBook wr b mb (B.adds (pcs s n k))
  mods : Mods (MB mb) w wr
theorem SignAt.nope {b mb : Nat} {B : Bk} {s : ByteArray} {n : Nat} {w wr wx : World} {i k : Nat} {wv sv : Value} (h : SignAt b mb B s n w wr i k wv sv) (hm : Mods Nope wr wx) : SignAt b mb B s n w wx i k wv sv :=
  ⟨hm.row h.g (fun h => h), hm.row h.res (fun h => h), hm.owns h.weak (fun _ _ h => h), hm.owns h.strong (fun _ _ h => h), h.book.nope hm, h.mods.then hm (fun _ _ h => h.elim)⟩
theorem SignAt.addWeak {b mb : Nat} {B : Bk} {s : ByteArray} {n : Nat} {w wr wx w3 : World} {i k : Nat} {wv sv nv : Value} (h : SignAt b mb B s n w wr i k wv sv) (hlt : b < w.heap.size ∧ mb < w.heap.size)
    (hm : Mods Nope wr wx) (hg : wx.grownBy w3 wv.ownBlock) (hown : w3.ownsRow w.heap.size 3 1 nv (i + 1) (ints (sweak s n i) ++ [.int .i64 (wk (pc s i n))])) :
    SignAt b mb B s n w (w3.setCell ⟨w.heap.size + 1, 2, none⟩ nv) (i + 1) k nv sv := by
  have h' := h.nope hm
  have hG := grown_row hg h'.g (own_ne_row h'.weak h'.g (by decide))
  have hM : Mods (fun j => wv.ownBlock = some j ∨ j = w.heap.size + 1) wx (w3.setCell ⟨w.heap.size + 1, 2, none⟩ nv) :=
    ((Mods.refl _ _).grown hg (fun j hj _ => .inl hj)).setCell _ (fun _ => .inr rfl) _
  have hwb : ∀ j, wv.ownBlock = some j → w.heap.size ≤ j := fun j hj => (h'.weak.lt j hj).1
  refine ⟨row_set hG 2 nv, ?_, ?_, ?_, ?_, ?_⟩
  · refine hM.row h'.res ?_
    rintro (hj | hj)
    · exact own_ne_row h'.weak h'.res (by decide) _ hj rfl
    · omega
  · rw [sweak_snoc, ints_append]
    have hne := own_ne_row hown hG (by decide)
    exact ((Mods.refl (fun j => j = w.heap.size + 1) w3).setCell ⟨w.heap.size + 1, 2, none⟩ (fun _ => rfl) nv).owns hown (fun j hj e => hne j hj e)
  · refine hM.owns h'.strong ?_
    rintro j hj (hw | rfl)
    · exact own_ne_own h'.strong h'.weak (by decide) j hj hw
    · exact own_ne_row h'.strong h'.g (by decide) _ hj rfl
  · refine h'.book.mods hM ?_ ?_
    · rintro (hj | hj)
      · have := hwb _ hj; omega
      · omega
    · rintro (hj | hj)
      · have := hwb _ hj; omega
      · omega
  · refine h'.mods.then hM ?_
    rintro j hj (hw | rfl)
    · have := hwb _ hw; omega
    · omega
theorem SignAt.addStrong {b mb : Nat} {B : Bk} {s : ByteArray} {n : Nat} {w wr wx wy w3 : World} {i k : Nat} {wv sv nv : Value} (h : SignAt b mb B s n w wr i k wv sv) (hlt : b < w.heap.size ∧ mb < w.heap.size)
    (hmb : Mods (MB mb) wr wx) (hbk : IsBook wx b mb ((B.adds (pcs s n k)).add (pc s k n))) (hm : Mods Nope wx wy) (hg : wy.grownBy w3 sv.ownBlock) (hown : w3.ownsRow w.heap.size 9 1 nv (k + 1) (strs (smarks B s n k) ++ [.string ((B.adds (pcs s n k)).mark (pc s k n))])) :
    SignAt b mb B s n w (w3.setCell ⟨w.heap.size + 1, 3, none⟩ nv) i (k + 1) wv nv := by
  have hM1 : Mods (MB mb) wr wy := hmb.then hm (fun _ _ h => h.elim)
  have hne1 : ¬ MB mb (w.heap.size + 1) := by unfold MB; omega
  have hne0 : ¬ MB mb w.heap.size := by unfold MB; omega
  have hg1 := hM1.row h.g hne1
  have hr1 := hM1.row h.res hne0
  have hw1 := hM1.owns h.weak (fun j hj e => by have := (h.weak.lt j hj).1; unfold MB at e; omega)
  have hs1 := hM1.owns h.strong (fun j hj e => by have := (h.strong.lt j hj).1; unfold MB at e; omega)
  have hb1 := hbk.nope hm
  have hG := grown_row hg hg1 (own_ne_row hs1 hg1 (by decide))
  have hM : Mods (fun j => sv.ownBlock = some j ∨ j = w.heap.size + 1) wy (w3.setCell ⟨w.heap.size + 1, 3, none⟩ nv) :=
    ((Mods.refl _ _).grown hg (fun j hj _ => .inl hj)).setCell _ (fun _ => .inr rfl) _
  have hwb : ∀ j, sv.ownBlock = some j → w.heap.size ≤ j := fun j hj => (hs1.lt j hj).1
  refine ⟨row_set hG 3 nv, ?_, ?_, ?_, ?_, ?_⟩
  · refine hM.row hr1 ?_
    rintro (hj | hj)
    · exact own_ne_row hs1 hr1 (by decide) _ hj rfl
    · omega
  · refine hM.owns hw1 ?_
    rintro j hj (hw | rfl)
    · exact own_ne_own hw1 hs1 (by decide) j hj hw
    · exact own_ne_row hw1 hg1 (by decide) _ hj rfl
  · rw [smarks_snoc, strs_append]
    have hne := own_ne_row hown hG (by decide)
    exact ((Mods.refl (fun j => j = w.heap.size + 1) w3).setCell ⟨w.heap.size + 1, 3, none⟩ (fun _ => rfl) nv).owns hown (fun j hj e => hne j hj e)
  · rw [pcs_snoc, Bk.adds_snoc]
    refine hb1.mods hM ?_ ?_
    · rintro (hj | hj)
      · have := hwb _ hj; omega
      · omega
    · rintro (hj | hj)
      · have := hwb _ hj; omega
      · omega
  · refine (h.mods.trans hM1).then hM ?_
    rintro j hj (hw | rfl)
    · have := hwb _ hw; omega
    · omega

theorem Mods.book_at {w wr wx : World} {b mb : Nat} {B : Bk} (h : Mods (fun j => j = w.heap.size) wr wx) (hb : IsBook wr b mb B) (hlt : b < w.heap.size ∧ mb < w.heap.size) : IsBook wx b mb B :=
  hb.mods h (by omega) (by omega)
set_option maxRecDepth 100000 in
set_option maxHeartbeats 2000000 in
theorem f30_ok (b mb : Nat) (B : Bk) (s : ByteArray) (n : Nat) (w : World) (hb : IsBook w b mb B) (hL : B.len + 524288 < 1125899906842624) (hs : s.size ≤ 524288) (h1 : 16 ≤ n) (h2 : n ≤ 1024) :
    Calls Try.prog 30 #[.pointer (some ⟨b, 0, none⟩), .string s, .int .i64 n] w fun e w' => ∃ wv sv,
      e = .returned (.tuple #[sigV n s.size wv sv, .int .i64 0]) ∧
      w'.ownsRow w.heap.size 3 1 wv (cnt s.size n) (ints (sweak s n (cnt s.size n))) ∧
      w'.ownsRow w.heap.size 9 1 sv (cnt s.size n) (strs (smarks B s n (cnt s.size n))) ∧
      IsBook w' b mb (B.adds (pcs s n (cnt s.size n))) ∧ Mods (MB mb) w w' := by
  have hfit : fitsB n = true := fitsB_true.2 (by omega)
  have HL := Lib.hid hL
  have HLT := Lib.hid hb.lt
  clear hL
  go_enter Try.func30, Try.ntmps30
  go_wp2_with fail
  refine (f74_calls _ _).mono ?_; rintro e w' ⟨rfl, rfl⟩
  rw [hfit]
  have HF := Lib.hid hfit
  clear hfit
  go_wp2_with fail
  refine (f75_calls s.size n _ hs h1 h2).mono ?_; rintro e w1 ⟨rfl, rfl⟩
  go_wp2_with fail
  have hcl : cnt s.size n ≤ 524288 := Nat.le_trans (cnt_le s.size n (by omega)) hs
  have HB := Lib.hid hb
  clear hb
  go_loopg [27] (cnt s.size n) (fun gk i wr => ∃ k wv sv, k ≤ cnt s.size n ∧ gk = cnt s.size n - k ∧ i = .int .i64 (k : Nat) ∧ SignAt b mb B s n w wr k k wv sv)
  case atStart =>
    have hr0 := heap_alloc_new w (.cells #[.int .i64 0, .int .i64 0, .slice none 0 0, .slice none 0 0] 31)
    have hr1 := heap_alloc_new (w.alloc (.cells #[.int .i64 0, .int .i64 0, .slice none 0 0, .slice none 0 0] 31)) (.cells #[.int .i64 n, .int .i64 s.size, .slice none 0 0, .slice none 0 0] 31)
    have hz : (w.alloc (.cells #[.int .i64 0, .int .i64 0, .slice none 0 0, .slice none 0 0] 31)).heap.size = w.heap.size + 1 := by simp
    rw [hz] at hr1
    refine ⟨0, .slice none 0 0, .slice none 0 0, by omega, by omega, rfl, hr1, row_alloc hr0 _, ?_, ?_, ?_, ?_⟩
    · exact World.ownsRow_nil _ _ _ _
    · exact World.ownsRow_nil _ _ _ _
    · exact HB.out.nope (((Mods.refl _ _).alloc _).alloc _)
    · exact ((Mods.refl _ _).alloc _).alloc _
  case round =>
    obtain ⟨k, wv, sv, hk, rfl, rfl, hS⟩ := hrel
    by_cases hlt : k < cnt s.size n
    · have HPK := Lib.hid ((cnt_spec s.size n (by omega)).2 k hlt)
      have hps2 : (pc s k n).size ≤ 524288 := by have := pc_size s k n; omega
      have HS := Lib.hid hS
      have HK : Hid (k < cnt s.size n) := hlt
      clear hS
      go_wp2_with fail
      refine (f76_calls s k n _ hs h1 h2 HPK.out).mono ?_; rintro e w2 ⟨rfl, rfl⟩
      go_upto_region 10 with fail
      go_cut [] (fun wx => ∃ wv', SignAt b mb B s n w wx (k + 1) k wv' sv)
      case first =>
        have HWL := Lib.hid (show (ints (sweak s n k)).length = k by rw [ints_length, sweak_length])
        have HW := Lib.hid (show w2.ownsRow w.heap.size 3 1 wv (ints (sweak s n k)).length (ints (sweak s n k)) by rw [HWL.out]; exact HS.out.weak)
        have hwz : w.heap.size ≤ w2.heap.size := HS.out.mods.size
        have hc2 : w2.cell? ⟨w.heap.size + 1, 2, none⟩ = some wv := by rw [row_cell HS.out.g]; rfl
        have ha2 : ∀ o, (w2.alloc o).cell? ⟨w.heap.size + 1, 2, none⟩ = some wv := fun o => ((Mods.refl Nope _).alloc o).cell hc2 (fun h => h)
        go_region_law (first
          | (refine step_app1 _ rfl _ _ 28 3 (.int .i64 0) 8 rfl Try.underlying28 info3 rfl (by decide) wv (ints (sweak s n k)) (.int .i64 (wk (pc s k n))) _ rfl rfl (by simp) rfl w.heap.size (by exact HW.out.alloc _) (by simp; omega) (by rw [HWL.out]; omega) ?_; intro g cap w3 hown3 hg3 hat3
             have HG : Hid (w3.heap[w.heap.size + 1]? = some (.cells #[.int .i64 n, .int .i64 s.size, wv, sv] 31 (0, 0))) := grown_row hg3 (row_alloc HS.out.g _) (own_ne_row HW.out HS.out.g (by decide))
             have hcc : w3.cell? ⟨w.heap.size + 1, 2, none⟩ = some wv := by rw [row_cell HG.out]; rfl
             have hff : w3.frozen? ⟨w.heap.size + 1, 2, none⟩ = false := row_frozen HG.out 2
             rw [HWL.out] at hown3 ⊢
             have HA := Lib.hid (HS.out.addWeak HLT.out (((Mods.refl Nope w2).alloc _).drew) hg3 hown3))
          | (go_simp; go_at_call 77; refine (f77_calls _ _ hps2).mono ?_; rintro e w4 ⟨rfl, rfl⟩))
        all_goals (go_wp2_with fail; go_meet; exact ⟨_, HA.out⟩)
      case rest =>
        obtain ⟨wv', hS1⟩ := hcut
        have HS1 := Lib.hid hS1
        clear hS1
        go_wp2_with fail
        have HWL := Lib.hid (show (strs (smarks B s n k)).length = k by rw [strs_length, smarks_length])
        have hwz : w.heap.size ≤ wc.heap.size := HS1.out.mods.size
        have hc2 : wc.cell? ⟨w.heap.size + 1, 3, none⟩ = some sv := by rw [row_cell HS1.out.g]; rfl
        have hlen : (B.adds (pcs s n k)).len < 1125899906842624 := by have := B.len_adds (pcs s n k); have := HL.out; have := HK.out; rw [pcs_length] at *; omega
        have HLEN := Lib.hid hlen
        have HPS : Hid ((pc s k n).size ≤ 140737488351232) := by unfold Hid; omega
        clear hlen
        go_region_law (first
          | (refine step_app1 _ rfl _ _ 29 9 (.string ⟨#[]⟩) 16 rfl Try.underlying29 info9 rfl (by decide) sv (strs (smarks B s n k)) (.string ((B.adds (pcs s n k)).mark (pc s k n))) _ rfl rfl (by simp) rfl w.heap.size (by exact HSO.out.alloc _) (by simp; omega) (by rw [HWL.out]; omega) ?_; intro g cap w3 hown3 hg3 hat3
             have HG : Hid (w3.heap[w.heap.size + 1]? = some (.cells #[.int .i64 n, .int .i64 s.size, wv', sv] 31 (0, 0))) := grown_row hg3 (row_alloc HGG.out _) (own_ne_row HSO.out HGG.out (by decide))
             have hcc : w3.cell? ⟨w.heap.size + 1, 3, none⟩ = some sv := by rw [row_cell HG.out]; rfl
             have hff : w3.frozen? ⟨w.heap.size + 1, 3, none⟩ = false := row_frozen HG.out 3
             rw [HWL.out] at hown3 ⊢
             have HA := Lib.hid (HS1.out.addStrong HLT.out HM4.out HB4.out (((Mods.refl Nope w4).alloc _)) hg3 hown3))
          | (go_simp; go_at_call 78; refine (f78_calls b mb (B.adds (pcs s n k)) _ _ (by exact HS1.out.book) HLEN.out HPS.out).mono ?_; rintro e w4 ⟨rfl, hb4, hm4⟩
             have HB4 := Lib.hid hb4
             have HM4 : Hid (Mods (MB mb) wc w4) := ((Mods.refl _ wc).drew).trans hm4
             have hne : ¬ MB mb (w.heap.size + 1) := by have := HLT.out; unfold MB; omega
             have HGG : Hid (w4.heap[w.heap.size + 1]? = some (.cells #[.int .i64 n, .int .i64 s.size, wv', sv] 31 (0, 0))) := HM4.out.row HS1.out.g hne
             have HSO : Hid (w4.ownsRow w.heap.size 9 1 sv (strs (smarks B s n k)).length (strs (smarks B s n k))) := by rw [HWL.out]; exact HM4.out.owns HS1.out.strong (fun j hj e => by have := (HS1.out.strong.lt j hj).1; have := HLT.out; unfold MB at e; omega)
             have hz4 : w.heap.size ≤ w4.heap.size := Nat.le_trans hwz HM4.out.size
             have hc4 : w4.cell? ⟨w.heap.size + 1, 3, none⟩ = some sv := by rw [row_cell HGG.out]; rfl
             have ha4 : ∀ o, (w4.alloc o).cell? ⟨w.heap.size + 1, 3, none⟩ = some sv := fun o => ((Mods.refl Nope _).alloc o).cell hc4 (fun h => h)
             clear hb4 hm4 hne))
        all_goals
          go_wp2_with fail
          go_roundg (cnt s.size n - (k + 1))
          case measure => have := HK.out; omega
          case rel => exact ⟨k + 1, wv', _, HK.out, rfl, by go_num, HA.out⟩
    · obtain rfl : k = cnt s.size n := by omega
      obtain ⟨A, c, hA, _, _, hrd, _⟩ := Rd.of_owns hS.weak
      obtain ⟨A', c', hA', _, _, hrd', _⟩ := Rd.of_owns hS.strong
      subst hA
      subst hA'
      have g0 : wr.cell? ⟨w.heap.size + 1, 0, none⟩ = some (.int .i64 n) := by rw [row_cell hS.g]; rfl
      have g1 : wr.cell? ⟨w.heap.size + 1, 1, none⟩ = some (.int .i64 s.size) := by rw [row_cell hS.g]; rfl
      have g2 : wr.cell? ⟨w.heap.size + 1, 2, none⟩ = some (.slice A (cnt s.size n) c) := by rw [row_cell hS.g]; rfl
      have g3 : wr.cell? ⟨w.heap.size + 1, 3, none⟩ = some (.slice A' (cnt s.size n) c') := by rw [row_cell hS.g]; rfl
      have r0 : wr.cell? ⟨w.heap.size, 0, none⟩ = some (.int .i64 0) := by rw [row_cell hS.res]; rfl
      have r1 : wr.cell? ⟨w.heap.size, 1, none⟩ = some (.int .i64 0) := by rw [row_cell hS.res]; rfl
      have r2 : wr.cell? ⟨w.heap.size, 2, none⟩ = some (.slice none 0 0) := by rw [row_cell hS.res]; rfl
      have r3 : wr.cell? ⟨w.heap.size, 3, none⟩ = some (.slice none 0 0) := by rw [row_cell hS.res]; rfl
      have f0 : ∀ j, wr.frozen? ⟨w.heap.size, j, none⟩ = false := fun j => row_frozen hS.res j
      have HS := Lib.hid hS
      clear hS hrd hrd'
      go_wp2
      refine bodyPost_ret (v := .tuple #[sigV n s.size (.slice A (cnt s.size n) c) (.slice A' (cnt s.size n) c'), .int .i64 0]) (by simp [results, Try.results30, go_sem, r0, r1, r2, r3, sigV]) rfl ⟨_, _, rfl, ?_⟩
      have hM := Lib.hid (((((Mods.refl (fun j => j = w.heap.size) wr).setCell ⟨w.heap.size, 0, none⟩ (fun _ => rfl) (.int .i64 n)).setCell ⟨w.heap.size, 1, none⟩ (fun _ => rfl) (.int .i64 s.size)).setCell ⟨w.heap.size, 2, none⟩ (fun _ => rfl) (.slice A (cnt s.size n) c)).setCell ⟨w.heap.size, 3, none⟩ (fun _ => rfl) (.slice A' (cnt s.size n) c'))
      refine ⟨hM.out.owns HS.out.weak ?_, hM.out.owns HS.out.strong ?_, hM.out.book_at HS.out.book HLT.out, HS.out.mods.then hM.out (fun j hj e => by omega)⟩
      · exact own_ne_row HS.out.weak HS.out.res (by decide)
      · exact own_ne_row HS.out.strong HS.out.res (by decide)
end Go.Proofs.Ytblhbbgkkijkfaa
