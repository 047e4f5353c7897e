/- The small functions of marks, roll and sign, walked: sizes of blocks, pieces, weak sums, numbers as marks, the ideal book. -/
import Derived.Test.YtblhbbgkkijkfaaB0
import Derived.Test.YtblhbbgkkijkfaaS0
namespace Go.Proofs.Ytblhbbgkkijkfaa
open Go.RowKit Go.Maps

/-! ### sign.Block, barqueref05.Block -/
def sblk (n : Int) : Int := if n ≤ 256 then 16 else if n ≤ 1024 then 32 else if n ≤ 4096 then 64 else if n ≤ 16384 then 128 else if n ≤ 65536 then 256 else if n ≤ 262144 then 512 else 1024
theorem sblk_range (n : Int) : 16 ≤ sblk n ∧ sblk n ≤ 1024 := by unfold sblk; (repeat' split) <;> omega
def BlkAt (n b : Int) : Prop := b = 16 ∨ (b = 32 ∧ 256 < n) ∨ (b = 64 ∧ 1024 < n) ∨ (b = 128 ∧ 4096 < n) ∨ (b = 256 ∧ 16384 < n) ∨ (b = 512 ∧ 65536 < n) ∨ (b = 1024 ∧ 262144 < n)
theorem f25_calls (n : Int) (w : World) :
    Calls Try.prog 25 #[.int .i64 n] w fun e w' => e = .returned (.int .i64 (sblk n)) ∧ w' = w := by
  go_enter Try.func25, Try.ntmps25
  go_wp2
  go_loop [3] (fun b => ∃ x : Int, b = .int .i64 x ∧ BlkAt n x) (fun b => (1024 - intOf b).toNat)
  case atStart => exact ⟨16, rfl, .inl rfl⟩
  case round =>
    obtain ⟨x, rfl, h⟩ := hrel
    rcases h with rfl | ⟨rfl, h⟩ | ⟨rfl, h⟩ | ⟨rfl, h⟩ | ⟨rfl, h⟩ | ⟨rfl, h⟩ | ⟨rfl, h⟩
    all_goals
      go_wp2
    all_goals
      first
      | (go_round
         case rel => exact ⟨_, rfl, by unfold BlkAt; omega⟩
         case measure => simp [intOf])
      | (go_ret; exact ⟨ret_int (by unfold sblk; (repeat' split) <;> omega), rfl⟩)
theorem f26_calls (n : Int) (w : World) :
    Calls Try.prog 26 #[.int .i64 n] w fun e w' => e = .returned (.int .i64 (sblk n)) ∧ w' = w := by
  go_enter Try.func26, Try.ntmps26
  go_wp2
  go_loop [3] (fun b => ∃ x : Int, b = .int .i64 x ∧ BlkAt n x) (fun b => (1024 - intOf b).toNat)
  case atStart => exact ⟨16, rfl, .inl rfl⟩
  case round =>
    obtain ⟨x, rfl, h⟩ := hrel
    rcases h with rfl | ⟨rfl, h⟩ | ⟨rfl, h⟩ | ⟨rfl, h⟩ | ⟨rfl, h⟩ | ⟨rfl, h⟩ | ⟨rfl, h⟩
    all_goals
      go_wp2
    all_goals
      first
      | (go_round
         case rel => exact ⟨_, rfl, by unfold BlkAt; omega⟩
         case measure => simp [intOf])
      | (go_ret; exact ⟨ret_int (by unfold sblk; (repeat' split) <;> omega), rfl⟩)

/-! ### sign.fits, sign.count, sign.piece -/
def fitsB (n : Int) : Bool := decide (16 ≤ n ∧ n ≤ 1024)
theorem fitsB_true {n : Int} : fitsB n = true ↔ 16 ≤ n ∧ n ≤ 1024 := by simp [fitsB]
theorem fitsB_false {n : Int} : fitsB n = false ↔ n < 16 ∨ 1024 < n := by rw [fitsB, decide_eq_false_iff_not]; omega
theorem f74_calls (n : Int) (w : World) :
    Calls Try.prog 74 #[.int .i64 n] w fun e w' => e = .returned (.bool (fitsB n)) ∧ w' = w := by
  by_cases h : 16 ≤ n
  · go_enter Try.func74, Try.ntmps74
    go_wp2
    go_ret
    exact ⟨ret_bool (by simp [fitsB, h]), rfl⟩
  · go_enter Try.func74, Try.ntmps74
    go_wp2
    go_ret
    exact ⟨ret_bool (by symm; rw [fitsB, decide_eq_false_iff_not]; omega), rfl⟩
/-- How many blocks a text of a size has. -/
def cnt (n b : Nat) : Nat := (n + b - 1) / b
theorem cnt_spec (n b : Nat) (hb : 0 < b) : n ≤ cnt n b * b ∧ ∀ k, k < cnt n b → k * b < n := by
  unfold cnt
  have h1 := Nat.div_add_mod (n + b - 1) b
  have h2 := Nat.mod_lt (n + b - 1) hb
  rw [Nat.mul_comm] at h1
  refine ⟨by omega, fun k hk => ?_⟩
  have := Nat.mul_le_mul_right b (show k + 1 ≤ (n + b - 1) / b by omega)
  rw [Nat.add_mul] at this
  omega
theorem cnt_le (n b : Nat) (hb : 0 < b) : cnt n b ≤ n := by
  rcases Nat.eq_zero_or_pos (cnt n b) with h | h
  · omega
  · have := (cnt_spec n b hb).2 (cnt n b - 1) (by omega)
    have h2 := Nat.le_mul_of_pos_right (cnt n b - 1) hb
    omega
theorem f75_calls (n b : Nat) (w : World) (hn : n ≤ 524288) (hb : 16 ≤ b) (hb' : b ≤ 1024) :
    Calls Try.prog 75 #[.int .i64 n, .int .i64 b] w fun e w' => e = .returned (.int .i64 (cnt n b : Nat)) ∧ w' = w := by
  go_enter Try.func75, Try.ntmps75
  go_wp2
  go_ret
  exact ⟨ret_int (by rw [show ((n : Int) + b - 1) = ((n + b - 1 : Nat) : Int) by omega]; rfl), rfl⟩
/-- A block of a text. -/
def pc (s : ByteArray) (i b : Nat) : ByteArray := s.extract (i * b) (min ((i + 1) * b) s.size)
theorem ret_ext {s : ByteArray} {a b c d : Nat} (h : a = c) (h' : b = d) : Ending.returned (.string (s.extract a b)) = .returned (.string (s.extract c d)) := by rw [h, h']
theorem f76_calls (s : ByteArray) (i b : Nat) (w : World) (hs : s.size ≤ 524288) (hb : 16 ≤ b) (hb' : b ≤ 1024) (hi : i * b < s.size) :
    Calls Try.prog 76 #[.string s, .int .i64 i, .int .i64 b] w fun e w' => e = .returned (.string (pc s i b)) ∧ w' = w := by
  have h1 : i ≤ 524288 := by have := Nat.le_mul_of_pos_right i (show 0 < b by omega); omega
  have e2 : ((i : Int) + 1) * b = ((i * b + b : Nat) : Int) := by rw [Int.add_mul]; push_cast; omega
  have e3 : ((i : Int)) * b = ((i * b : Nat) : Int) := by push_cast; rfl
  have g0 : 0 ≤ ((i : Int) + 1) * b := by omega
  have g1 : ((i : Int) + 1) * b ≤ 600000 := by omega
  have g2 : 0 ≤ (i : Int) * b := by omega
  have g3 : (i : Int) * b < s.size := by omega
  have g4 : (i : Int) * b ≤ ((i : Int) + 1) * b := by omega
  have n3 : (i + 1) * b = i * b + b := by rw [Nat.add_mul, Nat.one_mul]
  have HN3 := Lib.hid n3
  by_cases hle : ((i : Int) + 1) * b ≤ s.size
  · have hm : (i * b + b) ≤ s.size := by omega
    clear e2 e3 n3
    go_enter Try.func76, Try.ntmps76
    go_wp2
    go_ret
    exact ⟨ret_ext rfl (by rw [HN3.out]; omega), rfl⟩
  · have hm : s.size ≤ (i * b + b) := by omega
    clear e2 e3 n3
    go_enter Try.func76, Try.ntmps76
    go_wp2
    go_ret
    exact ⟨ret_ext rfl (by rw [HN3.out]; omega), rfl⟩

/-! ### roll.Sum -/
set_option maxHeartbeats 400000 in
theorem f77_calls (s : ByteArray) (w : World) (hs : s.size ≤ 524288) :
    Calls Try.prog 77 #[.string s] w fun e w' => e = .returned (.int .i64 (wk s)) ∧ w' = w := by
  go_enter Try.func77, Try.ntmps77
  go_wp2
  go_loop [3, 4, 8] (fun a b i => ∃ k : Nat, k ≤ s.size ∧ i = .int .i64 k ∧ a = .int .i64 (wkAB (s.data.toList.take k)).1 ∧ b = .int .i64 (wkAB (s.data.toList.take k)).2) (fun _ _ i => s.size - (intOf i).toNat)
  case atStart => exact ⟨0, Nat.zero_le _, rfl, rfl, rfl⟩
  case round =>
    obtain ⟨k, hk, rfl, rfl, rfl⟩ := hrel
    obtain ⟨b1, b2, b3, b4⟩ := wkAB_small (l := s.data.toList.take k) (by have := List.length_take_le k s.data.toList; omega)
    by_cases hlt : k < s.size
    · have hsn := wkAB_snoc (s.data.toList.take k) s[k]
      have hts := take_snoc s k hlt
      have HS : Hid (wkAB (s.data.toList.take (k + 1)) = wkStep (wkAB (s.data.toList.take k)) s[k]) := by rw [hts]; exact hsn
      clear hsn hts
      have hc : ((s[k].toNat : Nat) : Int) ≤ 255 := by have := s[k].toNat_lt; omega
      go_wp2
      go_round
      case rel => exact ⟨k + 1, by omega, by go_num, by rw [HS.out]; rfl, by rw [HS.out]; rfl⟩
      case measure => simp [intOf]; omega
    · have e : s.data.toList.take k = s.data.toList := List.take_of_length_le (by simp; omega)
      have HE := Lib.hid e
      clear e
      go_wp2
      go_ret
      exact ⟨ret_int (by rw [wk, HE.out]), rfl⟩
end Go.Proofs.Ytblhbbgkkijkfaa
