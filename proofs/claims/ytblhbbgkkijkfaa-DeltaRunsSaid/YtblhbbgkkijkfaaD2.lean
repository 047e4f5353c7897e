/- barqueref04.Sum, barqueref05.Blocks, the laws' own cut and ints, walked. -/
import Derived.Test.YtblhbbgkkijkfaaC4
import Derived.Test.YtblhbbgkkijkfaaD1
namespace Go.Proofs.Ytblhbbgkkijkfaa
open Go.RowKit Go.Maps

theorem wsum_step (A B c m : Int) : ((B + m * A) % 65536 + (m % 65536) * c) % 65536 = ((B + (A + c)) + (m - 1) * (A + c)) % 65536 := by
  have e1 : m % 65536 = m - 65536 * (m / 65536) := by omega
  have e2 : (m - 65536 * (m / 65536)) * c = m * c - 65536 * (m / 65536 * c) := by rw [Int.sub_mul, Int.mul_assoc]
  have e3 : (m - 1) * (A + c) = m * A + m * c - A - c := by rw [Int.sub_mul, Int.mul_add]; omega
  rw [e1, e2, e3]
  generalize m * A = P
  generalize m * c = Q
  generalize m / 65536 * c = R
  omega
/-- The document's second sum, k bytes of n taken. -/
def rbK (s : ByteArray) (k : Nat) : Int := ((wkAB (s.data.toList.take k)).2 + ((s.size : Int) - k) * (wkAB (s.data.toList.take k)).1) % 65536
def raK (s : ByteArray) (k : Nat) : Int := (wkAB (s.data.toList.take k)).1 % 65536
theorem raK_step (s : ByteArray) (k : Nat) (h : k < s.size) : raK s (k + 1) = (raK s k + s[k].toNat) % 65536 := by
  unfold raK
  rw [take_snoc s k h, wkAB_snoc]
  simp only [wkStep]
  omega
theorem rbK_step (s : ByteArray) (k : Nat) (h : k < s.size) : rbK s (k + 1) = (rbK s k + ((s.size : Int) - k) % 65536 * s[k].toNat) % 65536 := by
  unfold rbK
  rw [take_snoc s k h, wkAB_snoc, wsum_step]
  simp only [wkStep]
  push_cast
  rw [show (s.size : Int) - (k + 1) = s.size - k - 1 by omega]
theorem rK_end (s : ByteArray) : raK s s.size + 65536 * rbK s s.size = wk s := by
  unfold raK rbK wk
  rw [List.take_of_length_le (by simp), Int.sub_self, Int.zero_mul, Int.add_zero]
  omega
theorem rK_range (s : ByteArray) (k : Nat) : 0 ≤ raK s k ∧ raK s k < 65536 ∧ 0 ≤ rbK s k ∧ rbK s k < 65536 := by
  unfold raK rbK; omega
set_option maxHeartbeats 1000000 in
theorem f59_calls (s : ByteArray) (w : World) (hs : s.size ≤ 524288) :
    Calls Try.prog 59 #[.string s] w fun e w' => e = .returned (.int .i64 (wk s)) ∧ w' = w := by
  go_enter Try.func59, Try.ntmps59
  go_wp2
  go_loop [3, 4, 5] (fun a b i => ∃ k : Nat, k ≤ s.size ∧ i = .int .i64 k ∧ a = .int .i64 (raK s k) ∧ b = .int .i64 (rbK s k)) (fun _ _ i => s.size - (intOf i).toNat)
  case atStart => exact ⟨0, Nat.zero_le _, rfl, rfl, by simp [rbK, wkAB]⟩
  case round =>
    obtain ⟨k, hk, rfl, rfl, rfl⟩ := hrel
    obtain ⟨b1, b2, b3, b4⟩ := rK_range s k
    by_cases hlt : k < s.size
    · have HA := Lib.hid (raK_step s k hlt)
      have HB := Lib.hid (rbK_step s k hlt)
      have hc : ((s[k].toNat : Nat) : Int) ≤ 255 := by have := s[k].toNat_lt; omega
      have hm0 : 0 ≤ ((s.size : Int) - k) % 65536 := by omega
      have hm1 : ((s.size : Int) - k) % 65536 ≤ 65535 := by omega
      have hp0 : 0 ≤ ((s.size : Int) - k) % 65536 * (s[k].toNat : Int) := Int.mul_nonneg hm0 (by omega)
      have hp1 : ((s.size : Int) - k) % 65536 * (s[k].toNat : Int) ≤ 65535 * 255 := Int.mul_le_mul hm1 hc (by omega) (by omega)
      go_wp2
      go_round
      case rel => exact ⟨k + 1, by omega, by go_num, by rw [HA.out], by rw [HB.out]⟩
      case measure => simp [intOf]; omega
    · obtain rfl : k = s.size := by omega
      have HE := Lib.hid (rK_end s)
      go_wp2
      go_ret
      exact ⟨ret_int HE.out, rfl⟩

/-! ### cut -/
def cutT (s : ByteArray) (n : Nat) : ByteArray := if s.size ≤ n then s else s.extract 0 n
theorem cutT_size (s : ByteArray) (n : Nat) : (cutT s n).size ≤ n := by
  unfold cutT
  split
  · assumption
  · simp only [ByteArray.size_extract]; omega
set_option maxHeartbeats 400000 in
theorem f28_calls (s : ByteArray) (n : Nat) (w : World) (hs : s.size ≤ maxLen) (hn : n ≤ 100000) :
    Calls Try.prog 28 #[.string s, .int .i64 n] w fun e w' => e = .returned (.string (cutT s n)) ∧ w' = w := by
  have HS := Lib.hid hs
  clear hs
  by_cases h : s.size ≤ n
  · have HH := Lib.hid h
    have h1 : ¬ ((n : Int) < s.size) := by omega
    go_enter Try.func28, Try.ntmps28
    go_wp2
    go_ret
    exact ⟨ret_str (by unfold cutT; rw [if_pos HH.out]), rfl⟩
  · have HH := Lib.hid h
    have h1 : ((n : Int) < s.size) := by omega
    go_enter Try.func28, Try.ntmps28
    go_wp2
    go_ret
    exact ⟨ret_str (by unfold cutT; rw [if_neg HH.out]), rfl⟩
set_option maxHeartbeats 400000 in
theorem f47_calls (s : ByteArray) (n : Nat) (w : World) (hs : s.size ≤ maxLen) (hn : n ≤ 100000) :
    Calls Try.prog 47 #[.string s, .int .i64 n] w fun e w' => e = .returned (.string (cutT s n)) ∧ w' = w := by
  have HS := Lib.hid hs
  clear hs
  by_cases h : s.size ≤ n
  · have HH := Lib.hid h
    have h1 : ¬ ((n : Int) < s.size) := by omega
    go_enter Try.func47, Try.ntmps47
    go_wp2
    go_ret
    exact ⟨ret_str (by unfold cutT; rw [if_pos HH.out]), rfl⟩
  · have HH := Lib.hid h
    have h1 : ((n : Int) < s.size) := by omega
    go_enter Try.func47, Try.ntmps47
    go_wp2
    go_ret
    exact ⟨ret_str (by unfold cutT; rw [if_neg HH.out]), rfl⟩
end Go.Proofs.Ytblhbbgkkijkfaa
