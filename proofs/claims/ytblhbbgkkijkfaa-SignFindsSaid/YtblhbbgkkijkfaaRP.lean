/- Plain words, no Go in sight: what a reader reads. -/
import Derived.Laws.BytesArg
namespace Go.Proofs.Ytblhbbgkkijkfaa
open Go
/-- The next number from place a on, i of its bytes read, acc their value: its value, where the reader stands behind it, its error. -/
def rnum (s : ByteArray) : Nat → Nat → Nat → Nat → Nat × Nat × Int
  | 0, _, a, acc => (acc, a, 0)
  | f + 1, i, a, acc =>
    if h : a < s.size then
      if (i = 8 ∧ 63 < (s[a]).toNat) ∨ (0 < i ∧ (s[a]).toNat = 0) then (0, a + 1, 5)
      else if (s[a]).toNat < 128 then (acc + (s[a]).toNat % 128 * 128 ^ i, a + 1, 0)
      else rnum s f (i + 1) (a + 1) (acc + (s[a]).toNat % 128 * 128 ^ i)
    else (0, a, 3)
theorem rnum_end {s : ByteArray} {f i a acc : Nat} (h : ¬ a < s.size) : rnum s (f + 1) i a acc = (0, a, 3) := by
  rw [rnum, dif_neg h]
theorem rnum_form {s : ByteArray} {f i a acc : Nat} (h : a < s.size) (hf : (i = 8 ∧ 63 < (s[a]).toNat) ∨ (0 < i ∧ (s[a]).toNat = 0)) : rnum s (f + 1) i a acc = (0, a + 1, 5) := by
  rw [rnum, dif_pos h, if_pos hf]
theorem rnum_last {s : ByteArray} {f i a acc : Nat} (h : a < s.size) (hf : ¬ ((i = 8 ∧ 63 < (s[a]).toNat) ∨ (0 < i ∧ (s[a]).toNat = 0))) (hl : (s[a]).toNat < 128) : rnum s (f + 1) i a acc = (acc + (s[a]).toNat % 128 * 128 ^ i, a + 1, 0) := by
  rw [rnum, dif_pos h, if_neg hf, if_pos hl]
theorem rnum_more {s : ByteArray} {f i a acc : Nat} (h : a < s.size) (hf : ¬ ((i = 8 ∧ 63 < (s[a]).toNat) ∨ (0 < i ∧ (s[a]).toNat = 0))) (hl : ¬ (s[a]).toNat < 128) : rnum s (f + 1) i a acc = rnum s f (i + 1) (a + 1) (acc + (s[a]).toNat % 128 * 128 ^ i) := by
  rw [rnum, dif_pos h, if_neg hf, if_neg hl]
/-- A reader that may have an error: number, count, bytes, end. -/
def rn (s : ByteArray) (a : Nat) (e : Int) : Nat × Nat × Int := if e = 0 then rnum s 9 0 a 0 else (0, a, e)
def rc (s : ByteArray) (a : Nat) (e : Int) (most : Nat) : Nat × Nat × Int :=
  if (rn s a e).2.2 = 0 ∧ most < (rn s a e).1 then (0, (rn s a e).2.1, 4) else rn s a e
def rr (s : ByteArray) (a : Nat) (e : Int) (n : Nat) : ByteArray × Nat × Int :=
  if e = 0 then (if s.size - a < n then (⟨#[]⟩, a, 3) else (s.extract a (a + n), a + n, 0)) else (⟨#[]⟩, a, e)
def re (s : ByteArray) (a : Nat) (e : Int) : Int := if e = 0 ∧ a < s.size then 4 else e
theorem rnum_le (s : ByteArray) : ∀ (f i a acc : Nat), a ≤ s.size → (rnum s f i a acc).2.1 ≤ s.size ∧ a ≤ (rnum s f i a acc).2.1
  | 0, _, a, acc, h => by simp [rnum, h]
  | f + 1, i, a, acc, h => by
    rw [rnum]
    split
    · rename_i hlt
      split
      · exact ⟨hlt, Nat.le_succ a⟩
      · split
        · exact ⟨hlt, Nat.le_succ a⟩
        · have := rnum_le s f (i + 1) (a + 1) (acc + (s[a]).toNat % 128 * 128 ^ i) hlt
          exact ⟨this.1, by omega⟩
    · simp [h]
theorem pow128 (i : Nat) : 128 ^ (i + 1) = 128 ^ i * 128 := Nat.pow_succ ..
theorem rnum_bound (s : ByteArray) : ∀ (f i a acc : Nat), acc < 128 ^ i → i + f = 9 → (rnum s f i a acc).1 < 2 ^ 62 ∨ 9 ≤ i
  | 0, i, a, acc, _, hi => .inr (by omega)
  | f + 1, i, a, acc, h, hi => by
    left
    rw [rnum]
    have h62 : (2 : Nat) ^ 62 = 64 * 128 ^ 8 := by decide
    have hle : 128 ^ i ≤ 128 ^ 8 := Nat.pow_le_pow_right (by omega) (by omega)
    have hp := pow128 i
    have hpos : 0 < 128 ^ i := Nat.pow_pos (by omega)
    split
    · rename_i hlt
      split
      · simp
      · rename_i hn
        have hc : i = 8 → (s[a]).toNat ≤ 63 := fun h8 => by
          rcases Nat.lt_or_ge 63 (s[a]).toNat with h | h
          · exact absurd (.inl ⟨h8, h⟩) hn
          · exact h
        have hm : (s[a]).toNat % 128 * 128 ^ i ≤ 127 * 128 ^ i := Nat.mul_le_mul_right _ (by omega)
        split
        · show acc + (s[a]).toNat % 128 * 128 ^ i < 2 ^ 62
          by_cases h8 : i = 8
          · have := hc h8
            subst h8
            have h3 : (s[a]).toNat % 128 * 128 ^ 8 ≤ 63 * 128 ^ 8 := Nat.mul_le_mul_right _ (by omega)
            omega
          · have h7 : 128 ^ (i + 1) ≤ 128 ^ 8 := Nat.pow_le_pow_right (by omega) (by omega)
            omega
        · rename_i h128
          have h8 : i ≠ 8 := fun h8 => by have := hc h8; omega
          rcases rnum_bound s f (i + 1) (a + 1) (acc + (s[a]).toNat % 128 * 128 ^ i) (by omega) (by omega) with h | h
          · exact h
          · omega
    · simp
theorem rn_le (s : ByteArray) (a : Nat) (e : Int) (h : a ≤ s.size) : (rn s a e).2.1 ≤ s.size ∧ a ≤ (rn s a e).2.1 := by
  unfold rn
  split
  · exact rnum_le s 9 0 a 0 h
  · exact ⟨h, Nat.le_refl _⟩
theorem rn_bound (s : ByteArray) (a : Nat) (e : Int) : (rn s a e).1 < 2 ^ 62 := by
  unfold rn
  split
  · rcases rnum_bound s 9 0 a 0 (by decide) rfl with h | h
    · exact h
    · omega
  · simp
theorem rc_le (s : ByteArray) (a : Nat) (e : Int) (m : Nat) (h : a ≤ s.size) : (rc s a e m).2.1 ≤ s.size ∧ a ≤ (rc s a e m).2.1 := by
  unfold rc
  split
  · exact rn_le s a e h
  · exact rn_le s a e h
theorem rc_bound (s : ByteArray) (a : Nat) (m : Nat) (h : (rc s a 0 m).2.2 = 0) : (rc s a 0 m).1 ≤ m := by
  unfold rc at h ⊢
  by_cases hc : (rn s a 0).2.2 = 0 ∧ m < (rn s a 0).1
  · rw [if_pos hc] at h; simp at h
  · rw [if_neg hc] at h ⊢
    exact Nat.le_of_not_lt fun h' => hc ⟨h, h'⟩
theorem rr_le (s : ByteArray) (a : Nat) (e : Int) (n : Nat) (h : a ≤ s.size) : (rr s a e n).2.1 ≤ s.size ∧ a ≤ (rr s a e n).2.1 := by
  unfold rr
  split
  · split
    · exact ⟨h, Nat.le_refl _⟩
    · exact ⟨by simp only; omega, by simp⟩
  · exact ⟨h, Nat.le_refl _⟩
theorem rr_size (s : ByteArray) (a n : Nat) (h : (rr s a 0 n).2.2 = 0) : (rr s a 0 n).1.size = n := by
  unfold rr at h ⊢
  rw [if_pos rfl] at h ⊢
  by_cases hc : s.size - a < n
  · rw [if_pos hc] at h; simp at h
  · rw [if_neg hc]
    simp only [ByteArray.size_extract]
    omega
end Go.Proofs.Ytblhbbgkkijkfaa
