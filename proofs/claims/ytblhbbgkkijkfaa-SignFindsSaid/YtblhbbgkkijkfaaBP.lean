/- Plain words: a signature and its bytes are each other's, there and back. -/
import Derived.Test.YtblhbbgkkijkfaaSB
import Derived.Test.YtblhbbgkkijkfaaOP
namespace Go.Proofs.Ytblhbbgkkijkfaa
open Go
/-- What stands in a text from a place on. -/
def Suf (s : ByteArray) (a : Nat) : List UInt8 := s.data.toList.drop a
theorem suf_cons {s : ByteArray} {a : Nat} {c : UInt8} {l : List UInt8} (h : Suf s a = c :: l) : ∃ h : a < s.size, s[a] = c ∧ Suf s (a + 1) = l := by
  unfold Suf at *
  have hlt : a < s.data.toList.length := by
    rcases Nat.lt_or_ge a s.data.toList.length with h1 | h1
    · exact h1
    · rw [List.drop_eq_nil_of_le h1] at h; cases h
  rw [List.drop_eq_getElem_cons hlt] at h
  injection h with h1 h2
  exact ⟨by simpa using hlt, h1, h2⟩
theorem suf_at {s : ByteArray} {a : Nat} (h : a < s.size) : Suf s a = s[a] :: Suf s (a + 1) := by
  unfold Suf
  rw [List.drop_eq_getElem_cons (by simpa using h)]
  rfl
theorem suf_end {s : ByteArray} {a : Nat} (h : ¬ a < s.size) : Suf s a = [] := by
  unfold Suf
  exact List.drop_eq_nil_of_le (by simp; omega)
theorem suf_nil {s : ByteArray} {a : Nat} (h : Suf s a = []) : ¬ a < s.size := by
  intro h1
  rw [suf_at h1] at h
  cases h
theorem suf_append {s : ByteArray} {a : Nat} {l m : List UInt8} (h : Suf s a = l ++ m) : Suf s (a + l.length) = m := by
  unfold Suf at *
  rw [← List.drop_drop, h]
  simp
theorem suf_zero (s : ByteArray) : Suf s 0 = s.data.toList := rfl
theorem suf_len {s : ByteArray} {a : Nat} : (Suf s a).length = s.size - a := by
  unfold Suf
  rw [List.length_drop]
  rfl
theorem pow62 : (2 : Nat) ^ 62 = 64 * 128 ^ 8 := by decide
theorem rnum_numL (s : ByteArray) : ∀ (f i a acc m : Nat) (l : List UInt8), i + f = 9 → 0 < f → Suf s a = numL m ++ l → (0 < i → 0 < m) → m * 128 ^ i < 2 ^ 62 →
    rnum s f i a acc = (acc + m * 128 ^ i, a + (numL m).length, 0)
  | 0, _, _, _, _, _, _, h, _, _, _ => absurd h (Nat.lt_irrefl _)
  | f + 1, i, a, acc, m, l, hi, _, hs, hm, hb => by
    by_cases h : m < 128
    · rw [numL_lt h] at hs ⊢
      obtain ⟨hlt, hc, _⟩ := suf_cons hs
      have hv : (s[a]).toNat = m := by rw [hc]; simp; omega
      have h8 : i = 8 → m ≤ 63 := by
        intro h8; subst h8; rw [pow62] at hb; have := Nat.lt_of_mul_lt_mul_right hb; omega
      rw [rnum_last hlt (by rw [hv]; omega) (by rw [hv]; exact h), hv]
      simp only [List.length_cons, List.length_nil]
      rw [Nat.mod_eq_of_lt h]
    · rw [numL_ge h] at hs ⊢
      obtain ⟨hlt, hc, hs'⟩ := suf_cons hs
      have hv : (s[a]).toNat = m % 128 + 128 := by rw [hc]; simp; omega
      have h8 : i < 8 := by
        rcases Nat.lt_or_ge i 8 with h8 | h8
        · exact h8
        · obtain rfl : i = 8 := by omega
          rw [pow62] at hb; have := Nat.lt_of_mul_lt_mul_right hb; omega
      have e : m * 128 ^ i = m % 128 * 128 ^ i + m / 128 * 128 ^ (i + 1) := by
        rw [Nat.pow_succ, show m / 128 * (128 ^ i * 128) = (128 * (m / 128)) * 128 ^ i by rw [Nat.mul_comm (128 ^ i) 128, ← Nat.mul_assoc, Nat.mul_comm (m / 128) 128], ← Nat.add_mul, Nat.add_comm, Nat.div_add_mod]
      have hle : m / 128 * 128 ^ (i + 1) ≤ m * 128 ^ i := by omega
      rw [rnum_more hlt (by rw [hv]; omega) (by rw [hv]; omega), rnum_numL s f (i + 1) (a + 1) _ (m / 128) l (by omega) (by omega) hs' (by omega) (by omega), hv]
      simp only [List.length_cons]
      rw [show (m % 128 + 128) % 128 = m % 128 by omega, e]
      congr 1
      · omega
      · congr 1; omega
theorem rn_numL {s : ByteArray} {a n : Nat} {l : List UInt8} (hs : Suf s a = numL n ++ l) (hn : n < 2 ^ 62) : rn s a 0 = (n, a + (numL n).length, 0) := by
  unfold rn
  rw [if_pos rfl, rnum_numL s 9 0 a 0 n l rfl (by omega) hs (by omega) (by simpa using hn)]
  simp
theorem rc_numL {s : ByteArray} {a n : Nat} {l : List UInt8} (hs : Suf s a = numL n ++ l) (hn : n ≤ 4294967295) : rc s a 0 4294967295 = (n, a + (numL n).length, 0) := by
  unfold rc
  rw [rn_numL hs (by omega), if_neg (by simp only; omega)]
theorem rcs_numsL (s : ByteArray) : ∀ (ws : List Int) (a : Nat) (l : List UInt8), Suf s a = numsL ws ++ l → (∀ x ∈ ws, 0 ≤ x ∧ x ≤ 4294967295) → rcs s ws.length a = (ws, a + (numsL ws).length, 0)
  | [], a, l, _, _ => by simp [rcs, numsL]
  | x :: ws, a, l, hs, hx => by
    have e : numsL (x :: ws) = numL x.toNat ++ numsL ws := by simp [numsL]
    rw [e, List.append_assoc] at hs
    have h0 := hx x List.mem_cons_self
    rw [List.length_cons, rcs, rc_numL hs (by omega), if_pos rfl]
    simp only
    rw [rcs_numsL s ws _ l (suf_append hs) (fun y hy => hx y (List.mem_cons_of_mem _ hy)), e, List.length_append]
    rw [show ((x.toNat : Nat) : Int) = x by omega]
    simp only [Prod.mk.injEq, true_and, and_true]
    omega
theorem suf_extract {s : ByteArray} {a n : Nat} : (s.extract a (a + n)).data.toList = (Suf s a).take n := by
  unfold Suf
  simp [ByteArray.data_extract]
theorem rr_marks {s : ByteArray} {a : Nat} {m : ByteArray} {l : List UInt8} (hs : Suf s a = m.data.toList ++ l) (hm : m.size = 32) : rr s a 0 32 = (m, a + 32, 0) := by
  have hl := congrArg List.length hs
  rw [suf_len, List.length_append] at hl
  have hml : m.data.toList.length = 32 := hm
  unfold rr
  rw [if_pos rfl, if_neg (by omega)]
  congr 1
  have h := suf_extract (s := s) (a := a) (n := 32)
  rw [hs, List.take_append_of_le_length (by omega), List.take_of_length_le (by omega)] at h
  cases m with
  | mk d =>
    have := congrArg List.toArray h
    simp only [Array.toArray_toList] at this
    generalize s.extract a (a + 32) = q at this
    cases q with
    | mk q => simp only at this; rw [this]
theorem rds_marksL (s : ByteArray) : ∀ (ms : List ByteArray) (a : Nat) (l : List UInt8), Suf s a = marksL ms ++ l → (∀ x ∈ ms, x.size = 32) → rds s ms.length a = (ms, a + (marksL ms).length, 0)
  | [], a, l, _, _ => by simp [rds, marksL]
  | x :: ms, a, l, hs, hx => by
    have e : marksL (x :: ms) = x.data.toList ++ marksL ms := by simp [marksL]
    rw [e, List.append_assoc] at hs
    have h0 := hx x List.mem_cons_self
    have h32 : x.data.toList.length = 32 := h0
    have hs' := suf_append hs
    rw [h32] at hs'
    rw [List.length_cons, rds, rr_marks hs h0, if_pos rfl]
    simp only
    rw [rds_marksL s ms _ l hs' (fun y hy => hx y (List.mem_cons_of_mem _ hy)), e, List.length_append, h32]
    simp only [Prod.mk.injEq, true_and, and_true]
    omega
/-- There. -/
theorem sigOf_sigL {blk size : Int} {ws : List Int} {ms : List ByteArray} (h : SigOK blk size ws ms) : sigOf ⟨(sigL blk size ws ms).toArray⟩ = ⟨blk, size, ws, ms, 0⟩ := by
  obtain ⟨h1, h2, h3, h4, h5, h6, h7, h8⟩ := h
  obtain ⟨b, rfl⟩ := Int.eq_ofNat_of_zero_le (show 0 ≤ blk by omega)
  obtain ⟨n, rfl⟩ := Int.eq_ofNat_of_zero_le h3
  generalize hS : (⟨(sigL b n ws ms).toArray⟩ : ByteArray) = S
  have hs0 : Suf S 0 = numL b ++ (numL n ++ (numsL ws ++ (marksL ms ++ []))) := by
    rw [suf_zero, ← hS]
    simp [sigL, numsL]
  have e1 := rn_numL hs0 (by omega)
  have hs1 := suf_append hs0
  have e2 := rn_numL hs1 (by omega)
  have hs2 := suf_append hs1
  have e3 := rcs_numsL S ws _ _ hs2 h7
  have hs3 := suf_append hs2
  have e4 := rds_marksL S ms _ _ hs3 h8
  have hs4 := suf_append hs3
  rw [show ws.length = cnt n b by simpa using h5] at e3 h6
  rw [h6] at e4
  unfold sigOf
  simp only [e1, e2]
  unfold sigOf0
  simp only [if_true]
  unfold sigOf1
  rw [if_pos (by omega)]
  unfold sigOf2
  simp only [e3, e4, if_true]
  have e5 : re S (0 + (numL b).length + (numL n).length + (numsL ws).length + (marksL ms).length) 0 = 0 := by
    unfold re
    rw [if_neg]
    exact fun h => suf_nil hs4 h.2
  rw [e5, if_pos rfl]
theorem rnum_inv (s : ByteArray) : ∀ (f i a acc v a' : Nat), i + f = 9 → rnum s f i a acc = (v, a', 0) → a ≤ s.size → i < 9 →
    ∃ m, v = acc + m * 128 ^ i ∧ Suf s a = numL m ++ Suf s a' ∧ (0 < i → 0 < m)
  | 0, i, a, acc, v, a', hi, _, _, h9 => by omega
  | f + 1, i, a, acc, v, a', hi, h, ha, h9 => by
    rw [rnum] at h
    by_cases hlt : a < s.size
    · rw [dif_pos hlt] at h
      have hcb : (s[a]).toNat < 256 := (s[a]).toNat_lt
      by_cases hf : (i = 8 ∧ 63 < (s[a]).toNat) ∨ (0 < i ∧ (s[a]).toNat = 0)
      · rw [if_pos hf] at h; simp at h
      · rw [if_neg hf] at h
        have hself : (s[a]).toNat.toUInt8 = s[a] := by simp
        by_cases hl : (s[a]).toNat < 128
        · rw [if_pos hl] at h
          simp only [Prod.mk.injEq, and_true] at h
          obtain ⟨rfl, rfl⟩ := h
          refine ⟨(s[a]).toNat, by rw [Nat.mod_eq_of_lt hl], ?_, by omega⟩
          rw [numL_lt hl, suf_at hlt, hself]
          rfl
        · rw [if_neg hl] at h
          obtain ⟨m, hv, hs, hm⟩ := rnum_inv s f (i + 1) (a + 1) _ v a' (by omega) h hlt (by omega)
          have hm0 := hm (by omega)
          refine ⟨m * 128 + (s[a]).toNat % 128, ?_, ?_, by omega⟩
          · rw [hv, Nat.pow_succ, Nat.add_mul, Nat.mul_assoc, Nat.mul_comm 128 (128 ^ i)]
            omega
          · rw [numL_ge (by omega), suf_at hlt, hs, show (m * 128 + (s[a]).toNat % 128) / 128 = m by omega, show (m * 128 + (s[a]).toNat % 128) % 128 + 128 = (s[a]).toNat by omega, hself]
            rfl
    · rw [dif_neg hlt] at h
      simp at h
theorem rn_inv {s : ByteArray} {a : Nat} (ha : a ≤ s.size) (h : (rn s a 0).2.2 = 0) : Suf s a = numL (rn s a 0).1 ++ Suf s (rn s a 0).2.1 := by
  unfold rn at h ⊢
  rw [if_pos rfl] at h ⊢
  obtain ⟨m, hv, hs, _⟩ := rnum_inv s 9 0 a 0 _ _ rfl (show rnum s 9 0 a 0 = ((rnum s 9 0 a 0).1, (rnum s 9 0 a 0).2.1, 0) by rw [← h]) ha (by omega)
  rw [hv]
  simpa using hs
theorem rc_inv {s : ByteArray} {a : Nat} (ha : a ≤ s.size) (h : (rc s a 0 4294967295).2.2 = 0) : Suf s a = numL (rc s a 0 4294967295).1 ++ Suf s (rc s a 0 4294967295).2.1 := by
  unfold rc at h ⊢
  by_cases hc : (rn s a 0).2.2 = 0 ∧ 4294967295 < (rn s a 0).1
  · rw [if_pos hc] at h; simp at h
  · rw [if_neg hc] at h ⊢
    exact rn_inv ha h
theorem rcs_inv (s : ByteArray) : ∀ (n a : Nat), a ≤ s.size → (rcs s n a).2.2 = 0 → Suf s a = numsL (rcs s n a).1 ++ Suf s (rcs s n a).2.1 ∧ (rcs s n a).2.1 ≤ s.size
  | 0, a, ha, _ => by simp [rcs, numsL, ha]
  | n + 1, a, ha, h => by
    rw [rcs] at h ⊢
    by_cases h0 : (rc s a 0 4294967295).2.2 = 0
    · rw [if_pos h0] at h ⊢
      have h1 := rc_inv ha h0
      have h2 := rcs_inv s n _ (rc_le s a 0 4294967295 ha).1 h
      refine ⟨?_, h2.2⟩
      rw [h1, h2.1]
      simp [numsL]
    · rw [if_neg h0] at h
      exact absurd h h0
theorem rr_inv {s : ByteArray} {a : Nat} (h : (rr s a 0 32).2.2 = 0) : Suf s a = (rr s a 0 32).1.data.toList ++ Suf s (rr s a 0 32).2.1 := by
  unfold rr at h ⊢
  rw [if_pos rfl] at h ⊢
  by_cases hc : s.size - a < 32
  · rw [if_pos hc] at h; simp at h
  · rw [if_neg hc]
    simp only
    rw [suf_extract]
    unfold Suf
    rw [← List.drop_drop, List.take_append_drop]
theorem rds_inv (s : ByteArray) : ∀ (n a : Nat), a ≤ s.size → (rds s n a).2.2 = 0 → Suf s a = marksL (rds s n a).1 ++ Suf s (rds s n a).2.1 ∧ (rds s n a).2.1 ≤ s.size
  | 0, a, ha, _ => by simp [rds, marksL, ha]
  | n + 1, a, ha, h => by
    rw [rds] at h ⊢
    by_cases h0 : (rr s a 0 32).2.2 = 0
    · rw [if_pos h0] at h ⊢
      have h1 := rr_inv h0
      have h2 := rds_inv s n _ (rr_le s a 0 32 ha).1 h
      refine ⟨?_, h2.2⟩
      rw [h1, h2.1]
      simp [marksL]
    · rw [if_neg h0] at h
      exact absurd h h0
/-- And back. -/
theorem sigOf_inv {s : ByteArray} (h : (sigOf s).err = 0) : SigOK (sigOf s).blk (sigOf s).size (sigOf s).ws (sigOf s).ms ∧ sigL (sigOf s).blk (sigOf s).size (sigOf s).ws (sigOf s).ms = s.data.toList := by
  have hle1 := (rn_le s 0 0 (Nat.zero_le _)).1
  unfold sigOf at h ⊢
  generalize hx : rn s 0 0 = x at *
  have hle2 := (rn_le s x.2.1 x.2.2 hle1).1
  generalize hy : rn s x.2.1 x.2.2 = y at *
  unfold sigOf0 at h ⊢
  by_cases h2 : y.2.2 = 0
  · have h1 : x.2.2 = 0 := by
      rcases Decidable.em (x.2.2 = 0) with h1 | h1
      · exact h1
      · unfold rn at hy; rw [if_neg h1] at hy; rw [← hy] at h2; exact absurd h2 h1
    rw [if_pos h2] at h ⊢
    unfold sigOf1 at h ⊢
    by_cases hf : (16 ≤ x.1 ∧ x.1 ≤ 1024) ∧ y.1 ≤ 524288
    · rw [if_pos hf] at h ⊢
      generalize hP : rcs s (cnt y.1 x.1) y.2.1 = P at *
      generalize hQ : rds s (cnt y.1 x.1) P.2.1 = Q at *
      unfold sigOf2 at h ⊢
      by_cases hp : P.2.2 = 0
      · rw [if_pos hp] at h ⊢
        by_cases hq : Q.2.2 = 0
        · rw [if_pos hq] at h ⊢
          by_cases hr : re s Q.2.1 0 = 0
          · rw [if_pos hr]
            have l1 := rcs_len s (cnt y.1 x.1) y.2.1 (by rw [hP]; exact hp)
            have l2 := rcs_range s (cnt y.1 x.1) y.2.1
            have l3 := rds_len s (cnt y.1 x.1) P.2.1 (by rw [hQ]; exact hq)
            have l4 := rds_size s (cnt y.1 x.1) P.2.1
            have i1 := rn_inv (Nat.zero_le s.size) (by rw [hx]; exact h1)
            have i2 := rn_inv (s := s) (a := x.2.1) hle1 (by rw [← h1, hy]; rw [h1]; exact h2)
            have i3 := rcs_inv s (cnt y.1 x.1) y.2.1 hle2 (by rw [hP]; exact hp)
            have i4 := rds_inv s (cnt y.1 x.1) P.2.1 (by rw [← hP]; exact i3.2) (by rw [hQ]; exact hq)
            rw [hP] at l1 l2 i3
            rw [hQ] at l3 l4 i4
            rw [hx] at i1
            rw [← h1, hy] at i2
            refine ⟨⟨by simp only; omega, by simp only; omega, by simp only; omega, by simp only; omega, by simpa using l1, by simp only; omega, l2, l4⟩, ?_⟩
            have hend : Suf s Q.2.1 = [] := by
              apply suf_end
              intro hlt
              unfold re at hr
              rw [if_pos ⟨rfl, hlt⟩] at hr
              simp at hr
            rw [← suf_zero, i1, i2, i3.1, i4.1, hend]
            simp [sigL, numsL]
          · rw [if_neg hr] at h; exact absurd h hr
        · rw [if_neg hq] at h; exact absurd h hq
      · rw [if_neg hp] at h; exact absurd h hp
    · rw [if_neg hf] at h; simp [OfR.bad] at h
  · rw [if_neg h2] at h; exact absurd h h2
end Go.Proofs.Ytblhbbgkkijkfaa
