/- Plain words: the signature that bytes are. -/
import Derived.Test.YtblhbbgkkijkfaaRP
import Derived.Test.YtblhbbgkkijkfaaC1
namespace Go.Proofs.Ytblhbbgkkijkfaa
open Go
/-- So many counts, one behind the other. -/
def rcs (s : ByteArray) : Nat → Nat → List Int × Nat × Int
  | 0, a => ([], a, 0)
  | n + 1, a => if (rc s a 0 4294967295).2.2 = 0 then (((rc s a 0 4294967295).1 : Int) :: (rcs s n (rc s a 0 4294967295).2.1).1, (rcs s n (rc s a 0 4294967295).2.1).2) else ([], (rc s a 0 4294967295).2)
/-- So many marks, one behind the other. -/
def rds (s : ByteArray) : Nat → Nat → List ByteArray × Nat × Int
  | 0, a => ([], a, 0)
  | n + 1, a => if (rr s a 0 32).2.2 = 0 then ((rr s a 0 32).1 :: (rds s n (rr s a 0 32).2.1).1, (rds s n (rr s a 0 32).2.1).2) else ([], (rr s a 0 32).2)
/-- What a reader of signatures answers. -/
structure OfR where
  blk : Int
  size : Int
  ws : List Int
  ms : List ByteArray
  err : Int
def OfR.bad (e : Int) : OfR := ⟨0, 0, [], [], e⟩
def sigOf2 (s : ByteArray) (b n : Nat) (p : List Int × Nat × Int) (q : List ByteArray × Nat × Int) : OfR :=
  if p.2.2 = 0 then (if q.2.2 = 0 then (if re s q.2.1 0 = 0 then ⟨b, n, p.1, q.1, 0⟩ else .bad (re s q.2.1 0)) else .bad q.2.2) else .bad p.2.2
def sigOf1 (s : ByteArray) (b n a : Nat) : OfR :=
  if (16 ≤ b ∧ b ≤ 1024) ∧ n ≤ 524288 then sigOf2 s b n (rcs s (cnt n b) a) (rds s (cnt n b) (rcs s (cnt n b) a).2.1) else .bad 5
def sigOf0 (s : ByteArray) (b : Nat) (y : Nat × Nat × Int) : OfR := if y.2.2 = 0 then sigOf1 s b y.1 y.2.1 else .bad y.2.2
def sigOf (s : ByteArray) : OfR := sigOf0 s (rn s 0 0).1 (rn s (rn s 0 0).2.1 (rn s 0 0).2.2)
theorem rcs_len (s : ByteArray) : ∀ n a, (rcs s n a).2.2 = 0 → (rcs s n a).1.length = n
  | 0, a, _ => rfl
  | n + 1, a, h => by
    rw [rcs] at h ⊢
    by_cases h0 : (rc s a 0 4294967295).2.2 = 0
    · rw [if_pos h0] at h ⊢
      simp only [List.length_cons]
      rw [rcs_len s n _ h]
    · rw [if_neg h0] at h
      exact absurd h h0
theorem rcs_range (s : ByteArray) : ∀ n a, ∀ x ∈ (rcs s n a).1, 0 ≤ x ∧ x ≤ 4294967295
  | 0, a, x, hx => by simp [rcs] at hx
  | n + 1, a, x, hx => by
    rw [rcs] at hx
    by_cases h0 : (rc s a 0 4294967295).2.2 = 0
    · rw [if_pos h0] at hx
      rcases List.mem_cons.1 hx with rfl | hx
      · have := rc_bound s a 4294967295 h0
        omega
      · exact rcs_range s n _ x hx
    · rw [if_neg h0] at hx
      simp at hx
theorem rds_len (s : ByteArray) : ∀ n a, (rds s n a).2.2 = 0 → (rds s n a).1.length = n
  | 0, a, _ => rfl
  | n + 1, a, h => by
    rw [rds] at h ⊢
    by_cases h0 : (rr s a 0 32).2.2 = 0
    · rw [if_pos h0] at h ⊢
      simp only [List.length_cons]
      rw [rds_len s n _ h]
    · rw [if_neg h0] at h
      exact absurd h h0
theorem rds_size (s : ByteArray) : ∀ n a, ∀ x ∈ (rds s n a).1, x.size = 32
  | 0, a, x, hx => by simp [rds] at hx
  | n + 1, a, x, hx => by
    rw [rds] at hx
    by_cases h0 : (rr s a 0 32).2.2 = 0
    · rw [if_pos h0] at hx
      rcases List.mem_cons.1 hx with rfl | hx
      · exact rr_size s a 32 h0
      · exact rds_size s n _ x hx
    · rw [if_neg h0] at hx
      simp at hx
/-- Where the loops stand. -/
def RcAt (s : ByteArray) (N : Nat) (P : List Int × Nat × Int) (k A : Nat) (ws : List Int) : Prop := P = (ws ++ (rcs s (N - k) A).1, (rcs s (N - k) A).2)
theorem RcAt.step {s : ByteArray} {N k A : Nat} {P : List Int × Nat × Int} {ws : List Int} {x A' : Nat} (h : RcAt s N P k A ws) (hk : k < N) (hx : rc s A 0 4294967295 = (x, A', 0)) : RcAt s N P (k + 1) A' (ws ++ [(x : Int)]) := by
  unfold RcAt at *
  rw [h, show N - k = (N - (k + 1)) + 1 by omega, rcs, hx]
  simp
theorem RcAt.fail {s : ByteArray} {N k A : Nat} {P : List Int × Nat × Int} {ws : List Int} {x A' : Nat} {e : Int} (h : RcAt s N P k A ws) (hk : k < N) (hx : rc s A 0 4294967295 = (x, A', e)) (he : e ≠ 0) : P.2 = (A', e) := by
  unfold RcAt at *
  rw [h, show N - k = (N - (k + 1)) + 1 by omega, rcs, hx]
  simp [he]
theorem RcAt.done {s : ByteArray} {N A : Nat} {P : List Int × Nat × Int} {ws : List Int} (h : RcAt s N P N A ws) : P = (ws, A, 0) := by
  unfold RcAt at h
  rw [h, Nat.sub_self]
  simp [rcs]
def RdAt (s : ByteArray) (N : Nat) (P : List ByteArray × Nat × Int) (k A : Nat) (ms : List ByteArray) : Prop := P = (ms ++ (rds s (N - k) A).1, (rds s (N - k) A).2)
theorem RdAt.step {s : ByteArray} {N k A : Nat} {P : List ByteArray × Nat × Int} {ws : List ByteArray} {x : ByteArray} {A' : Nat} (h : RdAt s N P k A ws) (hk : k < N) (hx : rr s A 0 32 = (x, A', 0)) : RdAt s N P (k + 1) A' (ws ++ [x]) := by
  unfold RdAt at *
  rw [h, show N - k = (N - (k + 1)) + 1 by omega, rds, hx]
  simp
theorem RdAt.fail {s : ByteArray} {N k A : Nat} {P : List ByteArray × Nat × Int} {ws : List ByteArray} {x : ByteArray} {A' : Nat} {e : Int} (h : RdAt s N P k A ws) (hk : k < N) (hx : rr s A 0 32 = (x, A', e)) (he : e ≠ 0) : P.2 = (A', e) := by
  unfold RdAt at *
  rw [h, show N - k = (N - (k + 1)) + 1 by omega, rds, hx]
  simp [he]
theorem RdAt.done {s : ByteArray} {N A : Nat} {P : List ByteArray × Nat × Int} {ws : List ByteArray} (h : RdAt s N P N A ws) : P = (ws, A, 0) := by
  unfold RdAt at h
  rw [h, Nat.sub_self]
  simp [rds]
end Go.Proofs.Ytblhbbgkkijkfaa
