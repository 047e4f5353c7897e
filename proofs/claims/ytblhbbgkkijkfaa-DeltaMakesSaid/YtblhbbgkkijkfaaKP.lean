/- delta: the plain laws under an ideal book. -/
import Derived.Test.YtblhbbgkkijkfaaK8
import Derived.Test.YtblhbbgkkijkfaaL15
namespace Go.Proofs.Ytblhbbgkkijkfaa
open Go.RowKit Go.Maps
/-- The books that a call comes to that began with this one. -/
def Grown (L : List ByteArray) (k : Nat) (K : Bk) : Prop := ∃ M, K = .ideal M ∧ M.length ≤ L.length + k ∧ ∀ y ∈ L, y ∈ M ∧ (Bk.ideal M).mark y = (Bk.ideal L).mark y
theorem Grown.start (L : List ByteArray) : Grown L 0 (.ideal L) := ⟨L, rfl, Nat.le_refl _, fun _ h => ⟨h, rfl⟩⟩
theorem Grown.up {L : List ByteArray} {k : Nat} {K : Bk} (h : Grown L k K) : Grown L (k + 1) K := by
  obtain ⟨M, rfl, h1, h2⟩ := h
  exact ⟨M, rfl, by omega, h2⟩
theorem Grown.add {L : List ByteArray} {k : Nat} {K : Bk} (h : Grown L k K) (t : ByteArray) : Grown L (k + 1) (K.add t) := by
  obtain ⟨M, rfl, h1, h2⟩ := h
  obtain ⟨M2, e, h3, h4⟩ := add_more M t
  exact ⟨M2, e, by omega, fun y hy => ⟨(h4 y (h2 y hy).1).1, (h4 y (h2 y hy).1).2.trans (h2 y hy).2⟩⟩
/-- Which block of a signed text a text is. -/
def mI (basis : ByteArray) (n : Nat) (t : ByteArray) (z : Int) : Int := pick (cl basis n (wk t) t) z
/-- Is a text its last block, which is not whole? -/
def tI (basis : ByteArray) (n : Nat) (t : ByteArray) : Bool := decide (0 < basis.size % n ∧ t = basis.extract (basis.size - basis.size % n) basis.size)
theorem cl_range {s : ByteArray} {n : Nat} {x : Int} {t : ByteArray} (hn : 0 < n) : ∀ i ∈ cl s n x t, 0 ≤ i ∧ i < (s.size / n : Nat) := by
  intro i hi
  unfold cl at hi
  rw [List.mem_filter] at hi
  obtain ⟨h1, h2⟩ := hi
  obtain ⟨h3, h4⟩ := rng_mem h1
  unfold isC at h2
  rw [decide_eq_true_eq] at h2
  refine ⟨h3, ?_⟩
  obtain ⟨j, rfl⟩ := Int.eq_ofNat_of_zero_le h3
  have hc := cnt_div s.size n hn
  have h5 := h2.1
  rw [Int.toNat_natCast] at h5
  by_cases hj : j < s.size / n
  · omega
  · exfalso
    have hj2 : j = s.size / n := by split at hc <;> omega
    subst hj2
    rw [pc_last_size hn] at h5
    have := Nat.mod_lt s.size hn
    omega
theorem pick_range {l : List Int} {Q : Nat} (h : ∀ i ∈ l, 0 ≤ i ∧ i < (Q : Int)) (z : Int) : -1 ≤ pick l z ∧ pick l z < Q := by
  unfold pick
  split
  · rename_i hz
    have := h z hz
    omega
  · cases l with
    | nil => simp only [List.headD_nil]; omega
    | cons a l =>
      have := h a (by simp)
      simp only [List.headD_cons]
      omega
theorem ansIdeal {basis : ByteArray} {n mb : Nat} {L : List ByteArray} (hn : 0 < n) (hL : L.length ≤ 524288) (hk : ∀ y ∈ pcs basis n (cnt basis.size n), y ∈ L) :
    Ans (sweak basis n (cnt basis.size n)) ((pcs basis n (cnt basis.size n)).map (Bk.ideal L).mark) (basis.size / n) n basis.size mb (.ideal L) (Grown L) (mI basis n) (tI basis n) := by
  have hmap : ∀ M : List ByteArray, (∀ y ∈ L, y ∈ M ∧ (Bk.ideal M).mark y = (Bk.ideal L).mark y) → (pcs basis n (cnt basis.size n)).map (Bk.ideal L).mark = (pcs basis n (cnt basis.size n)).map (Bk.ideal M).mark := by
    intro M h
    apply List.map_congr_left
    intro y hy
    exact (h y (hk y hy)).2.symm
  refine ⟨?_, ?_, fun k K h => h.up, fun s z => pick_range (cl_range hn) z, ?_, ?_⟩
  · rintro k K ⟨M, rfl, h1, _⟩ hk2
    show M.length + 2 < _
    omega
  · rintro k K ⟨M, rfl, _, _⟩
    rfl
  · rintro k K s z hG hk2 _
    obtain ⟨M, rfl, h1, h2⟩ := hG
    refine ⟨?_, ?_⟩
    · rw [hmap M h2]
      exact match_law hn (by omega) (fun y hy => (h2 y (hk y hy)).1)
    · unfold mtcB
      split
      · exact Grown.add ⟨M, rfl, h1, h2⟩ s
      · exact Grown.up ⟨M, rfl, h1, h2⟩
  · rintro k K s hG hk2
    obtain ⟨M, rfl, h1, h2⟩ := hG
    refine ⟨tail_law hn (by omega) (fun y hy => h2 y (hk y hy)), ?_⟩
    unfold tlB
    split
    · exact Grown.add ⟨M, rfl, h1, h2⟩ s
    · exact Grown.up ⟨M, rfl, h1, h2⟩
/-- What a text's own signature makes of it: one copy. -/
def selfP (s : ByteArray) : List Stp := if s.size = 0 then [] else [⟨0, s.size, ⟨#[]⟩⟩]
theorem empty_size : (⟨#[]⟩ : ByteArray).size = 0 := rfl
theorem win_pc {s : ByteArray} {i n : Nat} (h : i * n + n ≤ s.size) : win s (i * n) n = pc s i n := by
  unfold win pc
  rw [Nat.add_mul, Nat.one_mul, Nat.min_eq_left h]
def selfI (i n : Nat) : List Stp := if i = 0 then [] else [⟨0, ((i * n : Nat) : Int), ⟨#[]⟩⟩]
theorem cpy_self {i n m : Nat} (hn : 0 < n) : cpy (selfI i n) ((i * n : Nat) : Int) (m : Int) = [⟨0, ((i * n + m : Nat) : Int), ⟨#[]⟩⟩] := by
  unfold selfI
  by_cases h : i = 0
  · subst h
    rw [if_pos rfl, Nat.zero_mul, cpy_nil]
    simp
  · rw [if_neg h]
    have h2 := cpy_snoc [] ⟨0, ((i * n : Nat) : Int), ⟨#[]⟩⟩ ((i * n : Nat) : Int) (m : Int)
    rw [List.nil_append] at h2
    rw [h2, if_pos ⟨by have := Nat.mul_pos (Nat.pos_of_ne_zero h) hn; show (0 : Int) < ((i * n : Nat) : Int); omega, by simp⟩]
    simp
theorem mkGo_self {s : ByteArray} {n : Nat} (hn : 0 < n) : ∀ (f i : Nat), i * n ≤ s.size → s.size < i * n + f → mkGo s.size n (mI s n) (tI s n) s f (i * n) (i : Int) (selfI i n) ⟨#[]⟩ = selfP s := by
  intro f
  induction f with
  | zero => intro i h1 h2; omega
  | succ f ih =>
    intro i h1 h2
    rw [mkGo]
    by_cases hb : i * n + n ≤ s.size
    · have hi : i < s.size / n := (Nat.le_div_iff_mul_le hn).2 (by rw [Nat.succ_mul]; omega)
      have hM : mI s n (win s (i * n) n) (i : Int) = (i : Int) := by
        rw [win_pc hb]
        exact pick_self hn hi
      rw [if_pos hb, hM, if_neg (by omega), chunks_nil empty_size, List.append_nil]
      have h3 : (i : Int) * (n : Int) = ((i * n : Nat) : Int) := by push_cast; rfl
      rw [h3, cpy_self hn]
      have h4 := ih (i + 1) (by rw [Nat.add_mul]; omega) (by rw [Nat.add_mul]; omega)
      have h5 : selfI (i + 1) n = [⟨0, ((i * n + n : Nat) : Int), ⟨#[]⟩⟩] := by unfold selfI; rw [if_neg (by omega), Nat.add_mul, Nat.one_mul]
      rw [h5, Nat.add_mul, Nat.one_mul] at h4
      rw [show ((i + 1 : Nat) : Int) = (i : Int) + 1 by push_cast; rfl] at h4
      exact h4
    · rw [if_neg hb]
      have hdm := Nat.div_add_mod s.size n
      have hq : s.size / n = i := by
        have h3 : i ≤ s.size / n := (Nat.le_div_iff_mul_le hn).2 h1
        have h4 : s.size / n < i + 1 := (Nat.div_lt_iff_lt_mul hn).2 (by rw [Nat.succ_mul]; omega)
        omega
      have hr : s.size % n = s.size - i * n := by rw [hq, Nat.mul_comm] at hdm; omega
      have hz : (s.extract (i * n) s.size).size = s.size - i * n := by rw [ByteArray.size_extract]; omega
      have hx : ∀ x : ByteArray, x.extract 0 x.size = x := fun x => ByteArray.extract_zero_size
      have he : ∀ x : ByteArray, x.size = 0 → x = ⟨#[]⟩ := fun x h => ByteArray.ext (Array.eq_empty_of_size_eq_zero h)
      unfold endP
      rw [hr, hz, Nat.sub_self]
      have hxx : (s.extract (i * n) s.size).extract 0 (s.size - i * n) = s.extract (i * n) s.size := by rw [← hz]; exact hx _
      rw [hxx]
      have hs2 : s.size - (s.size - i * n) = i * n := by omega
      by_cases h0 : 0 < s.size - i * n
      · rw [if_pos ⟨Nat.le_refl _, by unfold tI; rw [decide_eq_true_eq, hr]; exact ⟨h0, by rw [hs2]⟩⟩]
        have hc : chunks ((⟨#[]⟩ : ByteArray) ++ (s.extract (i * n) s.size).extract 0 0) = [] := chunks_nil (by rw [ByteArray.size_append, ByteArray.size_extract]; rw [empty_size]; omega)
        rw [hc, List.append_nil, hs2, cpy_self hn]
        unfold selfP
        rw [if_neg (by omega), show i * n + (s.size - i * n) = s.size by omega]
      · rw [if_neg (fun h => by have h2 := h.2; unfold tI at h2; rw [decide_eq_true_eq, hr] at h2; exact h0 h2.1)]
        have hc : chunks ((⟨#[]⟩ : ByteArray) ++ s.extract (i * n) s.size) = [] := chunks_nil (by rw [ByteArray.size_append, hz, empty_size]; omega)
        rw [hc, List.append_nil]
        unfold selfP selfI
        by_cases hi0 : i = 0
        · subst hi0
          rw [if_pos rfl, if_pos (by omega)]
        · have := Nat.mul_pos (Nat.pos_of_ne_zero hi0) hn
          rw [if_neg hi0, if_neg (by omega), show i * n = s.size by omega]
theorem mkP_self {s : ByteArray} {n : Nat} (hn : 0 < n) : mkP s.size n (mI s n) (tI s n) s = selfP s := by
  have h := mkGo_self (s := s) hn (s.size + 1) 0 (by omega) (by omega)
  rw [Nat.zero_mul] at h
  exact h
end Go.Proofs.Ytblhbbgkkijkfaa
