/- Plain words: where two sorted lists part in the middle of what they make. -/
import Derived.Test.YtblhbbgkkijkfaaT2
namespace Go.Proofs.Ytblhbbgkkijkfaa
open Go
theorem Rl.mono {ws r : List Int} (h : r.Pairwise (Rl ws)) {s t : Nat} (hst : s ≤ t) (ht : t < r.length) : kw ws (r.getD s 0) ≤ kw ws (r.getD t 0) := by
  rcases Nat.lt_or_ge s t with hlt | hge
  · have := (List.pairwise_iff_getElem.1 h) s t (by omega) ht hlt
    have := this.le
    simpa [List.getD_eq_getElem?_getD, ht, show s < r.length by omega] using this
  · obtain rfl : s = t := by omega
    exact Int.le_refl _
theorem mem_take_getD {l : List Int} {n : Nat} {x : Int} (h : x ∈ l.take n) : ∃ i, i < n ∧ i < l.length ∧ x = l.getD i 0 := by
  obtain ⟨i, hi, rfl⟩ := List.getElem_of_mem h
  rw [List.length_take] at hi
  refine ⟨i, by omega, by omega, ?_⟩
  simp [List.getD_eq_getElem?_getD, show i < l.length by omega]
theorem mem_drop_getD {l : List Int} {n : Nat} {x : Int} (h : x ∈ l.drop n) : ∃ i, n ≤ i ∧ i < l.length ∧ x = l.getD i 0 := by
  obtain ⟨i, hi, rfl⟩ := List.getElem_of_mem h
  rw [List.length_drop] at hi
  refine ⟨n + i, by omega, by omega, ?_⟩
  simp [List.getD_eq_getElem?_getD, show n + i < l.length by omega]
theorem getD_mem' {l : List Int} {i : Nat} (h : i < l.length) : l.getD i 0 ∈ l := by
  rw [List.getD_eq_getElem?_getD, List.getElem?_eq_getElem h]
  exact List.getElem_mem h
/-- One element ahead of a sorted list: where it goes. -/
theorem one_split {ws : List Int} {e : Int} {r : List Int} {k : Nat} (hr : r.Pairwise (Rl ws)) (hx : ∀ y ∈ r, e < y) (hk : k ≤ r.length)
    (h1 : ∀ t, t < k → kw ws (r.getD t 0) < kw ws e) (h2 : ∀ t, k ≤ t → t < r.length → ¬ kw ws (r.getD t 0) < kw ws e) :
    ∃ r1 r2, r = r1 ++ r2 ∧ r1.length = k ∧ (r1 ++ e :: r2).Pairwise (Rl ws) ∧ (r1 ++ e :: r2).Perm ([e] ++ r) := by
  refine ⟨r.take k, r.drop k, (List.take_append_drop k r).symm, by rw [List.length_take]; omega, ?_, ?_⟩
  · refine Rl.ins (by rw [List.take_append_drop]; exact hr) ?_ ?_
    · intro y hy
      obtain ⟨i, hi, _, rfl⟩ := mem_take_getD hy
      exact .inl (h1 i hi)
    · intro y hy
      obtain ⟨i, hi, hl, rfl⟩ := mem_drop_getD hy
      have := h2 i hi hl
      have := hx _ (getD_mem' hl)
      unfold Rl
      omega
  · refine (ins_perm _ _ _).trans ?_
    rw [List.take_append_drop]
    exact List.perm_append_comm
theorem last_split {ws : List Int} {e : Int} {l : List Int} {k : Nat} (hl : l.Pairwise (Rl ws)) (hx : ∀ y ∈ l, y < e) (hk : k ≤ l.length)
    (h1 : ∀ t, t < k → ¬ kw ws e < kw ws (l.getD t 0)) (h2 : ∀ t, k ≤ t → t < l.length → kw ws e < kw ws (l.getD t 0)) :
    ∃ l1 l2, l = l1 ++ l2 ∧ l1.length = k ∧ (l1 ++ e :: l2).Pairwise (Rl ws) ∧ (l1 ++ e :: l2).Perm (l ++ [e]) := by
  refine ⟨l.take k, l.drop k, (List.take_append_drop k l).symm, by rw [List.length_take]; omega, ?_, ?_⟩
  · refine Rl.ins (by rw [List.take_append_drop]; exact hl) ?_ ?_
    · intro y hy
      obtain ⟨i, hi, hil, rfl⟩ := mem_take_getD hy
      have := h1 i hi
      have := hx _ (getD_mem' hil)
      unfold Rl
      omega
    · intro y hy
      obtain ⟨i, hi, hl, rfl⟩ := mem_drop_getD hy
      exact .inl (h2 i hi hl)
  · refine (ins_perm _ _ _).trans ?_
    rw [List.take_append_drop]
/-- Both lists are parted so that the middle is the middle of all. -/
theorem sym_split {ws l r : List Int} {a m b S s0 t0 mid : Nat} (hl : l.Pairwise (Rl ws)) (hr : r.Pairwise (Rl ws)) (hx : ∀ x ∈ l, ∀ y ∈ r, x < y)
    (hla : l.length = m - a) (hrb : r.length = b - m) (ham : a < m) (hmb : m < b) (hmid : mid = (a + b) / 2)
    (hs0 : s0 = if mid < m then mid + m - b else a) (ht0 : t0 = if mid < m then mid else m) (h0 : s0 ≤ S) (h1 : S ≤ t0)
    (hT : ∀ c, s0 ≤ c → c < S → ¬ kw ws (r.getD (mid + m - 1 - c - m) 0) < kw ws (l.getD (c - a) 0))
    (hF : ∀ c, S ≤ c → c < t0 → kw ws (r.getD (mid + m - 1 - c - m) 0) < kw ws (l.getD (c - a) 0)) :
    a ≤ S ∧ S ≤ m ∧ S ≤ mid ∧ mid + m - S ≤ b ∧ ∃ l1 l2 r1 r2, l = l1 ++ l2 ∧ r = r1 ++ r2 ∧ l1.length = S - a ∧ l2.length = m - S ∧ r1.length = mid - S ∧ r2.length = b - (mid + m - S) ∧
      (∀ x ∈ l1, ∀ y ∈ r2, Rl ws x y) ∧ (∀ y ∈ r1, ∀ x ∈ l2, Rl ws y x) := by
  have hb1 : a ≤ S ∧ S ≤ m ∧ S ≤ mid ∧ mid + m - S ≤ b := by
    by_cases hc : mid < m
    · rw [if_pos hc] at hs0 ht0; omega
    · rw [if_neg hc] at hs0 ht0; omega
  obtain ⟨b1, b2, b3, b4⟩ := hb1
  refine ⟨b1, b2, b3, b4, l.take (S - a), l.drop (S - a), r.take (mid - S), r.drop (mid - S), (List.take_append_drop _ _).symm, (List.take_append_drop _ _).symm, by rw [List.length_take]; omega, by rw [List.length_drop]; omega, by rw [List.length_take]; omega, by rw [List.length_drop]; omega, ?_, ?_⟩
  · intro x hx1 y hy1
    have hxy := hx x (List.mem_of_mem_take hx1) y (List.mem_of_mem_drop hy1)
    obtain ⟨i, hi, hil, rfl⟩ := mem_take_getD hx1
    obtain ⟨j, hj, hjl, rfl⟩ := mem_drop_getD hy1
    have hc := hT (S - 1) (by by_cases hc : mid < m; (rw [if_pos hc] at hs0; omega); (rw [if_neg hc] at hs0; omega)) (by omega)
    rw [show mid + m - 1 - (S - 1) - m = mid - S by omega] at hc
    have k1 := Rl.mono hl (s := i) (t := S - 1 - a) (by omega) (by omega)
    have k2 := Rl.mono hr (s := mid - S) (t := j) hj hjl
    unfold Rl
    omega
  · intro y hy1 x hx1
    obtain ⟨i, hi, hil, rfl⟩ := mem_take_getD hy1
    obtain ⟨j, hj, hjl, rfl⟩ := mem_drop_getD hx1
    have hc := hF S (Nat.le_refl _) (by by_cases hc : mid < m; (rw [if_pos hc] at ht0; omega); (rw [if_neg hc] at ht0; omega))
    rw [show mid + m - 1 - S - m = mid - S - 1 by omega] at hc
    have k1 := Rl.mono hr (s := i) (t := mid - S - 1) (by omega) (by omega)
    have k2 := Rl.mono hl (s := S - a) (t := j) hj hjl
    exact .inl (by omega)
/-- What is left when both halves are in order. -/
theorem sym_join {ws l1 l2 r1 r2 s1 s2 : List Int} (hl : (l1 ++ l2).Pairwise (Rl ws)) (hr : (r1 ++ r2).Pairwise (Rl ws)) (f1 : ∀ x ∈ l1, ∀ y ∈ r2, Rl ws x y) (f2 : ∀ y ∈ r1, ∀ x ∈ l2, Rl ws y x)
    (p1 : s1.Perm (l1 ++ r1)) (p2 : s2.Perm (l2 ++ r2)) (q1 : s1.Pairwise (Rl ws)) (q2 : s2.Pairwise (Rl ws)) :
    (s1 ++ s2).Pairwise (Rl ws) ∧ (s1 ++ s2).Perm (l1 ++ l2 ++ (r1 ++ r2)) := by
  rw [List.pairwise_append] at hl hr
  constructor
  · rw [List.pairwise_append]
    refine ⟨q1, q2, fun x hx y hy => ?_⟩
    have hx := p1.subset hx
    have hy := p2.subset hy
    rcases List.mem_append.1 hx with hx | hx <;> rcases List.mem_append.1 hy with hy | hy
    · exact hl.2.2 x hx y hy
    · exact f1 x hx y hy
    · exact f2 x hx y hy
    · exact hr.2.2 x hx y hy
  · refine (List.Perm.append p1 p2).trans ?_
    rw [List.append_assoc, List.append_assoc]
    refine List.Perm.append_left l1 ?_
    rw [← List.append_assoc, ← List.append_assoc]
    exact List.Perm.append_right r2 List.perm_append_comm
end Go.Proofs.Ytblhbbgkkijkfaa
