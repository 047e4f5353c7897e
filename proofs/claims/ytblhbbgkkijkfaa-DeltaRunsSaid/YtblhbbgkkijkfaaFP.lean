/- Plain words: the blocks of a weak sum, rising. -/
import Derived.Test.YtblhbbgkkijkfaaN3
namespace Go.Proofs.Ytblhbbgkkijkfaa
open Go
/-- The whole blocks of a weak sum. -/
def fnd (ws : List Int) (Q : Nat) (x : Int) : List Int := (rng Q).filter fun i => kw ws i == x
theorem fnd_snoc (ws : List Int) (k : Nat) (x : Int) : fnd ws (k + 1) x = fnd ws k x ++ (if kw ws (k : Int) = x then [(k : Int)] else []) := by
  unfold fnd
  rw [rng_snoc, List.filter_append]
  congr 1
  by_cases h : kw ws (k : Int) = x
  · rw [if_pos h]; simp [h]
  · rw [if_neg h]; simp [h]
theorem fnd_len (ws : List Int) (Q : Nat) (x : Int) : (fnd ws Q x).length ≤ Q := by
  have := List.length_filter_le (fun i => kw ws i == x) (rng Q)
  rw [rng_length] at this
  exact this
theorem fnd_mem {ws : List Int} {Q : Nat} {x i : Int} (h : i ∈ fnd ws Q x) : 0 ≤ i ∧ i < Q ∧ kw ws i = x := by
  unfold fnd at h
  rw [List.mem_filter] at h
  have := rng_mem h.1
  exact ⟨this.1, this.2, by simpa using h.2⟩
theorem filter_sorted {ws bs : List Int} {Q : Nat} {x : Int} (hp : bs.Perm (rng Q)) (hs : bs.Pairwise (Rl ws)) : (bs.filter fun i => kw ws i == x) = fnd ws Q x := by
  have h1 : (bs.filter fun i => kw ws i == x).Pairwise (· < ·) := by
    have h := hs.filter (fun i => kw ws i == x)
    refine (List.pairwise_iff_getElem.2 fun i j hi hj hij => ?_)
    have hr := List.pairwise_iff_getElem.1 h i j hi hj hij
    have e1 := (List.mem_filter.1 (List.getElem_mem hi)).2
    have e2 := (List.mem_filter.1 (List.getElem_mem hj)).2
    simp only [beq_iff_eq] at e1 e2
    unfold Rl at hr
    omega
  have h2 : (fnd ws Q x).Pairwise (· < ·) := (rng_lt Q).filter _
  refine List.Perm.eq_of_pairwise ?_ h1 h2 (hp.filter _)
  intro a b _ _ h1 h2
  omega
theorem keys_mono {ws bs : List Int} (hs : bs.Pairwise (Rl ws)) : ∀ s t, s ≤ t → t < (bs.map (kw ws)).length → (bs.map (kw ws)).getD s 0 ≤ (bs.map (kw ws)).getD t 0 := by
  intro s t hst ht
  rw [List.length_map] at ht
  have := Rl.mono hs hst ht
  simp only [List.getD_eq_getElem?_getD, List.getElem?_map, List.getElem?_eq_getElem ht, List.getElem?_eq_getElem (show s < bs.length by omega), Option.map_some, Option.getD_some] at this ⊢
  exact this
theorem keys_at {ws bs : List Int} {t : Nat} (ht : t < bs.length) : (bs.map (kw ws)).getD t 0 = kw ws (bs.getD t 0) := by
  simp [List.getD_eq_getElem?_getD, ht]
/-- What stands between the first key not below and the first above. -/
theorem find_law {ws bs : List Int} {Q a k : Nat} {x : Int} (hp : bs.Perm (rng Q)) (hs : bs.Pairwise (Rl ws)) (hak : a ≤ k)
    (hlo : ∀ t, t < a → kw ws (bs.getD t 0) < x) (hmid : ∀ t, a ≤ t → t < k → kw ws (bs.getD t 0) = x) (hhi : ∀ t, k ≤ t → t < bs.length → x < kw ws (bs.getD t 0)) : (bs.drop a).take (k - a) = fnd ws Q x := by
  rw [← filter_sorted hp hs]
  have e : bs = bs.take a ++ ((bs.drop a).take (k - a) ++ bs.drop k) := by
    have h1 : bs.drop k = (bs.drop a).drop (k - a) := by rw [List.drop_drop]; congr 1; omega
    rw [h1, List.take_append_drop, List.take_append_drop]
  conv => rhs; rw [e]
  rw [List.filter_append, List.filter_append]
  have f1 : (bs.take a).filter (fun i => kw ws i == x) = [] := by
    rw [List.filter_eq_nil_iff]
    intro y hy
    obtain ⟨i, hi, _, rfl⟩ := mem_take_getD hy
    have := hlo i hi
    intro h
    rw [beq_iff_eq] at h
    omega
  have f3 : (bs.drop k).filter (fun i => kw ws i == x) = [] := by
    rw [List.filter_eq_nil_iff]
    intro y hy
    obtain ⟨i, hi, hl, rfl⟩ := mem_drop_getD hy
    have := hhi i hi hl
    intro h
    rw [beq_iff_eq] at h
    omega
  have f2 : ((bs.drop a).take (k - a)).filter (fun i => kw ws i == x) = (bs.drop a).take (k - a) := by
    rw [List.filter_eq_self]
    intro y hy
    obtain ⟨i, hi, hl, rfl⟩ := mem_take_getD hy
    rw [List.length_drop] at hl
    have := hmid (a + i) (by omega) (by omega)
    have e2 : (bs.drop a).getD i 0 = bs.getD (a + i) 0 := by simp [List.getD_eq_getElem?_getD, List.getElem?_drop]
    rw [e2]
    simpa using this
  rw [f1, f2, f3]
  simp
end Go.Proofs.Ytblhbbgkkijkfaa
