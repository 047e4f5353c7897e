/- Plain words: which block of a signed text another text is. -/
import Derived.Test.YtblhbbgkkijkfaaM2
namespace Go.Proofs.Ytblhbbgkkijkfaa
open Go
theorem ideal_mark_eq {L : List ByteArray} {x t : ByteArray} (hx : x ∈ L) (hL : L.length < 1125899906842624) : (Bk.ideal L).mark x = (Bk.ideal L).mark t ↔ x = t := by
  constructor
  · intro h
    unfold Bk.mark at h
    have h1 := place_le x L
    have h2 := place_le t L
    have := mark_inj (by omega) (by omega) h
    exact place_inj hx (by omega)
  · rintro rfl; rfl
theorem ideal_add_known {L : List ByteArray} {x : ByteArray} (hx : x ∈ L) : (Bk.ideal L).add x = .ideal L := by
  simp only [Bk.add]
  rw [if_pos (place_lt.2 hx)]
theorem cnt_div (n b : Nat) (hb : 0 < b) : cnt n b = n / b + (if 0 < n % b then 1 else 0) := by
  unfold cnt
  have h1 := Nat.div_add_mod n b
  have h2 := Nat.mod_lt n hb
  by_cases h : 0 < n % b
  · rw [if_pos h]
    refine Nat.div_eq_of_lt_le ?_ ?_
    · rw [Nat.add_mul, Nat.mul_comm]; omega
    · rw [Nat.add_mul, Nat.add_mul, Nat.mul_comm (n / b)]; omega
  · rw [if_neg h]
    refine Nat.div_eq_of_lt_le ?_ ?_
    · rw [Nat.add_zero, Nat.mul_comm]; omega
    · rw [Nat.add_zero, Nat.add_mul, Nat.mul_comm]; omega
theorem pc_whole {s : ByteArray} {i b : Nat} (hb : 0 < b) (hi : i < s.size / b) : (pc s i b).size = b := by
  have h := (Nat.le_div_iff_mul_le hb).1 (show i + 1 ≤ s.size / b by omega)
  unfold pc
  rw [ByteArray.size_extract, Nat.add_mul] at *
  omega
theorem pc_last {s : ByteArray} {b : Nat} (hb : 0 < b) : (pc s (s.size / b) b) = s.extract (s.size - s.size % b) s.size := by
  have h1 := Nat.div_add_mod s.size b
  have h2 := Nat.mod_lt s.size hb
  unfold pc
  rw [Nat.add_mul, Nat.mul_comm (s.size / b)]
  congr 1 <;> omega
theorem pc_last_size {s : ByteArray} {b : Nat} (hb : 0 < b) : (pc s (s.size / b) b).size = s.size % b := by
  rw [pc_last hb, ByteArray.size_extract]
  have := Nat.mod_le s.size b
  omega
/-- The blocks that are this text, whole, of this weak sum. -/
def isC (s : ByteArray) (n : Nat) (x : Int) (t : ByteArray) (i : Int) : Bool := decide ((pc s i.toNat n).size = n ∧ pc s i.toNat n = t ∧ wk t = x)
def cl (s : ByteArray) (n : Nat) (x : Int) (t : ByteArray) : List Int := (rng (cnt s.size n)).filter (isC s n x t)
def pick (l : List Int) (wanted : Int) : Int := if wanted ∈ l then wanted else l.headD (-1)
theorem mgo_eq {ms : List ByteArray} {mk : ByteArray} {wanted : Int} : ∀ (l : List Int) (f : Int), (∀ i ∈ l, 0 ≤ i) →
    mgo ms mk wanted l f = if wanted ∈ l.filter (fun i => decide (ms.getD i.toNat ⟨#[]⟩ = mk)) then wanted else if f < 0 then (l.filter (fun i => decide (ms.getD i.toNat ⟨#[]⟩ = mk))).headD f else f
  | [], f, _ => by simp [mgo]
  | i :: l, f, hl => by
    have hi := hl i (by simp)
    have hl' : ∀ i ∈ l, 0 ≤ i := fun j hj => hl j (by simp [hj])
    unfold mgo
    by_cases he : ms.getD i.toNat ⟨#[]⟩ = mk
    · rw [if_pos he, List.filter_cons_of_pos (by simpa using he)]
      by_cases hw : i = wanted
      · rw [if_pos hw, if_pos (by simp [hw]), hw]
      · rw [if_neg hw, mgo_eq l _ hl']
        have hm : (wanted ∈ i :: l.filter (fun i => decide (ms.getD i.toNat ⟨#[]⟩ = mk))) ↔ wanted ∈ l.filter (fun i => decide (ms.getD i.toNat ⟨#[]⟩ = mk)) := by
          rw [List.mem_cons]
          exact ⟨fun h => h.resolve_left (fun e => hw e.symm), .inr⟩
        by_cases hx : wanted ∈ l.filter (fun i => decide (ms.getD i.toNat ⟨#[]⟩ = mk))
        · rw [if_pos hx, if_pos (hm.2 hx)]
        · rw [if_neg hx, if_neg (fun h => hx (hm.1 h))]
          by_cases hf : f < 0
          · rw [if_pos hf, if_neg (by omega), if_pos hf]
            simp
          · rw [if_neg hf, if_neg hf, if_neg hf]
    · rw [if_neg he, List.filter_cons_of_neg (by simpa using he), mgo_eq l f hl']
theorem pcs_mem {s : ByteArray} {n N : Nat} {i : Nat} (h : i < N) : pc s i n ∈ pcs s n N := by
  unfold pcs
  exact List.mem_map.2 ⟨i, List.mem_range.2 h, rfl⟩
theorem sweak_kw {s : ByteArray} {n N i : Nat} (h : i < N) : kw (sweak s n N) (i : Nat) = wk (pc s i n) := by
  simp [kw, sweak, pcs, List.getD_eq_getElem?_getD, h]
theorem smarks_getD {s : ByteArray} {n N i : Nat} {f : ByteArray → ByteArray} (h : i < N) : ((pcs s n N).map f).getD i ⟨#[]⟩ = f (pc s i n) := by
  simp [pcs, List.getD_eq_getElem?_getD, h]
/-- What Match answers of a signed text, under an ideal book that knows its blocks. -/
theorem match_law {s t : ByteArray} {n : Nat} {L : List ByteArray} {x wanted : Int} (hn : 0 < n) (hL : L.length < 1125899906842624) (hk : ∀ y ∈ pcs s n (cnt s.size n), y ∈ L) :
    mtc (sweak s n (cnt s.size n)) ((pcs s n (cnt s.size n)).map (Bk.ideal L).mark) (s.size / n) n (.ideal L) x t wanted = pick (cl s n x t) wanted := by
  have hcd := cnt_div s.size n hn
  have hC : cl s n x t = (rng (s.size / n)).filter (isC s n x t) := by
    unfold cl
    rw [hcd]
    split
    · rw [rng_snoc, List.filter_append]
      have : ([((s.size / n : Nat) : Int)]).filter (isC s n x t) = [] := by
        rw [List.filter_cons_of_neg]
        · rfl
        · unfold isC
          rw [decide_eq_true_eq]
          rintro ⟨h1, _⟩
          rw [Int.toNat_natCast, pc_last_size hn] at h1
          have := Nat.mod_lt s.size hn
          omega
      rw [this, List.append_nil]
    · rfl
  unfold mtc pick
  by_cases h : fnd (sweak s n (cnt s.size n)) (s.size / n) x ≠ [] ∧ t.size = n
  · rw [if_pos h, mgo_eq _ _ (fun i hi => (fnd_mem hi).1)]
    have e : (fnd (sweak s n (cnt s.size n)) (s.size / n) x).filter (fun i => decide (((pcs s n (cnt s.size n)).map (Bk.ideal L).mark).getD i.toNat ⟨#[]⟩ = (Bk.ideal L).mark t)) = cl s n x t := by
      rw [hC]
      unfold fnd
      rw [List.filter_filter]
      apply List.filter_congr
      intro i hi
      obtain ⟨h0, hQ⟩ := rng_mem hi
      obtain ⟨j, rfl⟩ := Int.eq_ofNat_of_zero_le h0
      have hj : j < s.size / n := by omega
      have hjN : j < cnt s.size n := by rw [hcd]; omega
      rw [sweak_kw hjN, Int.toNat_natCast, smarks_getD hjN]
      unfold isC
      rw [Int.toNat_natCast]
      have hme := ideal_mark_eq (t := t) (hk _ (pcs_mem hjN)) hL
      have hw := pc_whole hn hj
      rw [Bool.eq_iff_iff]
      simp only [Bool.and_eq_true, decide_eq_true_eq, beq_iff_eq]
      rw [hme]
      constructor
      · rintro ⟨rfl, h2⟩; exact ⟨hw, rfl, h2⟩
      · rintro ⟨_, rfl, h3⟩; exact ⟨rfl, h3⟩
    rw [e, if_pos (show (-1 : Int) < 0 by decide)]
  · rw [if_neg h]
    have e : cl s n x t = [] := by
      rw [hC, List.filter_eq_nil_iff]
      intro i hi hc
      obtain ⟨h0, hQ⟩ := rng_mem hi
      obtain ⟨j, rfl⟩ := Int.eq_ofNat_of_zero_le h0
      unfold isC at hc
      rw [decide_eq_true_eq, Int.toNat_natCast] at hc
      obtain ⟨h1, h2, h3⟩ := hc
      apply h
      refine ⟨?_, by rw [← h2]; exact h1⟩
      have hmem : (j : Int) ∈ fnd (sweak s n (cnt s.size n)) (s.size / n) x := by
        unfold fnd
        rw [List.mem_filter]
        refine ⟨hi, ?_⟩
        rw [sweak_kw (by rw [hcd]; omega), h2, h3]
        simp
      exact List.ne_nil_of_mem hmem
    rw [e]
    simp
theorem lastW_sweak {s : ByteArray} {n : Nat} (hn : 0 < n) (h : 0 < s.size % n) : lastW (sweak s n (cnt s.size n)) = wk (pc s (s.size / n) n) := by
  unfold lastW
  rw [sweak_length, cnt_div s.size n hn, if_pos h, Nat.add_sub_cancel]
  simp [sweak, pcs, List.getD_eq_getElem?_getD]
theorem lastM_smarks {s : ByteArray} {n : Nat} {f : ByteArray → ByteArray} (hn : 0 < n) (h : 0 < s.size % n) : lastM ((pcs s n (cnt s.size n)).map f) = f (pc s (s.size / n) n) := by
  unfold lastM
  rw [List.length_map, pcs_length, cnt_div s.size n hn, if_pos h, Nat.add_sub_cancel]
  simp [pcs, List.getD_eq_getElem?_getD]
/-- And what Tail answers, under a book that knows more. -/
theorem tail_law {s t : ByteArray} {n : Nat} {L M : List ByteArray} (hn : 0 < n) (hM : M.length < 1125899906842624) (hk : ∀ y ∈ pcs s n (cnt s.size n), y ∈ M ∧ (Bk.ideal M).mark y = (Bk.ideal L).mark y) :
    tl (sweak s n (cnt s.size n)) ((pcs s n (cnt s.size n)).map (Bk.ideal L).mark) n s.size (.ideal M) t = decide (0 < s.size % n ∧ t = s.extract (s.size - s.size % n) s.size) := by
  unfold tl
  by_cases h : 0 < s.size % n
  · have hN : s.size / n < cnt s.size n := by rw [cnt_div s.size n hn, if_pos h]; omega
    rw [lastW_sweak hn h, lastM_smarks hn h]
    obtain ⟨h1, h2⟩ := hk _ (pcs_mem hN)
    rw [← h2]
    apply decide_eq_decide.2
    rw [← pc_last hn]
    constructor
    · rintro ⟨_, _, _, h4⟩
      exact ⟨h, ((ideal_mark_eq h1 hM).1 h4.symm).symm⟩
    · rintro ⟨_, rfl⟩
      exact ⟨h, pc_last_size hn, rfl, rfl⟩
  · rw [decide_eq_false (fun hh => h hh.1), decide_eq_false (fun hh => h hh.1)]
end Go.Proofs.Ytblhbbgkkijkfaa
