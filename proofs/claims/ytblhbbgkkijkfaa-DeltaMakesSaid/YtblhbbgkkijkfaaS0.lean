/- Plain words, no Go in sight: marks by numbers, the book of what was numbered, weak sums, pieces of a text. -/
import Derived.Laws.BytesArg
namespace Go.Proofs.Ytblhbbgkkijkfaa
open Go

/-! ### Numbers as marks -/
def markNums (n : Nat) : List Int := (List.range 32).map fun i => ((n / 2 ^ (8 * (i % 8)) % 256 : Nat) : Int)
def mark (n : Nat) : ByteArray := strOfNums (markNums n)
theorem markNums_length (n : Nat) : (markNums n).length = 32 := by simp [markNums]
theorem mark_size (n : Nat) : (mark n).size = 32 := by rw [mark, strOfNums_size, markNums_length]
theorem strOfNums_inj {xs ys : List Int} (hx : ∀ x ∈ xs, 0 ≤ x ∧ x < 256) (hy : ∀ x ∈ ys, 0 ≤ x ∧ x < 256) (h : strOfNums xs = strOfNums ys) : xs = ys := by
  have h' : (strOfNums xs).data.toList = (strOfNums ys).data.toList := by rw [h]
  rw [strOfNums_data, strOfNums_data] at h'
  have key : ∀ (l m : List Int), (∀ x ∈ l, 0 ≤ x ∧ x < 256) → (∀ x ∈ m, 0 ≤ x ∧ x < 256) → l.map (fun n => UInt8.ofNat n.toNat) = m.map (fun n => UInt8.ofNat n.toNat) → l = m := by
    intro l
    induction l with
    | nil => intro m _ _ h; cases m with | nil => rfl | cons => simp at h
    | cons a l ih =>
      intro m hl hm h
      cases m with
      | nil => simp at h
      | cons b m =>
        simp only [List.map_cons, List.cons.injEq] at h
        have ha := hl a (by simp)
        have hb := hm b (by simp)
        have e : a.toNat = b.toNat := by
          have := congrArg UInt8.toNat h.1
          simp only [UInt8.toNat_ofNat'] at this
          omega
        have : a = b := by omega
        rw [this, ih m (fun x hx => hl x (by simp [hx])) (fun x hx => hm x (by simp [hx])) h.2]
  exact key xs ys hx hy h'
theorem markNums_range (n : Nat) : ∀ x ∈ markNums n, 0 ≤ x ∧ x < 256 := by
  intro x hx
  simp only [markNums, List.mem_map, List.mem_range] at hx
  obtain ⟨i, _, rfl⟩ := hx
  omega
theorem mark_inj {n m : Nat} (hn : n < 2 ^ 64) (hm : m < 2 ^ 64) (h : mark n = mark m) : n = m := by
  have h1 := strOfNums_inj (markNums_range n) (markNums_range m) h
  have h2 : ∀ i, i < 32 → n / 2 ^ (8 * (i % 8)) % 256 = m / 2 ^ (8 * (i % 8)) % 256 := by
    intro i hi
    have h3 : (markNums n)[i]? = (markNums m)[i]? := by rw [h1]
    simp only [markNums, List.getElem?_map, List.getElem?_range hi, Option.map_some, Option.some.injEq] at h3
    omega
  have a0 := h2 0 (by omega)
  have a1 := h2 1 (by omega)
  have a2 := h2 2 (by omega)
  have a3 := h2 3 (by omega)
  have a4 := h2 4 (by omega)
  have a5 := h2 5 (by omega)
  have a6 := h2 6 (by omega)
  have a7 := h2 7 (by omega)
  simp only [Nat.reduceMod, Nat.reduceMul, Nat.reducePow, Nat.div_one] at a0 a1 a2 a3 a4 a5 a6 a7
  omega

/-! ### What was numbered -/
/-- Where a text stands in a list first; its length: nowhere. -/
def place (s : ByteArray) : List ByteArray → Nat
  | [] => 0
  | t :: l => if t = s then 0 else place s l + 1
theorem place_le (s : ByteArray) (l : List ByteArray) : place s l ≤ l.length := by
  induction l with
  | nil => simp [place]
  | cons t l ih => simp only [place, List.length_cons]; split <;> omega
theorem place_lt {s : ByteArray} {l : List ByteArray} : place s l < l.length ↔ s ∈ l := by
  induction l with
  | nil => simp [place]
  | cons t l ih =>
    simp only [place, List.length_cons, List.mem_cons]
    by_cases h : t = s
    · simp [h]
    · rw [if_neg h]
      constructor
      · intro h'; exact .inr (ih.1 (by omega))
      · rintro (h' | h')
        · exact absurd h'.symm h
        · have := ih.2 h'; omega
theorem place_append {s : ByteArray} {l : List ByteArray} (h : s ∈ l) (m : List ByteArray) : place s (l ++ m) = place s l := by
  induction l with
  | nil => cases h
  | cons t l ih =>
    simp only [List.cons_append, place]
    by_cases ht : t = s
    · simp [ht]
    · rw [if_neg ht, if_neg ht, ih (by simpa [Ne.symm ht, eq_comm, ht] using h)]
theorem place_snoc {s : ByteArray} {l : List ByteArray} (h : s ∉ l) : place s (l ++ [s]) = l.length := by
  induction l with
  | nil => simp [place]
  | cons t l ih =>
    simp only [List.mem_cons, not_or] at h
    simp only [List.cons_append, place, List.length_cons]
    rw [if_neg (fun e => h.1 e.symm), ih h.2]
theorem place_out {s : ByteArray} {l : List ByteArray} (h : s ∉ l) : place s l = l.length := by
  have := place_le s l
  have h2 : ¬ place s l < l.length := fun h' => h (place_lt.1 h')
  omega
theorem place_get {s : ByteArray} {l : List ByteArray} (h : s ∈ l) : l[place s l]? = some s := by
  induction l with
  | nil => cases h
  | cons t l ih =>
    simp only [place]
    by_cases ht : t = s
    · simp [ht]
    · rw [if_neg ht]
      simpa using ih (by simpa [Ne.symm ht, eq_comm, ht] using h)
theorem place_inj {s t : ByteArray} {l : List ByteArray} (hs : s ∈ l) (h : place s l = place t l) : s = t := by
  have ht : t ∈ l := place_lt.1 (h ▸ place_lt.2 hs)
  have h1 := place_get hs
  rw [h, place_get ht] at h1
  exact (Option.some.inj h1).symm
/-- A book: an ideal one, with the texts that it has numbered, or a real one, with its sum. -/
inductive Bk where
  | ideal (L : List ByteArray)
  | real (f : ByteArray → ByteArray)
def Bk.add : Bk → ByteArray → Bk
  | .ideal L, s => .ideal (if place s L < L.length then L else L ++ [s])
  | .real f, _ => .real f
def Bk.mark : Bk → ByteArray → ByteArray
  | .ideal L, s => Ytblhbbgkkijkfaa.mark (place s L + 1)
  | .real f, s => f s
/-- How many texts were numbered. -/
def Bk.len : Bk → Nat
  | .ideal L => L.length
  | .real _ => 0
/-- Does the book know this text's mark? -/
def Bk.knows : Bk → ByteArray → Prop
  | .ideal L, s => s ∈ L
  | .real _, _ => True
theorem Bk.len_add (B : Bk) (s : ByteArray) : (B.add s).len ≤ B.len + 1 := by
  cases B with
  | ideal L => simp only [Bk.add, Bk.len]; split <;> simp
  | real f => simp [Bk.add, Bk.len]
theorem Bk.len_le_add (B : Bk) (s : ByteArray) : B.len ≤ (B.add s).len := by
  cases B with
  | ideal L => simp only [Bk.add, Bk.len]; split <;> simp
  | real f => simp [Bk.add, Bk.len]
theorem Bk.knows_add (B : Bk) (s : ByteArray) : (B.add s).knows s := by
  cases B with
  | ideal L =>
    simp only [Bk.add, Bk.knows]
    split
    · rename_i h; exact place_lt.1 h
    · simp
  | real f => trivial
theorem Bk.knows_mono {B : Bk} {t : ByteArray} (h : B.knows t) (s : ByteArray) : (B.add s).knows t := by
  cases B with
  | ideal L => simp only [Bk.add, Bk.knows] at *; split <;> simp_all
  | real f => trivial
theorem Bk.mark_add {B : Bk} {t : ByteArray} (h : B.knows t) (s : ByteArray) : (B.add s).mark t = B.mark t := by
  cases B with
  | ideal L =>
    simp only [Bk.add, Bk.mark, Bk.knows] at *
    split
    · rfl
    · rw [place_append h]
  | real f => rfl
theorem Bk.mark_self (B : Bk) (s : ByteArray) : (B.add s).mark s = B.mark s := by
  cases B with
  | ideal L =>
    simp only [Bk.add, Bk.mark]
    split
    · rfl
    · rename_i h
      have h' : s ∉ L := fun hm => h (place_lt.2 hm)
      rw [place_snoc h', place_out h']
  | real f => rfl
/-- All texts of a list are marked, one behind the other. -/
def Bk.adds (B : Bk) (l : List ByteArray) : Bk := l.foldl Bk.add B
theorem Bk.adds_nil (B : Bk) : B.adds [] = B := rfl
theorem Bk.adds_cons (B : Bk) (s : ByteArray) (l : List ByteArray) : B.adds (s :: l) = (B.add s).adds l := rfl
theorem Bk.adds_append (B : Bk) (l m : List ByteArray) : B.adds (l ++ m) = (B.adds l).adds m := by simp [Bk.adds]
theorem Bk.adds_snoc (B : Bk) (l : List ByteArray) (s : ByteArray) : B.adds (l ++ [s]) = (B.adds l).add s := by simp [Bk.adds]
theorem Bk.len_adds (B : Bk) (l : List ByteArray) : (B.adds l).len ≤ B.len + l.length := by
  induction l generalizing B with
  | nil => simp [Bk.adds]
  | cons s l ih =>
    rw [Bk.adds_cons]
    have h1 := ih (B.add s)
    have h2 := B.len_add s
    simp only [List.length_cons]
    omega
theorem Bk.knows_adds {B : Bk} {t : ByteArray} (h : B.knows t) (l : List ByteArray) : (B.adds l).knows t := by
  induction l generalizing B with
  | nil => exact h
  | cons s l ih => exact ih (B.knows_mono h s)
theorem Bk.mark_adds {B : Bk} {t : ByteArray} (h : B.knows t) (l : List ByteArray) : (B.adds l).mark t = B.mark t := by
  induction l generalizing B with
  | nil => rfl
  | cons s l ih => rw [Bk.adds_cons, ih (B.knows_mono h s), B.mark_add h]
theorem Bk.knows_of_mem {B : Bk} {t : ByteArray} {l : List ByteArray} (h : t ∈ l) : (B.adds l).knows t := by
  induction l generalizing B with
  | nil => cases h
  | cons s l ih =>
    rcases List.mem_cons.1 h with rfl | h
    · exact Bk.knows_adds (B.knows_add t) l
    · exact ih h

/-! ### Weak sums -/
def wkStep (p : Int × Int) (c : UInt8) : Int × Int := (p.1 + c.toNat, p.2 + (p.1 + c.toNat))
def wkAB (l : List UInt8) : Int × Int := l.foldl wkStep (0, 0)
def wk (s : ByteArray) : Int := (wkAB s.data.toList).1 % 65536 + (wkAB s.data.toList).2 % 65536 * 65536
theorem wkAB_snoc (l : List UInt8) (c : UInt8) : wkAB (l ++ [c]) = wkStep (wkAB l) c := by simp [wkAB]
theorem wkAB_bounds (l : List UInt8) : 0 ≤ (wkAB l).1 ∧ (wkAB l).1 ≤ 255 * l.length ∧ 0 ≤ (wkAB l).2 ∧ (wkAB l).2 ≤ 255 * l.length * l.length := by
  suffices H : ∀ (n : Nat) (l : List UInt8), l.length = n → 0 ≤ (wkAB l).1 ∧ (wkAB l).1 ≤ 255 * l.length ∧ 0 ≤ (wkAB l).2 ∧ (wkAB l).2 ≤ 255 * l.length * l.length from H _ l rfl
  intro n
  induction n with
  | zero => intro l hl; have : l = [] := List.eq_nil_of_length_eq_zero hl; subst this; simp [wkAB]
  | succ n ih =>
    intro l hl
    have hne : l ≠ [] := by intro h; subst h; simp at hl
    obtain ⟨m, c, rfl⟩ : ∃ m c, l = m ++ [c] := ⟨l.dropLast, l.getLast hne, (List.dropLast_concat_getLast hne).symm⟩
    have hm : m.length = n := by simp at hl; omega
    obtain ⟨h1, h2, h3, h4⟩ := ih m hm
    have hc := c.toNat_lt
    rw [wkAB_snoc]
    simp only [wkStep, List.length_append, List.length_cons, List.length_nil, Nat.zero_add]
    have e : (255 : Int) * ((m.length + 1 : Nat) : Int) * ((m.length + 1 : Nat) : Int) = 255 * m.length * m.length + 510 * m.length + 255 := by
      push_cast
      rw [Int.mul_add, Int.mul_one, Int.mul_add, Int.mul_one, Int.add_mul, show (255 : Int) * ↑m.length * ↑m.length = 255 * m.length * m.length from rfl]
      omega
    refine ⟨by omega, by push_cast; omega, by omega, ?_⟩
    rw [e]
    push_cast at *
    omega
theorem wkAB_small {l : List UInt8} (h : l.length ≤ 524288) : 0 ≤ (wkAB l).1 ∧ (wkAB l).1 ≤ 133693440 ∧ 0 ≤ (wkAB l).2 ∧ (wkAB l).2 ≤ 70093866270720 := by
  obtain ⟨h1, h2, h3, h4⟩ := wkAB_bounds l
  generalize hn : l.length = n at h h2 h4
  have e : (255 : Int) * (n : Int) * (n : Int) ≤ 133693440 * 524288 :=
    Int.mul_le_mul (by omega) (by omega) (by omega) (by omega)
  refine ⟨h1, by omega, h3, by omega⟩
theorem take_snoc (s : ByteArray) (k : Nat) (h : k < s.size) : s.data.toList.take (k + 1) = s.data.toList.take k ++ [s[k]] := by
  rw [List.take_succ_eq_append_getElem (by simpa using h)]; rfl
end Go.Proofs.Ytblhbbgkkijkfaa
