/- delta: what is made does make the text. Plain. -/
import Derived.Test.YtblhbbgkkijkfaaQ4
namespace Go.Proofs.Ytblhbbgkkijkfaa
open Go.RowKit Go.Maps
def bl (s : ByteArray) : List UInt8 := s.data.toList
theorem bl_length (s : ByteArray) : (bl s).length = s.size := by unfold bl; rw [Array.length_toList]; rfl
theorem bl_append (s t : ByteArray) : bl (s ++ t) = bl s ++ bl t := by simp [bl]
theorem bl_extract (s : ByteArray) (a b : Nat) : bl (s.extract a b) = ((bl s).drop a).take (b - a) := by
  unfold bl
  simp [ByteArray.data_extract, Array.toList_extract, List.extract]
theorem bl_empty {t : ByteArray} (h : t.size = 0) : bl t = [] := List.eq_nil_of_length_eq_zero (by rw [bl_length]; exact h)
/-- What a step makes. -/
def exS (basis : ByteArray) (x : Stp) : List UInt8 := ((bl basis).drop x.pos.toNat).take x.len.toNat ++ bl x.text
def ex (basis : ByteArray) (l : List Stp) : List UInt8 := l.flatMap (exS basis)
theorem ex_append (basis : ByteArray) (l m : List Stp) : ex basis (l ++ m) = ex basis l ++ ex basis m := by simp [ex]
theorem ex_one (basis : ByteArray) (x : Stp) : ex basis [x] = exS basis x := by simp [ex]
def AllOk (basis : ByteArray) (l : List Stp) : Prop := ∀ x ∈ l, okS x basis.size = true
theorem chunksN_ok (basis : ByteArray) : ∀ (n : Nat) (t : ByteArray), AllOk basis (chunksN n t) ∧ (t.size ≤ n → ex basis (chunksN n t) = bl t) := by
  intro n
  induction n with
  | zero => intro t; exact ⟨fun x hx => by simp [chunksN] at hx, fun h => by rw [bl_empty (by omega)]; rfl⟩
  | succ n ih =>
    intro t
    unfold chunksN
    split
    · rename_i h0
      exact ⟨fun x hx => by simp at hx, fun _ => by rw [bl_empty h0]; rfl⟩
    · rename_i h0
      obtain ⟨h1, h2⟩ := ih (t.extract (min t.size 4096) t.size)
      have hz : (t.extract 0 (min t.size 4096)).size = min t.size 4096 := by rw [ByteArray.size_extract]; omega
      refine ⟨fun x hx => ?_, fun hn => ?_⟩
      · rcases List.mem_cons.1 hx with rfl | hx
        · unfold okS
          dsimp only
          rw [if_neg (by omega), decide_eq_true_eq]
          exact ⟨rfl, rfl, by omega⟩
        · exact h1 x hx
      · have h3 := h2 (by rw [ByteArray.size_extract]; omega)
        have h4 : ex basis ((⟨0, 0, t.extract 0 (min t.size 4096)⟩ : Stp) :: chunksN n (t.extract (min t.size 4096) t.size)) = exS basis ⟨0, 0, t.extract 0 (min t.size 4096)⟩ ++ ex basis (chunksN n (t.extract (min t.size 4096) t.size)) := by simp [ex]
        rw [h4, h3, exS]
        dsimp only
        rw [bl_extract, bl_extract]
        have hl := bl_length t
        simp only [Int.toNat_zero, List.take_zero, List.nil_append, List.drop_zero, Nat.sub_zero]
        rw [List.take_of_length_le (l := List.drop _ _) (by rw [List.length_drop]; omega), List.take_append_drop]
theorem chunks_ok (basis t : ByteArray) : AllOk basis (chunks t) := (chunksN_ok basis _ t).1
theorem chunks_ex (basis t : ByteArray) : ex basis (chunks t) = bl t := (chunksN_ok basis _ t).2 (Nat.le_refl _)
theorem copy_ok {basis : ByteArray} {a n : Nat} (hn : 0 < n) (hb : a + n ≤ basis.size) (hs : basis.size ≤ 524288) : okS ⟨a, n, ⟨#[]⟩⟩ basis.size = true := by
  unfold okS
  dsimp only
  rw [if_pos empty_size, decide_eq_true_eq]
  exact ⟨by omega, by omega, by omega, by omega, .inr (by omega)⟩
theorem AllOk.append {basis : ByteArray} {l m : List Stp} (h1 : AllOk basis l) (h2 : AllOk basis m) : AllOk basis (l ++ m) := fun x hx => (List.mem_append.1 hx).elim (h1 x) (h2 x)
/-- A copy behind steps makes what it should. -/
theorem cpy_law {basis : ByteArray} {l : List Stp} {a n : Nat} (h : AllOk basis l) (hn : 0 < n) (hb : a + n ≤ basis.size) (hs : basis.size ≤ 524288) :
    AllOk basis (cpy l a n) ∧ ex basis (cpy l a n) = ex basis l ++ ((bl basis).drop a).take n := by
  have hnew : exS basis ⟨a, n, ⟨#[]⟩⟩ = ((bl basis).drop a).take n := by
    unfold exS
    dsimp only
    rw [bl_empty empty_size, List.append_nil, Int.toNat_natCast, Int.toNat_natCast]
  have hok := copy_ok hn hb hs
  rcases List.eq_nil_or_concat l with rfl | ⟨l0, x, rfl⟩
  · rw [cpy_nil, ex_one, hnew]
    exact ⟨fun y hy => by rw [List.mem_singleton.1 hy]; exact hok, rfl⟩
  · rw [List.concat_eq_append] at h ⊢
    rw [cpy_snoc]
    have hx := h x (by simp)
    have h0 : AllOk basis l0 := fun y hy => h y (by simp [hy])
    split
    · rename_i hc
      obtain ⟨hc1, hc2⟩ := hc
      obtain ⟨b0, b1, b2, b3, b4⟩ := okS_bounds hx
      have htx : x.text.size = 0 := by
        unfold okS at hx
        split at hx
        · assumption
        · rw [decide_eq_true_eq] at hx; omega
      obtain ⟨xp, xn, xt⟩ := x
      dsimp only at *
      obtain ⟨p, rfl⟩ := Int.eq_ofNat_of_zero_le b0
      obtain ⟨q, rfl⟩ := Int.eq_ofNat_of_zero_le b1
      have ha : a = p + q := by omega
      subst ha
      have hxt := empty_of_size htx
      subst hxt
      refine ⟨h0.append (fun y hy => ?_), ?_⟩
      · rw [List.mem_singleton.1 hy]
        have := copy_ok (basis := basis) (a := p) (n := q + n) (by omega) (by omega) hs
        push_cast at this
        exact this
      · rw [ex_append, ex_append, ex_one, ex_one, List.append_assoc]
        congr 1
        unfold exS
        dsimp only
        rw [bl_empty empty_size, List.append_nil, List.append_nil, Int.toNat_natCast, Int.toNat_natCast, show ((q : Int) + (n : Int)).toNat = q + n by omega, List.take_add, List.drop_drop]
    · refine ⟨h.append (fun y hy => by rw [List.mem_singleton.1 hy]; exact hok), ?_⟩
      rw [ex_append, ex_one, hnew]
theorem pick_mem {l : List Int} {z : Int} (h : 0 ≤ pick l z) : pick l z ∈ l := by
  unfold pick at h ⊢
  split
  · assumption
  · rename_i hz
    rw [if_neg hz] at h
    cases l with
    | nil => simp at h
    | cons a l => simp
theorem mI_mem {basis t : ByteArray} {n : Nat} {z : Int} (hn : 0 < n) {i : Nat} (h : mI basis n t z = (i : Int)) : i * n + n ≤ basis.size ∧ win basis (i * n) n = t := by
  unfold mI at h
  have hm := pick_mem (l := cl basis n (wk t) t) (z := z) (by rw [h]; omega)
  rw [h] at hm
  have hr := cl_range hn _ hm
  unfold cl at hm
  rw [List.mem_filter] at hm
  have h2 := hm.2
  unfold isC at h2
  rw [decide_eq_true_eq, Int.toNat_natCast] at h2
  have h3 : i + 1 ≤ basis.size / n := by omega
  have h4 := (Nat.le_div_iff_mul_le hn).1 h3
  rw [Nat.succ_mul] at h4
  exact ⟨h4, by rw [win_pc h4]; exact h2.2.1⟩
theorem endP_law {basis s : ByteArray} {n : Nat} (hs : basis.size ≤ 524288) {l : List Stp} {t : ByteArray} (h : AllOk basis l) :
    AllOk basis (endP basis.size n (tI basis n) l t s) ∧ ex basis (endP basis.size n (tI basis n) l t s) = ex basis l ++ bl t ++ bl s := by
  unfold endP
  split
  · rename_i hc
    obtain ⟨h1, h2⟩ := hc
    unfold tI at h2
    rw [decide_eq_true_eq] at h2
    obtain ⟨h3, h4⟩ := h2
    have hmod := Nat.mod_le basis.size n
    generalize basis.size % n = r at *
    obtain ⟨k1, k2⟩ := cpy_law (a := basis.size - r) (n := r) (h.append (chunks_ok basis (t ++ s.extract 0 (s.size - r)))) h3 (by omega) hs
    refine ⟨k1, ?_⟩
    rw [k2, ex_append, chunks_ex, bl_append, bl_extract]
    have h5 : bl (s.extract (s.size - r) s.size) = bl (basis.extract (basis.size - r) basis.size) := by rw [h4]
    rw [bl_extract, bl_extract, show basis.size - (basis.size - r) = r by omega, show s.size - (s.size - r) = r by omega] at h5
    rw [← h5, List.drop_zero, Nat.sub_zero]
    have h6 : List.take r (List.drop (s.size - r) (bl s)) = List.drop (s.size - r) (bl s) := List.take_of_length_le (by rw [List.length_drop, bl_length]; omega)
    rw [h6]
    simp only [List.append_assoc, List.take_append_drop]
  · exact ⟨h.append (chunks_ok basis _), by rw [ex_append, chunks_ex, bl_append, List.append_assoc]⟩
theorem mkGo_law {basis s : ByteArray} {n : Nat} (hn : 0 < n) (hs : basis.size ≤ 524288) : ∀ (f at_ : Nat) (z : Int) (l : List Stp) (t : ByteArray), AllOk basis l → at_ ≤ s.size →
    AllOk basis (mkGo basis.size n (mI basis n) (tI basis n) s f at_ z l t) ∧ ex basis (mkGo basis.size n (mI basis n) (tI basis n) s f at_ z l t) = ex basis l ++ bl t ++ (bl s).drop at_ := by
  have hend : ∀ (at_ : Nat) (l : List Stp) (t : ByteArray), AllOk basis l → AllOk basis (endP basis.size n (tI basis n) l t (s.extract at_ s.size)) ∧ ex basis (endP basis.size n (tI basis n) l t (s.extract at_ s.size)) = ex basis l ++ bl t ++ (bl s).drop at_ := by
    intro at_ l t h
    obtain ⟨h1, h2⟩ := endP_law (n := n) (s := s.extract at_ s.size) (t := t) hs h
    refine ⟨h1, ?_⟩
    rw [h2, bl_extract, List.take_of_length_le (by rw [List.length_drop, bl_length]; omega)]
  intro f
  induction f with
  | zero => intro at_ z l t h _; exact hend at_ l t h
  | succ f ih =>
    intro at_ z l t h hat
    rw [mkGo]
    split
    · rename_i hb
      split
      · obtain ⟨h1, h2⟩ := ih (at_ + 1) z l (t ++ s.extract at_ (at_ + 1)) h (by omega)
        refine ⟨h1, ?_⟩
        rw [h2, bl_append, bl_extract, show at_ + 1 - at_ = 1 by omega, List.append_assoc, List.append_assoc, List.append_assoc]
        congr 2
        rw [← List.drop_drop]
        exact List.take_append_drop 1 _
      · rename_i hneg
        obtain ⟨i, hi⟩ := Int.eq_ofNat_of_zero_le (Int.not_lt.1 hneg)
        obtain ⟨hi1, hi2⟩ := mI_mem hn hi
        rw [hi, show (i : Int) * (n : Int) = ((i * n : Nat) : Int) by push_cast; rfl]
        obtain ⟨k1, k2⟩ := cpy_law (a := i * n) (n := n) (h.append (chunks_ok basis t)) hn hi1 hs
        obtain ⟨h1, h2⟩ := ih (at_ + n) ((i : Int) + 1) _ ⟨#[]⟩ k1 (by omega)
        refine ⟨h1, ?_⟩
        rw [h2, k2, ex_append, chunks_ex, bl_empty empty_size, List.append_nil]
        have h5 : bl (win basis (i * n) n) = bl (win s at_ n) := by rw [hi2]
        unfold win at h5
        rw [bl_extract, bl_extract, Nat.add_sub_cancel_left, Nat.add_sub_cancel_left] at h5
        rw [h5, List.append_assoc, List.append_assoc, List.append_assoc]
        congr 2
        rw [← List.drop_drop]
        exact List.take_append_drop n _
    · exact hend at_ l t h
theorem mkP_law {basis s : ByteArray} {n : Nat} (hn : 0 < n) (hs : basis.size ≤ 524288) :
    AllOk basis (mkP basis.size n (mI basis n) (tI basis n) s) ∧ ex basis (mkP basis.size n (mI basis n) (tI basis n) s) = bl s := by
  obtain ⟨h1, h2⟩ := mkGo_law (s := s) hn hs (s.size + 1) 0 0 [] ⟨#[]⟩ (fun x hx => by simp at hx) (Nat.zero_le _)
  refine ⟨h1, ?_⟩
  have : mkP basis.size n (mI basis n) (tI basis n) s = mkGo basis.size n (mI basis n) (tI basis n) s (s.size + 1) 0 0 [] ⟨#[]⟩ := rfl
  rw [this, h2, bl_empty empty_size]
  simp [ex]
theorem exS_length {basis : ByteArray} {x : Stp} (h : okS x basis.size = true) : (exS basis x).length = x.len.toNat + x.text.size := by
  obtain ⟨b0, b1, b2, b3, b4⟩ := okS_bounds h
  unfold exS
  rw [List.length_append, List.length_take, List.length_drop, bl_length, bl_length]
  omega
theorem ex_cons (basis : ByteArray) (x : Stp) (l : List Stp) : ex basis (x :: l) = exS basis x ++ ex basis l := by simp [ex]
theorem run_law {basis : ByteArray} : ∀ (l : List Stp) (acc : List UInt8), AllOk basis l → acc.length + (ex basis l).length ≤ 524288 → runGo basis l acc = (acc ++ ex basis l, 0) := by
  intro l
  induction l with
  | nil => intro acc _ _; simp [runGo, ex]
  | cons x l ih =>
    intro acc h hl
    have hx := h x (by simp)
    rw [ex_cons, List.length_append, exS_length hx] at hl
    unfold runGo
    rw [if_pos hx, if_neg (by omega)]
    have he : exS basis x = (basis.extract x.pos.toNat (x.pos.toNat + x.len.toNat)).data.toList ++ x.text.data.toList := by
      have := bl_extract basis x.pos.toNat (x.pos.toNat + x.len.toNat)
      rw [Nat.add_sub_cancel_left] at this
      unfold exS
      rw [← this]
      rfl
    rw [List.append_assoc, ← he, ih _ (fun y hy => h y (by simp [hy])) (by rw [List.length_append, exS_length hx]; omega), ex_cons, List.append_assoc]
theorem okS_neg {x : Stp} {n : Nat} (h : okS x (n : Int) = true) : okS x (-1) = true := by
  unfold okS at h ⊢
  split
  · rename_i h0
    rw [if_pos h0, decide_eq_true_eq] at h
    rw [decide_eq_true_eq]
    exact ⟨h.1, h.2.1, h.2.2.1, h.2.2.2.1, .inl (by omega)⟩
  · rename_i h0
    rw [if_neg h0] at h
    exact h
theorem rgo_law {basis : ByteArray} {N : Nat} : ∀ (l : List Stp) (m : Nat), AllOk basis l → m + (ex basis l).length = N → rgo N l m = true := by
  intro l
  induction l with
  | nil => intro m _ h; simp only [ex, List.flatMap_nil, List.length_nil] at h; simp only [rgo, decide_eq_true_eq]; omega
  | cons x l ih =>
    intro m h hl
    have hx := h x (by simp)
    obtain ⟨b0, b1, b2, b3, b4⟩ := okS_bounds hx
    rw [ex_cons, List.length_append, exS_length hx] at hl
    unfold rgo
    rw [if_pos (okS_neg hx), if_neg (by omega)]
    rw [show (m : Int) + (x.len + (x.text.size : Int)) = ((m + (x.len.toNat + x.text.size) : Nat) : Int) by omega]
    exact ih _ (fun y hy => h y (by simp [hy])) (by omega)
theorem sumT_ex {basis : ByteArray} : ∀ (l : List Stp), AllOk basis l → sumT l ≤ (ex basis l).length := by
  intro l
  induction l with
  | nil => intro _; simp [sumT, ex]
  | cons x l ih =>
    intro h
    have := ih (fun y hy => h y (by simp [hy]))
    rw [ex_cons, List.length_append, exS_length (h x (by simp))]
    have h2 : sumT (x :: l) = x.text.size + sumT l := by simp [sumT]
    omega
theorem len_ex {basis : ByteArray} : ∀ (l : List Stp), AllOk basis l → l.length ≤ (ex basis l).length := by
  intro l
  induction l with
  | nil => intro _; simp
  | cons x l ih =>
    intro h
    have := ih (fun y hy => h y (by simp [hy]))
    have hx := h x (by simp)
    have hp := okS_pos hx
    rw [ex_cons, List.length_append, exS_length hx, List.length_cons]
    omega
end Go.Proofs.Ytblhbbgkkijkfaa
