/- barquelaw05.SignOwn, walked. -/
import Derived.Test.YtblhbbgkkijkfaaL14
namespace Go.Proofs.Ytblhbbgkkijkfaa
open Go.RowKit Go.Maps
theorem cl_self {s : ByteArray} {n i : Nat} (hn : 0 < n) (hi : i < s.size / n) : (i : Int) ∈ cl s n (wk (pc s i n)) (pc s i n) := by
  unfold cl
  rw [List.mem_filter]
  refine ⟨?_, ?_⟩
  · unfold rng
    have := cnt_div s.size n hn
    exact List.mem_map.2 ⟨i, List.mem_range.2 (by omega), rfl⟩
  · unfold isC
    rw [decide_eq_true_eq, Int.toNat_natCast]
    exact ⟨pc_whole hn hi, rfl, rfl⟩
theorem pick_self {s : ByteArray} {n i : Nat} (hn : 0 < n) (hi : i < s.size / n) : pick (cl s n (wk (pc s i n)) (pc s i n)) (i : Int) = (i : Int) := by
  unfold pick
  rw [if_pos (cl_self hn hi)]
theorem pick_first {s : ByteArray} {n i : Nat} (hn : 0 < n) (hi : i < s.size / n) : ∃ k : Nat, pick (cl s n (wk (pc s i n)) (pc s i n)) (-1) = (k : Int) ∧ k ≤ i ∧ pc s k n = pc s i n := by
  have hs := cl_self hn hi
  have hsub : ∀ x ∈ cl s n (wk (pc s i n)) (pc s i n), 0 ≤ x ∧ pc s x.toNat n = pc s i n := by
    intro x hx
    unfold cl at hx
    rw [List.mem_filter] at hx
    obtain ⟨h1, h2⟩ := hx
    unfold isC at h2
    rw [decide_eq_true_eq] at h2
    exact ⟨(rng_mem h1).1, h2.2.1⟩
  have hord : (cl s n (wk (pc s i n)) (pc s i n)).Pairwise (· < ·) := (rng_lt _).filter _
  generalize cl s n (wk (pc s i n)) (pc s i n) = l at *
  cases l with
  | nil => simp at hs
  | cons a l =>
    obtain ⟨h0, hp⟩ := hsub a (by simp)
    obtain ⟨k, rfl⟩ := Int.eq_ofNat_of_zero_le h0
    refine ⟨k, ?_, ?_, by simpa using hp⟩
    · unfold pick
      rw [if_neg]
      · rfl
      · intro h
        have := (hsub _ h).1
        omega
    · rcases List.mem_cons.1 hs with h | h
      · omega
      · have := List.rel_of_pairwise_cons hord h
        omega
set_option maxRecDepth 100000 in
set_option maxHeartbeats 4000000 in
theorem signOwn_err (s : ByteArray) (y : Int) (hs : s.size ≤ maxLen) (hf : fitsB y = false) (w : World) :
    Calls Try.prog 15 #[.string s, .int .i64 y] w fun e w' => e = .returned (.bool true) ∧ Mods Nope w w' := by
  have HF := Lib.hid hf
  have HS := Lib.hid hs
  have hff := fitsB_false.1 hf
  have HNO : Hid (sigB 0 0 [] [] = false) := sigB_false (fun h => by have := h.1; omega)
  clear hf hs
  go_enter Try.func15, Try.ntmps15
  go_wp2_with fail
  refine (f28_calls s 2000 _ HS.out (by omega)).mono ?_; rintro e w1 ⟨rfl, rfl⟩
  go_wp2_with fail
  refine (f29_calls _).mono ?_; rintro e w2 ⟨b, mb, rfl, _, _, _, hm⟩
  go_wp2_with fail
  refine (f30_err _ _ _ _ HF.out).mono ?_; rintro e w3 ⟨rfl, h3⟩
  simp only [sigV]
  have HM3 := Lib.hid ((hm.trans h3).alloc (.cells #[.int .i64 0, .int .i64 0, .slice none 0 0, .slice none 0 0] 31))
  clear hm h3
  go_wp2_with fail
  refine (f57_bad 0 0 none none 0 0 0 0 [] [] _ rfl rfl (Rd.nil _ _) (Rd.nil _ _) (fun _ h => by simp at h) HNO.out).mono ?_; rintro e w4 ⟨rfl, h4⟩
  have HM4 := Lib.hid (HM3.out.trans h4)
  clear h4
  by_cases hy : y < 16
  · have hd : decide (y < 16) = true := decide_eq_true hy
    go_wp2_with fail
    refine (f27_calls _).mono ?_; rintro e w4 ⟨rfl, h4⟩
    go_wp2
    go_ret
    exact ⟨rfl, HM4.out.trans h4⟩
  · have hd : decide (1024 < y) = true := decide_eq_true (by omega)
    go_wp2_with fail
    refine (f27_calls _).mono ?_; rintro e w4 ⟨rfl, h4⟩
    go_wp2
    go_ret
    exact ⟨rfl, HM4.out.trans h4⟩
/-- What the law's loop holds. -/
structure OwnAt (b mb B T G n : Nat) (s : ByteArray) (L : List ByteArray) (bs : List Int) (wv sv kv bv : Value) (A A' A2 : Option Addr) (c c' : Nat) (w1 wr : World) : Prop where
  tbl : Tbl wr B T n s.size (sweak s n (cnt s.size n)) ((pcs s n (cnt s.size n)).map (Bk.ideal L).mark) bs wv sv kv bv
  book : IsBook wr b mb (.ideal L)
  row : wr.heap[G]? = some (.cells #[.int .i64 n, .int .i64 s.size, .slice A (cnt s.size n) c, .slice A' (cnt s.size n) c'] 31 (0, 0))
  weak : ∃ e, wr.ownsRow 0 3 1 (.slice A (cnt s.size n) c) e (ints (sweak s n (cnt s.size n)))
  list : ∃ c2, wr.ownsRow 0 9 1 (.slice A2 (cnt s.size n) c2) (cnt s.size n) (strs (pcs s n (cnt s.size n)))
  mods : Mods (fun k => w1.heap.size ≤ k) w1 wr
theorem OwnAt.marked {b mb B T G n : Nat} {s : ByteArray} {L : List ByteArray} {bs : List Int} {wv sv kv bv : Value} {A A' A2 : Option Addr} {c c' : Nat} {w1 wr wx : World} (h : OwnAt b mb B T G n s L bs wv sv kv bv A A' A2 c c' w1 wr)
    (hmb : w1.heap.size ≤ mb) (hm : Mods (MK (.ideal L) mb) wr wx) (hb : IsBook wx b mb (.ideal L)) : OwnAt b mb B T G n s L bs wv sv kv bv A A' A2 c c' w1 wx := by
  obtain ⟨e, he⟩ := h.weak
  obtain ⟨c2, hc2⟩ := h.list
  exact ⟨h.tbl.marked h.book hm, hb, hm.row h.row (book_row h.book h.row), ⟨e, hm.owns he (book_own h.book he)⟩, ⟨c2, hm.owns hc2 (book_own h.book hc2)⟩, h.mods.then hm (fun i hi e => by have : i = mb := e; omega)⟩
theorem OwnAt.nope {b mb B T G n : Nat} {s : ByteArray} {L : List ByteArray} {bs : List Int} {wv sv kv bv : Value} {A A' A2 : Option Addr} {c c' : Nat} {w1 wr wx : World} (h : OwnAt b mb B T G n s L bs wv sv kv bv A A' A2 c c' w1 wr)
    (hm : Mods Nope wr wx) : OwnAt b mb B T G n s L bs wv sv kv bv A A' A2 c c' w1 wx := by
  obtain ⟨e, he⟩ := h.weak
  obtain ⟨c2, hc2⟩ := h.list
  exact ⟨h.tbl.nope hm, h.book.nope hm, hm.row h.row (fun h => h), ⟨e, hm.owns he (fun _ _ h => h)⟩, ⟨c2, hm.owns hc2 (fun _ _ h => h)⟩, h.mods.trans (hm.any _)⟩
/-- Match of one of the text's own blocks. -/
theorem OwnAt.own {b mb B T G n : Nat} {s : ByteArray} {L : List ByteArray} {bs : List Int} {wv sv kv bv : Value} {A A' A2 : Option Addr} {c c' : Nat} {w1 wr : World} (h : OwnAt b mb B T G n s L bs wv sv kv bv A A' A2 c c' w1 wr)
    (hmb : w1.heap.size ≤ mb) (hn : 16 ≤ n) (hss : s.size ≤ 524288) (hL : L.length < 1125899906842624) (hk : ∀ y ∈ pcs s n (cnt s.size n), y ∈ L)
    (hp : bs.Perm (rng (s.size / n))) (hso : bs.Pairwise (Rl (sweak s n (cnt s.size n)))) (k : Nat) (hki : k < s.size / n) (z P : Int) (hP : pick (cl s n (wk (pc s k n)) (pc s k n)) z = P) :
    Calls Try.prog 41 #[.pointer (some ⟨T, 0, none⟩), .pointer (some ⟨b, 0, none⟩), .int .i64 (wk (pc s k n)), .string (pc s k n), .int .i64 z] wr fun e w' => e = .returned (.int .i64 P) ∧ OwnAt b mb B T G n s L bs wv sv kv bv A A' A2 c c' w1 w' := by
  have hkc : k < cnt s.size n := Nat.lt_of_lt_of_le hki (div_le_cnt _ _ (by omega))
  have hy : pc s k n ∈ L := hk _ (pcs_mem hkc)
  have hc := cnt_le s.size n (by omega)
  have hsz := pc_whole (s := s) (b := n) (i := k) (by omega) hki
  have h41 := f41_calls B T (s.size / n) b mb n (.ideal L) s.size (sweak s n (cnt s.size n)) ((pcs s n (cnt s.size n)).map (Bk.ideal L).mark) bs wv sv kv bv (wk (pc s k n)) (pc s k n) z wr h.tbl hp hso (Nat.le_trans (Nat.div_le_self _ _) hss) (by rw [List.length_map, pcs_length]; exact div_le_cnt _ _ (by omega)) h.book hL (by have := Nat.div_mul_le_self s.size n; have := Nat.le_of_lt hki; have : n ≤ s.size := (Nat.div_pos_iff.1 (Nat.lt_of_le_of_lt (Nat.zero_le _) hki)).2; omega)
  unfold MtcPost at h41
  rw [match_law (by omega) hL hk, hP] at h41
  have e : mtcB (sweak s n (cnt s.size n)) (s.size / n) n (.ideal L) (wk (pc s k n)) (pc s k n) = .ideal L := by
    unfold mtcB
    split
    · exact ideal_add_known hy
    · rfl
  rw [e] at h41
  exact h41.mono fun e w' ⟨h1, h2, h3⟩ => ⟨h1, h.marked hmb h3 h2⟩
/-- And Tail of the last. -/
theorem OwnAt.last {b mb B T G n : Nat} {s : ByteArray} {L : List ByteArray} {bs : List Int} {wv sv kv bv : Value} {A A' A2 : Option Addr} {c c' : Nat} {w1 wr : World} (h : OwnAt b mb B T G n s L bs wv sv kv bv A A' A2 c c' w1 wr)
    (hmb : w1.heap.size ≤ mb) (hn : 16 ≤ n) (hss : s.size ≤ 524288) (hL : L.length < 1125899906842624) (hk : ∀ y ∈ pcs s n (cnt s.size n), y ∈ L) (k : Nat) (hkc : k < cnt s.size n) (hki : ¬ k < s.size / n) :
    Calls Try.prog 42 #[.pointer (some ⟨T, 0, none⟩), .pointer (some ⟨b, 0, none⟩), .string (pc s k n)] wr fun e w' => e = .returned (.bool true) ∧ OwnAt b mb B T G n s L bs wv sv kv bv A A' A2 c c' w1 w' := by
  have hcd := cnt_div s.size n (by omega)
  have hr : 0 < s.size % n := by
    rcases Nat.eq_zero_or_pos (s.size % n) with h0 | h0
    · rw [h0, if_neg (by omega)] at hcd; omega
    · exact h0
  obtain rfl : k = s.size / n := by rw [if_pos hr] at hcd; omega
  have hy : pc s (s.size / n) n ∈ L := hk _ (pcs_mem hkc)
  have h42 := f42_calls B T b mb n s.size (.ideal L) (sweak s n (cnt s.size n)) ((pcs s n (cnt s.size n)).map (Bk.ideal L).mark) bs wv sv kv bv (pc s (s.size / n) n) wr h.tbl h.book hL (by rw [pc_last_size (by omega)]; have := Nat.mod_le s.size n; omega) hn hss (sweak_length _ _ _) (by rw [List.length_map, pcs_length, sweak_length])
  unfold TlPost at h42
  rw [tail_law (by omega) hL (fun y h => ⟨hk y h, rfl⟩), decide_eq_true ⟨hr, pc_last (by omega)⟩] at h42
  have e : tlB (sweak s n (cnt s.size n)) n s.size (.ideal L) (pc s (s.size / n) n) = .ideal L := by
    unfold tlB
    split
    · exact ideal_add_known hy
    · rfl
  rw [e] at h42
  exact h42.mono fun e w' ⟨h1, h2, h3⟩ => ⟨h1, h.marked hmb h3 h2⟩
theorem OwnAt.start {b mb B T G n : Nat} {s : ByteArray} {L : List ByteArray} {bs : List Int} {wv sv kv bv : Value} {A A' A2 : Option Addr} {c c' : Nat} {w1 wr : World} (h : OwnAt b mb B T G n s L bs wv sv kv bv A A' A2 c c' w1 wr)
    {k : Nat} (hk : k < cnt s.size n) : ∃ gw ow ga oa, A = some ⟨gw, ow, none⟩ ∧ A2 = some ⟨ga, oa, none⟩ := by
  obtain ⟨e, he⟩ := h.weak
  obtain ⟨c2, hc2⟩ := h.list
  obtain ⟨_, _, hh, _, _, hr, _⟩ := Rd.of_owns he
  injection hh with hh hl _
  subst hh
  obtain ⟨gw, ow, hA, _⟩ := hr.int k (by rw [sweak_length]; exact hk)
  obtain ⟨_, _, hh, _, _, hr, _⟩ := Rd.of_owns hc2
  injection hh with hh hl _
  subst hh
  obtain ⟨ga, oa, hA2, _⟩ := hr.str k (by rw [pcs_length]; exact hk)
  exact ⟨gw, ow, ga, oa, hA, hA2⟩
theorem OwnAt.cells {b mb B T G n gw ow ga oa : Nat} {s : ByteArray} {L : List ByteArray} {bs : List Int} {wv sv kv bv : Value} {A' : Option Addr} {c c' : Nat} {w1 wr : World} (h : OwnAt b mb B T G n s L bs wv sv kv bv (some ⟨gw, ow, none⟩) A' (some ⟨ga, oa, none⟩) c c' w1 wr)
    {k : Nat} (hk : k < cnt s.size n) : wr.cell? ⟨G, 2, none⟩ = some (.slice (some ⟨gw, ow, none⟩) (cnt s.size n) c) ∧ wr.cell? ⟨gw, ow + k, none⟩ = some (.int .i64 (wk (pc s k n))) ∧ wr.cell? ⟨ga, oa + k, none⟩ = some (.string (pc s k n)) := by
  obtain ⟨_, _, g2, _⟩ := cells4 h.row
  refine ⟨g2, ?_, ?_⟩
  · obtain ⟨e, he⟩ := h.weak
    obtain ⟨_, _, hh, _, _, hr, _⟩ := Rd.of_owns he
    injection hh with hh hl _
    subst hh
    obtain ⟨gw, ow, hA, hc⟩ := hr.int k (by rw [sweak_length]; exact hk)
    injection hA with hA
    injection hA with hA1 hA2 _
    subst hA1
    subst hA2
    rw [hc]
    simp [sweak, pcs]
  · obtain ⟨c2, hc2⟩ := h.list
    obtain ⟨_, _, hh, _, _, hr, _⟩ := Rd.of_owns hc2
    injection hh with hh hl _
    subst hh
    obtain ⟨gw, ow, hA, hc⟩ := hr.str k (by rw [pcs_length]; exact hk)
    injection hA with hA
    injection hA with hA1 hA2 _
    subst hA1
    subst hA2
    rw [hc]
    simp [pcs]
set_option maxRecDepth 100000 in
set_option maxHeartbeats 8000000 in
theorem signOwn_ok (s : ByteArray) (n : Nat) (hs : s.size ≤ maxLen) (h1 : 16 ≤ n) (h2 : n ≤ 1024) (w : World) :
    Calls Try.prog 15 #[.string s, .int .i64 n] w fun e w' => e = .returned (.bool true) ∧ Mods Nope w w' := by
  have HS := Lib.hid hs
  clear hs
  go_enter Try.func15, Try.ntmps15
  go_wp2_with fail
  refine (f28_calls s 2000 _ HS.out (by omega)).mono ?_; rintro e w1 ⟨rfl, rfl⟩
  have hcz := cutT_size s 2000
  generalize cutT s 2000 = s' at hcz ⊢
  have hss : s'.size ≤ 524288 := by omega
  have hcc : cnt s'.size n ≤ 2000 := Nat.le_trans (cnt_le s'.size n (by omega)) hcz
  obtain ⟨L, hL, hsm, hLl, hLk, hOK⟩ := sign_lists s' n hss h1 h2
  go_wp2_with fail
  refine (f29_calls _).mono ?_; rintro e w2 ⟨b, mb, rfl, hb1, hmb1, hbk, hm⟩
  go_wp2_with fail
  refine (f30_ok b mb (.ideal []) s' n _ hbk (by simp [Bk.len]) hss h1 h2).mono ?_; rintro e w3 ⟨wv, sv, rfl, hw3, hs3, hb3, h3⟩
  rw [hL] at hb3
  rw [hsm] at hs3
  have HOW := Lib.hid hw3
  obtain ⟨A, c, rfl, _, _, hrw, _⟩ := Rd.of_owns hw3
  obtain ⟨A', c', rfl, _, _, hrs, _⟩ := Rd.of_owns hs3
  simp only [sigV]
  have hmbb := Lib.hid hmb1
  have HM3 : Hid (Mods Nope w1 w3) := hm.then h3 (fun i hi e => by unfold MB at e; omega)
  have HB3 := Lib.hid hb3
  have HW3 := Lib.hid hrw
  have HS3 := Lib.hid hrs
  have HLK := Lib.hid hLk
  have HOK := Lib.hid hOK
  have HLL : Hid (L.length < 1125899906842624) := by unfold Hid; omega
  clear hw3 hs3 hb3 h3 hrw hrs hm hbk hL hsm hLk hOK hb1 hmb1 hLl
  go_wp2_with fail
  refine (f57_ok n s'.size A A' c c' _ _ (sweak s' n (cnt s'.size n)) ((pcs s' n (cnt s'.size n)).map (Bk.ideal L).mark) _ (sweak_length _ _ _) (by rw [List.length_map, pcs_length]) (HW3.out.alloc _) (HS3.out.alloc _) (fun m hm => by rw [HOK.out.2.2.2.2.2.2.2 m hm]; simp [maxLen]) HOK.out).mono ?_; rintro e w4 ⟨T, wv, sv, kv, bv, bs, rfl, ht, hp, hso, h4⟩
  simp only [Int.toNat_natCast] at hp
  have hN4 := ((Mods.refl Nope w3).alloc (.cells #[.int .i64 n, .int .i64 s'.size, .slice A (cnt s'.size n) c, .slice A' (cnt s'.size n) c'] 31)).trans h4
  have HT4 := Lib.hid ht
  have HP := Lib.hid hp
  have HSO := Lib.hid hso
  have HB4 := Lib.hid (HB3.out.nope hN4)
  have HM4 := Lib.hid (HM3.out.trans hN4)
  have HG4 := Lib.hid (h4.row (heap_alloc_new w3 (.cells #[.int .i64 n, .int .i64 s'.size, .slice A (cnt s'.size n) c, .slice A' (cnt s'.size n) c'] 31)) (fun h => h))
  have HO4 := Lib.hid (hN4.owns HOW.out (fun _ _ h => h))
  clear ht hp hso hN4 h4 HB3 HM3 HW3 HS3
  go_wp2_with fail
  refine (f33_calls s' n _ hss h1 h2).mono ?_; rintro e w5 ⟨lv, rfl, hl5, h5⟩
  obtain ⟨A2, c2, rfl, _, _, _, _⟩ := Rd.of_owns hl5
  have HA5 : Hid (OwnAt b mb ((w3.alloc (.cells #[.int .i64 n, .int .i64 s'.size, .slice A (cnt s'.size n) c, .slice A' (cnt s'.size n) c'] 31)).heap.size) T w3.heap.size n s' L bs wv sv kv bv A A' A2 c c' w1 w5) :=
    ⟨HT4.out.nope h5, HB4.out.nope h5, h5.row HG4.out (fun h => h), ⟨_, own_base (h5.owns HO4.out (fun _ _ h => h)) (Nat.zero_le _)⟩, ⟨c2, own_base hl5 (Nat.zero_le _)⟩, (HM4.out.trans h5).any _⟩
  have HC2 := Lib.hid (own_base hl5 (Nat.zero_le _))
  obtain ⟨_, _, g2, _⟩ := cells4 HA5.out.row
  have hqq : (((cnt s'.size n : Nat) : Int) != ((cnt s'.size n : Nat) : Int)) = false := by simp
  have HO := Lib.hid (fun wx (h : OwnAt b mb ((w3.alloc (.cells #[.int .i64 n, .int .i64 s'.size, .slice A (cnt s'.size n) c, .slice A' (cnt s'.size n) c'] 31)).heap.size) T w3.heap.size n s' L bs wv sv kv bv A A' A2 c c' w1 wx) k hk => h.own hmbb.out h1 hss HLL.out HLK.out HP.out HSO.out k hk)
  have HLA := Lib.hid (fun wx (h : OwnAt b mb ((w3.alloc (.cells #[.int .i64 n, .int .i64 s'.size, .slice A (cnt s'.size n) c, .slice A' (cnt s'.size n) c'] 31)).heap.size) T w3.heap.size n s' L bs wv sv kv bv A A' A2 c c' w1 wx) => h.last hmbb.out h1 hss HLL.out HLK.out)
  have HPW := Lib.hid (fun k h => pc_whole (s := s') (b := n) (i := k) (by omega) h)
  have HPL : Hid (∀ k, k < cnt s'.size n → ¬ k < s'.size / n → (pc s' k n).size < n) := by
    intro k hkc hki
    have hcd := cnt_div s'.size n (by omega)
    obtain rfl : k = s'.size / n := by split at hcd <;> omega
    rw [pc_last_size (by omega)]
    exact Nat.mod_lt _ (by omega)
  have HPF := Lib.hid (fun k (h : k < s'.size / n) => pick_first (s := s') (n := n) (i := k) (by omega) h)
  have HPS := Lib.hid (fun k (h : k < s'.size / n) => pick_self (s := s') (n := n) (i := k) (by omega) h)
  have HPC := Lib.hid (fun k (h : k < cnt s'.size n) => (show (pcs s' n (cnt s'.size n))[k]'(by rw [pcs_length]; exact h) = pc s' k n by simp [pcs]))
  have HSW := Lib.hid (fun k (h : k < cnt s'.size n) => (show (sweak s' n (cnt s'.size n))[k]'(by rw [sweak_length]; exact h) = wk (pc s' k n) by simp [sweak, pcs]))
  clear hl5 h5 HT4 HB4 HG4 HO4 HC2 HOK HLK HM4 HP HSO HOW
  generalize (w3.alloc (.cells #[.int .i64 n, .int .i64 s'.size, .slice A (cnt s'.size n) c, .slice A' (cnt s'.size n) c'] 31)).heap.size = BB at *
  generalize w3.heap.size = G at *
  go_wp2_with fail
  go_loopg [11] (cnt s'.size n) (fun gk i wr => ∃ k : Nat, k ≤ cnt s'.size n ∧ gk = cnt s'.size n - k ∧ i = .int .i64 (k : Nat) ∧ OwnAt b mb BB T G n s' L bs wv sv kv bv A A' A2 c c' w1 wr)
  case atStart => exact ⟨0, Nat.zero_le _, rfl, rfl, HA5.out⟩
  case round =>
    obtain ⟨k, hk, hgk, rfl, hA⟩ := hrel
    have HA := Lib.hid hA
    clear hA g2 HA5
    by_cases hlt : k < cnt s'.size n
    · obtain ⟨gw, ow, ga, oa, hA1, hA2⟩ := HA.out.start hlt
      have hki : (k : Int) < (cnt s'.size n : Int) := by omega
      subst hA1
      subst hA2
      have HCE := Lib.hid (fun wx (h : OwnAt b mb BB T G n s' L bs wv sv kv bv (some ⟨gw, ow, none⟩) A' (some ⟨ga, oa, none⟩) c c' w1 wx) j (hj : j < cnt s'.size n) => h.cells hj)
      obtain ⟨g2, hc3, hc1⟩ := HCE.out wr HA.out k hlt
      by_cases q : k < s'.size / n
      · have hlt2 : decide (((pc s' k n).size : Int) < (n : Int)) = false := by have := HPW.out k q; simp; omega
        obtain ⟨kk, hpk, hkk, hpc⟩ := HPF.out k q
        have hkc : kk < cnt s'.size n := by omega
        have HCX := Lib.hid (fun wx h => (HCE.out wx h kk hkc).2.2)
        have HCY := Lib.hid (fun wx h => HCE.out wx h k hlt)
        rw [hpc] at HCX
        have HO1 := Lib.hid (fun wx h => HO.out wx h k q (-1) _ hpk)
        have HO2 := Lib.hid (fun wx h => HO.out wx h k q (k : Int) _ (HPS.out k q))
        have HKK := Lib.hid hkk
        have hse : ((pc s' k n).toList == (pc s' k n).toList) = true := str_eq rfl
        have hsi : ((k : Int) != (k : Int)) = false := by simp
        have hk1 : decide ((kk : Int) < 0) = false := by simp
        have hk2 : decide ((k : Int) < (kk : Int)) = false := by simp; omega
        have hk3 : decide (k < kk) = false := by simp; omega
        have hk4 : ¬ k < kk := by omega
        have hkki : (kk : Int) < (cnt s'.size n : Int) := by omega
        generalize wk (pc s' k n) = x at *
        generalize pc s' k n = y at *
        have hlt3 : ¬ y.size < n := by simp at hlt2; omega
        clear hpk hpc HCE
        go_upto_region 16 with fail
        go_cut [12] (fun m wx => m = .int .i64 (kk : Int) ∧ OwnAt b mb BB T G n s' L bs wv sv kv bv (some ⟨gw, ow, none⟩) A' (some ⟨ga, oa, none⟩) c c' w1 wx)
        case first =>
          go_region_held3 (fun w' => w'.cell? ⟨G, 2, none⟩ = some (.slice (some ⟨gw, ow, none⟩) (cnt s'.size n) c) ∧ w'.cell? ⟨gw, ow + k, none⟩ = some (.int .i64 x) ∧ w'.cell? ⟨ga, oa + k, none⟩ = some (.string y)) (go_keep)
            (first
              | (go_at_call 41; refine (HO1.out _ (HA.out.nope (by repeat (with_reducible first | exact Mods.refl _ _ | apply Mods.drew | apply Mods.drewN)))).mono ?_; rintro e w6 ⟨rfl, hA6⟩
                 have HA6 := Lib.hid hA6
                 clear hA6
                 obtain ⟨g2, hc3, hc1⟩ := HCY.out _ HA6.out))
          all_goals go_wp2_with fail
          all_goals
            go_meet
            exact ⟨rfl, by first | exact HA6.out | exact HA6.out.nope (by repeat (with_reducible first | exact Mods.refl _ _ | apply Mods.drew | apply Mods.drewN))⟩
        case rest =>
          obtain ⟨rfl, hA6⟩ := hcut
          obtain ⟨w6, rfl⟩ : ∃ w6 : World, w6 = wc := ⟨_, rfl⟩
          have HA6 := Lib.hid hA6
          clear hA6 g2 hc1 hc3
          obtain ⟨g2, hc3, hc1⟩ := HCY.out _ HA6.out
          have hc2 := HCX.out _ HA6.out
          go_upto_region 17 with fail
          go_region_held3 (fun w' => w'.cell? ⟨G, 2, none⟩ = some (.slice (some ⟨gw, ow, none⟩) (cnt s'.size n) c) ∧ w'.cell? ⟨gw, ow + k, none⟩ = some (.int .i64 x) ∧ w'.cell? ⟨ga, oa + k, none⟩ = some (.string y) ∧ w'.cell? ⟨ga, oa + kk, none⟩ = some (.string y)) (go_keep)
            (first
              | (go_at_call 41; refine (HO2.out _ (HA6.out.nope (by repeat (with_reducible first | exact Mods.refl _ _ | apply Mods.drew | apply Mods.drewN)))).mono ?_; rintro e w7 ⟨rfl, hA7⟩
                 have HA7 := Lib.hid hA7
                 clear hA7
                 obtain ⟨g2, hc3, hc1⟩ := HCY.out _ HA7.out
                 have hc2 := HCX.out _ HA7.out))
          all_goals
            go_wp2_with fail
            go_roundg (cnt s'.size n - (k + 1))
            case measure => omega
            case rel => exact ⟨k + 1, by omega, by omega, by go_num, by first | exact HA7.out | exact HA7.out.nope (by repeat (with_reducible first | exact Mods.refl _ _ | apply Mods.drew | apply Mods.drewN))⟩
      · have hlt2 : decide (((pc s' k n).size : Int) < (n : Int)) = true := by have := HPL.out k hlt q; simp; omega
        have hlt3 := HPL.out k hlt q
        have H42 := Lib.hid (HLA.out _ HA.out k hlt q)
        generalize pc s' k n = y at *
        go_wp2_with fail
        refine H42.out.mono ?_; rintro e w6 ⟨rfl, hA6⟩
        go_wp2_with fail
        go_roundg (cnt s'.size n - (k + 1))
        case measure => omega
        case rel => exact ⟨k + 1, by omega, by omega, by go_num, hA6⟩
    · go_wp2_with fail
      refine (f27_calls _).mono ?_; rintro e w6 ⟨rfl, h6⟩
      go_wp2
      go_ret
      exact ⟨rfl, (HA.out.mods.mono (fun i hi e => absurd e (Nat.not_le.2 hi))).trans h6⟩
theorem signOwn_walk (a0 : ByteArray) (a1 : Int) (w0 : a0.size ≤ maxLen) (_ : (Lit.int .i64 a1).wf = true) (w : World) :
    Calls Try.prog 15 #[.string a0, .int .i64 a1] w fun e w' => e = .returned (.bool true) ∧ Mods Nope w w' := by
  by_cases hf : fitsB a1 = true
  · have h := fitsB_true.1 hf
    obtain ⟨n, rfl⟩ : ∃ n : Nat, a1 = n := ⟨a1.toNat, by omega⟩
    exact signOwn_ok a0 n w0 (by omega) (by omega) w
  · exact signOwn_err a0 a1 w0 (by simpa using hf) w
end Go.Proofs.Ytblhbbgkkijkfaa
