/- The document's book while a call goes on; barqueref05.Match, walked. -/
import Derived.Test.YtblhbbgkkijkfaaN5
import Derived.Test.YtblhbbgkkijkfaaMP
import Derived.Test.YtblhbbgkkijkfaaD6
import Derived.Deep.RegionHeld3
namespace Go.Proofs.Ytblhbbgkkijkfaa
open Go.RowKit Go.Maps
theorem Bk.add_add (B : Bk) (s : ByteArray) : (B.add s).add s = B.add s := by
  cases B with
  | real f => rfl
  | ideal L =>
    by_cases h : place s L < L.length
    · simp only [Bk.add, h, if_true]
    · have hn : s ∉ L := fun hm => h (place_lt.2 hm)
      simp only [Bk.add, h, if_false]
      rw [place_snoc hn, if_pos (by simp)]
/-- Blocks of other types than the book's stay. -/
structure Keeps (w w' : World) : Prop where
  row : ∀ (g : Nat) (cs : Array Value) (e : Nat) (fr : Nat × Nat), e ≠ 9 → e ≠ 38 → w.heap[g]? = some (Obj.cells cs e fr) → w'.heap[g]? = some (Obj.cells cs e fr)
  size : w.heap.size ≤ w'.heap.size
theorem Keeps.refl (w : World) : Keeps w w := ⟨fun _ _ _ _ _ _ h => h, Nat.le_refl _⟩
theorem Keeps.trans {a b c : World} (h : Keeps a b) (k : Keeps b c) : Keeps a c := ⟨fun g cs e fr h1 h2 h3 => k.row g cs e fr h1 h2 (h.row g cs e fr h1 h2 h3), Nat.le_trans h.size k.size⟩
theorem Keeps.nope {a b : World} (h : Mods Nope a b) : Keeps a b := ⟨fun _ _ _ _ _ _ h3 => h.row h3 (fun h => h), h.size⟩
theorem Keeps.owns {w w' : World} (h : Keeps w w') {base e size n : Nat} {v : Value} {xs : List Value} (ho : w.ownsRow base e size v n xs) (h1 : e ≠ 9) (h2 : e ≠ 38) : w'.ownsRow base e size v n xs := by
  refine ⟨ho.1, ?_⟩
  rcases ho.2 with hn | ⟨g, cap, cur, rfl, hb, hgg, rest⟩
  · exact .inl hn
  · exact .inr ⟨g, cap, cur, rfl, hb, h.row g _ _ _ h1 h2 hgg, rest⟩
/-- A book of the document's, while a call goes on. -/
structure RSt (base b : Nat) (v : Value) (w wr : World) (K : Bk) : Prop where
  ex : ∃ v', IsRef wr base b v' K ∧ (∀ k, v'.ownBlock = some k → v.ownBlock = some k ∨ w.heap.size ≤ k)
  mods : Mods (RB b v) w wr
theorem RSt.refl {base b : Nat} {v : Value} {w : World} {K : Bk} (h : IsRef w base b v K) : RSt base b v w w K := ⟨⟨v, h, fun _ hk => .inl hk⟩, Mods.refl _ _⟩
theorem RSt.nope {base b : Nat} {v : Value} {w wr wx : World} {K : Bk} (h : RSt base b v w wr K) (hm : Mods Nope wr wx) : RSt base b v w wx K := by
  obtain ⟨v', h1, h2⟩ := h.ex
  exact ⟨⟨v', h1.nope hm, h2⟩, h.mods.then hm (fun _ _ h => h.elim)⟩
theorem IsRef.ne_row {w : World} {base b g e : Nat} {v : Value} {B : Bk} {cs : Array Value} {fr : Nat × Nat} (h : IsRef w base b v B) (hg : w.heap[g]? = some (.cells cs e fr)) (h1 : e ≠ 9) (h2 : e ≠ 38) : ¬ RB b v g := by
  rintro (rfl | hv)
  · obtain ⟨r, hr⟩ := h.row
    rw [hr] at hg
    injection hg with hg
    injection hg with _ ht
    exact h2 ht.symm
  · obtain ⟨n, xs, ho⟩ := h.owns
    exact own_ne_row ho hg (fun e => h1 e.symm) g hv rfl
theorem RSt.mark {base b : Nat} {v : Value} {w0 w : World} {K : Bk} (h : RSt base b v w0 w K) (s : ByteArray) (hL : K.len < 4398046511104) (hs : s.size ≤ 140737488351232) :
    Calls Try.prog 79 #[.pointer (some ⟨b, 0, none⟩), .string s] w fun e w' => e = .returned (.string (K.mark s)) ∧ RSt base b v w0 w' (K.add s) ∧ Keeps w w' := by
  obtain ⟨v1, h1, h2⟩ := h.ex
  refine (f79_calls base b v1 K s w h1 hL hs).mono ?_
  rintro e w' ⟨he, v2, h3, h4, h5⟩
  refine ⟨he, ⟨⟨v2, h3, fun k hk => ?_⟩, h.mods.then h4 (fun i hi hM => ?_)⟩, ⟨fun g cs e fr n1 n2 hg => h4.row hg (h1.ne_row hg n1 n2), h4.size⟩⟩
  · rcases h5 k hk with h6 | h6
    · exact h2 k h6
    · exact .inr (Nat.le_trans h.mods.size h6)
  · rcases hM with h6 | h6
    · exact .inl h6
    · rcases h2 i h6 with h7 | h7
      · exact .inr h7
      · exact absurd hi (Nat.not_lt.2 h7)
theorem RSt.rd {base b : Nat} {v : Value} {w0 w : World} {K : Bk} (h : RSt base b v w0 w K) {A : Option Addr} {vs : List Value} (hr : Rd w0 A vs) (hA : ∀ a, A = some a → ¬ RB b v a.block) : Rd w A vs := hr.mods h.mods hA
theorem own_cell {w : World} {base e size n c g o k : Nat} {xs : List Value} {u : Value} (h : w.ownsRow base e size (.slice (some ⟨g, o, none⟩) n c) n xs) (hu : xs[k]? = some u) : w.cell? ⟨g, o + k, none⟩ = some u := by
  obtain ⟨A, c', e, _, _, hr, _⟩ := Rd.of_owns h
  cases e
  obtain ⟨b, off, e, hc⟩ := hr k u hu
  cases e
  exact hc
/-- The marked ones of some blocks. -/
def fm (ms : List ByteArray) (mk : ByteArray) (l : List Int) : List Int := l.filter fun i => decide (ms.getD i.toNat ⟨#[]⟩ = mk)
theorem fm_cons (ms : List ByteArray) (mk : ByteArray) (i : Int) (l : List Int) : fm ms mk (i :: l) = if ms.getD i.toNat ⟨#[]⟩ = mk then i :: fm ms mk l else fm ms mk l := by
  unfold fm
  split
  · rw [List.filter_cons_of_pos (by simpa)]
  · rw [List.filter_cons_of_neg (by simpa)]
/-- What Match's loop holds. -/
structure MtAt (base b : Nat) (v : Value) (w0 w1 wr : World) (K K' : Bk) (s : ByteArray) (ms : List ByteArray) (wanted : Int) (fl : List Int) (k : Nat) (fv : Int) : Prop where
  st : RSt base b v w0 wr K'
  mark : K'.mark s = K.mark s
  add : K'.add s = K.add s
  len : K'.len ≤ K.len + 1
  first : k = fl.length → K' = K
  more : k < fl.length → K' = K.add s
  keeps : Keeps w1 wr
  no : wanted ∉ fm ms (K.mark s) (fl.drop k)
  first1 : fv = (fm ms (K.mark s) (fl.drop k)).headD (-1)
  lo : -1 ≤ fv
theorem box_cells {w : World} {g : Nat} {x0 x1 x2 x3 : Value} (h : w.heap[g]? = some (.cells #[x0, x1, x2, x3] 31 (0, 0))) : w.cell? ⟨g, 2, none⟩ = some x2 ∧ w.cell? ⟨g, 3, none⟩ = some x3 := ⟨by rw [row_cell h]; rfl, by rw [row_cell h]; rfl⟩
set_option maxRecDepth 100000 in
set_option maxHeartbeats 4000000 in
theorem f114_calls (base b blk n : Nat) (v : Value) (K : Bk) (A A' : Option Addr) (c c' l m : Nat) (ws : List Int) (ms : List ByteArray) (x : Int) (s : ByteArray) (wanted : Int) (w0 w : World)
    (hR : RSt base b v w0 w K) (hl : ws.length = l) (hm : ms.length = m) (hw : Rd w0 A (ints ws)) (hs : Rd w0 A' (strs ms)) (hA : ∀ a, A = some a → ¬ RB b v a.block) (hA' : ∀ a, A' = some a → ¬ RB b v a.block)
    (hL : K.len + 1 < 4398046511104) (hsz : s.size ≤ 524288) (h1 : 16 ≤ blk) (hn : n ≤ 524288) (hQl : n / blk ≤ l) (hQm : n / blk ≤ m) :
    Calls Try.prog 114 #[.pointer (some ⟨b, 0, none⟩), .agg #[.int .i64 blk, .int .i64 n, .slice A l c, .slice A' m c'], .int .i64 x, .string s, .int .i64 wanted] w
      fun e w' => e = .returned (.int .i64 (mtc ws ms (n / blk) blk K x s wanted)) ∧ RSt base b v w0 w' (mtcB ws (n / blk) blk K x s) ∧ Keeps w w' := by
  have HR := Lib.hid hR
  have HWS := Lib.hid hw
  have HMS := Lib.hid hs
  have HAI := Lib.hid hA
  have HAS := Lib.hid hA'
  have HLN := Lib.hid hL
  have HQM := Lib.hid hQm
  have HML := Lib.hid hm
  have HC := Lib.hid (fun wx (h : Rd wx A (ints ws)) => f58_calls blk n A A' c c' l m ws x wx hl h h1 hn hQl)
  have HFM := Lib.hid (fun i (hi : i ∈ fnd ws (n / blk) x) => fnd_mem hi)
  have hq2 : n / blk ≤ 524288 := Nat.le_trans (Nat.div_le_self n blk) hn
  have hfl : (fnd ws (n / blk) x).length ≤ 524288 := Nat.le_trans (fnd_len ws (n / blk) x) hq2
  have hs47 : s.size ≤ 140737488351232 := by omega
  clear hR hw hs hA hA' hL hl hm hQl hQm hq2
  obtain ⟨RV, hRV⟩ : ∃ RV, RV = mtc ws ms (n / blk) blk K x s wanted := ⟨_, rfl⟩
  obtain ⟨KB, hKB⟩ : ∃ KB, KB = mtcB ws (n / blk) blk K x s := ⟨_, rfl⟩
  rw [← hRV, ← hKB]
  have HRV := Lib.hid hRV
  have HKB := Lib.hid hKB
  unfold mtc at HRV
  unfold mtcB at HKB
  clear hRV hKB
  generalize n / blk = Q at *
  generalize fnd ws Q x = fl at *
  by_cases hsb : s.size = blk
  rotate_left
  · have hb : (((s.size : Nat) : Int) != ((blk : Nat) : Int)) = true := by simp; omega
    have HR1 : Hid (RV = -1) := by unfold Hid; rw [HRV.out, if_neg (fun h => hsb h.2)]
    have HK1 : Hid (KB = K) := by unfold Hid; rw [HKB.out, if_neg (fun h => hsb h.2)]
    clear hsb
    go_enter Try.func114, Try.ntmps114
    go_wp2
    go_ret
    obtain rfl := HR1.out; obtain rfl := HK1.out
    exact ⟨rfl, HR.out.nope ((Mods.refl _ _).alloc _), Keeps.nope ((Mods.refl _ _).alloc _)⟩
  have hb : (((s.size : Nat) : Int) != ((blk : Nat) : Int)) = false := by simp; omega
  have HR1 : Hid (RV = if wanted ∈ fm ms (K.mark s) fl then wanted else (fm ms (K.mark s) fl).headD (-1)) := by
    unfold Hid
    rw [HRV.out]
    by_cases h0 : fl = []
    · rw [if_neg (fun h => h.1 h0), h0]; simp [fm]
    · rw [if_pos ⟨h0, hsb⟩, mgo_eq _ _ (fun i hi => (HFM.out i hi).1), if_pos (show (-1 : Int) < 0 by decide)]; rfl
  have HK1 : Hid (KB = if fl = [] then K else K.add s) := by
    unfold Hid
    rw [HKB.out]
    by_cases h0 : fl = []
    · rw [if_neg (fun h => h.1 h0), if_pos h0]
    · rw [if_pos ⟨h0, hsb⟩, if_neg h0]
  clear hsb HRV HKB
  go_enter Try.func114, Try.ntmps114
  go_wp2_with fail
  have HBOX := Lib.hid (heap_alloc_new w (.cells #[.int .i64 blk, .int .i64 n, .slice A l c, .slice A' m c'] 31))
  have HRa := Lib.hid (HR.out.nope ((Mods.refl _ _).alloc (.cells #[.int .i64 blk, .int .i64 n, .slice A l c, .slice A' m c'] 31)))
  have HKa : Hid (Keeps w (w.alloc (.cells #[.int .i64 blk, .int .i64 n, .slice A l c, .slice A' m c'] 31))) := Keeps.nope ((Mods.refl _ _).alloc _)
  generalize w.alloc (.cells #[.int .i64 blk, .int .i64 n, .slice A l c, .slice A' m c'] 31) = wa at *
  refine (HC.out _ (HRa.out.rd HWS.out HAI.out)).mono ?_; rintro e w1 ⟨v1, rfl, ho1, hm1⟩
  have HO1 := Lib.hid ho1
  have HR2 := Lib.hid (HRa.out.nope hm1)
  have HK2 := Lib.hid (HKa.out.trans (Keeps.nope hm1))
  have HB2 := Lib.hid (hm1.row HBOX.out (fun h => h))
  generalize w.heap.size = gb at *
  clear ho1 hm1 HC HR HRa HKa HBOX
  obtain ⟨A1, c1, rfl, _, _, _, _⟩ := Rd.of_owns HO1.out
  go_wp2_with fail
  go_loopg [13, 12] fl.length (fun gk iv fvv wr => ∃ (k : Nat) (fv : Int) (K' : Bk), k ≤ fl.length ∧ gk = k ∧ iv = .int .i64 ((k : Int) - 1) ∧ fvv = .int .i64 fv ∧ MtAt base b v w0 w1 wr K K' s ms wanted fl k fv)
  case atStart => exact ⟨fl.length, -1, K, Nat.le_refl _, rfl, by go_num, rfl, ⟨HR2.out, rfl, rfl, by omega, fun _ => rfl, fun h => absurd h (Nat.lt_irrefl _), Keeps.refl _, by rw [List.drop_length]; simp [fm], by rw [List.drop_length]; simp [fm], by omega⟩⟩
  case round =>
    obtain ⟨k, fv, K', hk, hgk, rfl, rfl, hM⟩ := hrel
    have HM := Lib.hid hM
    have hlo := hM.lo
    clear hM
    rcases k with _ | k
    · have hi : ((0 : Nat) : Int) - 1 = -1 := rfl
      have HF : Hid (RV = fv) := by
        unfold Hid
        have h1 := HM.out.no
        have h2 := HM.out.first1
        rw [List.drop_zero] at h1 h2
        rw [HR1.out, if_neg h1, h2]
      have HKF : Hid (KB = K') := by
        unfold Hid
        rw [HK1.out]
        by_cases h0 : fl = []
        · rw [if_pos h0, HM.out.first (by rw [h0]; rfl)]
        · rw [if_neg h0, HM.out.more (List.length_pos_iff.2 h0)]
      go_wp2
      go_ret
      obtain rfl := HF.out; obtain rfl := HKF.out
      exact ⟨rfl, HM.out.st, HK2.out.trans HM.out.keeps⟩
    · have hki : ((k + 1 : Nat) : Int) - 1 = (k : Int) := by omega
      rw [hki]
      have hlt : k < fl.length := hk
      have HDR : Hid (fl.drop k = fl[k] :: fl.drop (k + 1)) := List.drop_eq_getElem_cons hlt
      have hmem : fl[k] ∈ fl := List.getElem_mem hlt
      have HOr := Lib.hid (HM.out.keeps.owns HO1.out (by decide) (by decide))
      obtain ⟨Ax, cx, ex, _, _, hrx, _⟩ := Rd.of_owns HOr.out
      injection ex with ex _ hcc
      subst ex
      subst hcc
      obtain ⟨g1, o1, hA1, hc1⟩ := hrx.int k hlt
      have HFD := Lib.hid (show fl[k] ∈ fm ms (K.mark s) fl ↔ ms.getD fl[k].toNat ⟨#[]⟩ = K.mark s from ⟨fun h => by unfold fm at h; simpa using (List.mem_filter.1 h).2, fun h => List.mem_filter.2 ⟨hmem, by simpa using h⟩⟩)
      generalize fl[k] = i at *
      obtain ⟨hi0, hiQ, _⟩ := HFM.out i hmem
      obtain ⟨j, rfl⟩ := Int.eq_ofNat_of_zero_le hi0
      have hjl : j < ms.length := by have := HQM.out; have := HML.out; omega
      obtain ⟨g2, o2, hA2, hc2⟩ := (HM.out.st.rd HMS.out HAS.out).str j hjl
      have hjm : ms[j] = ms.getD j ⟨#[]⟩ := by simp [List.getD_eq_getElem?_getD, hjl]
      rw [hjm] at hc2
      have hji : (j : Int) < (m : Int) := by have := HML.out; omega
      have hkii : (k : Int) < (fl.length : Int) := by omega
      have HIX : Hid ((ints fl)[k]? = some (.int .i64 (j : Int))) := by
        unfold Hid
        have h1 := List.getElem?_drop (xs := fl) (i := k) (j := 0)
        rw [HDR.out] at h1
        simp only [List.getElem?_cons_zero, Nat.add_zero] at h1
        rw [ints, List.getElem?_map, ← h1]
        rfl
      have HBr := Lib.hid (HM.out.keeps.row _ _ _ _ (by decide) (by decide) HB2.out)
      obtain ⟨b2, b3⟩ := box_cells HBr.out
      subst hA1
      subst hA2
      have HCMS : Hid (∀ wx, RSt base b v w0 wx (K.add s) → wx.cell? ⟨g2, o2 + j, none⟩ = some (.string (ms.getD j ⟨#[]⟩))) := fun wx h => by
        obtain ⟨b', o', e, hc⟩ := (h.rd HMS.out HAS.out).str j hjl
        cases e
        rw [hjm] at hc
        exact hc
      have HMK : Hid (∀ wx, RSt base b v w0 wx K' → Calls Try.prog 79 #[.pointer (some ⟨b, 0, none⟩), .string s] wx fun e w' => e = .returned (.string (K.mark s)) ∧ RSt base b v w0 w' (K.add s) ∧ Keeps wx w') := fun wx h => by
        have h2 := h.mark s (by have := HM.out.len; have := HLN.out; omega) hs47
        rw [HM.out.mark, HM.out.add] at h2
        exact h2
      have HFC := Lib.hid (fm_cons ms (K.mark s) (j : Int) (fl.drop (k + 1)))
      have HRST : Hid (RSt base b v w0 wr K') := Lib.hid HM.out.st
      have HMS2 := Lib.hid (K.mark_self s)
      have HLA := Lib.hid (K.len_add s)
      have HAA := Lib.hid (K.add_add s)
      have HNX : Hid (∀ (wx : World) (fv' : Int), RSt base b v w0 wx (K.add s) → Keeps wr wx → wanted ∉ fm ms (K.mark s) (fl.drop k) → fv' = (fm ms (K.mark s) (fl.drop k)).headD (-1) → -1 ≤ fv' → MtAt base b v w0 w1 wx K (K.add s) s ms wanted fl k fv') :=
        fun wx fv' h1 h2 h3 h4 h5 => ⟨h1, HMS2.out, HAA.out, HLA.out, fun e => absurd e (by omega), fun _ => rfl, HM.out.keeps.trans h2, h3, h4, h5⟩
      have hno := HM.out.no
      have hf1 := HM.out.first1
      rw [Int.toNat_natCast] at HFD HFC
      rw [← HDR.out] at HFC
      have HNO := Lib.hid hno
      have HF1 := Lib.hid hf1
      clear hmem hi0 hiQ hjm hrx hjl hno hf1
      go_upto_region 8 with fail
      generalize ms.getD j ⟨#[]⟩ = t at *
      by_cases he : t = K.mark s
      · have hse : (t.toList == (K.mark s).toList) = true := str_eq he
        rw [if_pos he] at HFC
        have HIN := Lib.hid (HFD.out.2 he)
        by_cases hw : (j : Int) = wanted
        · have hwb : ((j : Int) == wanted) = true := by simp [hw]
          have HF : Hid (RV = wanted) := by unfold Hid; rw [HR1.out, if_pos (hw ▸ HIN.out)]
          have HKF : Hid (KB = K.add s) := by unfold Hid; rw [HK1.out, if_neg (fun h0 => by rw [h0] at hlt; simp at hlt)]
          clear hw he
          generalize K.mark s = mk at *
          go_region_held3 (fun w' => w'.cell? ⟨gb, 3, none⟩ = some (.slice (some ⟨g2, o2, none⟩) m c') ∧ w'.cell? ⟨g1, o1 + k, none⟩ = some (.int .i64 j) ∧ w'.cell? ⟨g2, o2 + j, none⟩ = some (.string t)) (go_keep)
            (first
              | (go_at_call 79; refine (HMK.out _ (HRST.out.nope (by repeat (with_reducible first | exact Mods.refl _ _ | apply Mods.drew | apply Mods.drewN)))).mono ?_; rintro e w3 ⟨rfl, hb3, hk3⟩
                 have HRST3 := Lib.hid hb3
                 have HK3 : Hid (Keeps wr w3) := Keeps.trans (Keeps.nope (by repeat (with_reducible first | exact Mods.refl _ _ | apply Mods.drew | apply Mods.drewN))) hk3
                 have hx1 : w3.cell? ⟨gb, 3, none⟩ = some (.slice (some ⟨g2, o2, none⟩) m c') := (box_cells (HK3.out.row _ _ _ _ (by decide) (by decide) HBr.out)).2
                 have hx2 : w3.cell? ⟨g1, o1 + k, none⟩ = some (.int .i64 j) := own_cell (HK3.out.owns HOr.out (by decide) (by decide)) HIX.out
                 have hx3 : w3.cell? ⟨g2, o2 + j, none⟩ = some (.string t) := HCMS.out _ HRST3.out
                 clear hb3 hk3))
          go_wp2
          go_ret
          obtain rfl := HF.out; obtain rfl := HKF.out
          exact ⟨rfl, HRST3.out, HK2.out.trans (HM.out.keeps.trans HK3.out)⟩
        · have hwb : ((j : Int) == wanted) = false := by simpa using hw
          have HNX2 : Hid (∀ w3, RSt base b v w0 w3 (K.add s) → Keeps wr w3 → MtAt base b v w0 w1 w3 K (K.add s) s ms wanted fl k (j : Int)) := fun w3 h1 h2 => HNX.out w3 (j : Int) h1 h2 (by rw [HFC.out, List.mem_cons, not_or]; exact ⟨fun e => hw e.symm, HNO.out⟩) (by rw [HFC.out]; rfl) (by omega)
          clear hw he
          generalize K.mark s = mk at *
          go_region_held3 (fun w' => w'.cell? ⟨gb, 3, none⟩ = some (.slice (some ⟨g2, o2, none⟩) m c') ∧ w'.cell? ⟨g1, o1 + k, none⟩ = some (.int .i64 j) ∧ w'.cell? ⟨g2, o2 + j, none⟩ = some (.string t)) (go_keep)
            (first
              | (go_at_call 79; refine (HMK.out _ (HRST.out.nope (by repeat (with_reducible first | exact Mods.refl _ _ | apply Mods.drew | apply Mods.drewN)))).mono ?_; rintro e w3 ⟨rfl, hb3, hk3⟩
                 have HRST3 := Lib.hid hb3
                 have HK3 : Hid (Keeps wr w3) := Keeps.trans (Keeps.nope (by repeat (with_reducible first | exact Mods.refl _ _ | apply Mods.drew | apply Mods.drewN))) hk3
                 have hx1 : w3.cell? ⟨gb, 3, none⟩ = some (.slice (some ⟨g2, o2, none⟩) m c') := (box_cells (HK3.out.row _ _ _ _ (by decide) (by decide) HBr.out)).2
                 have hx2 : w3.cell? ⟨g1, o1 + k, none⟩ = some (.int .i64 j) := own_cell (HK3.out.owns HOr.out (by decide) (by decide)) HIX.out
                 have hx3 : w3.cell? ⟨g2, o2 + j, none⟩ = some (.string t) := HCMS.out _ HRST3.out
                 clear hb3 hk3))
          go_wp2_with fail
          go_roundg k
          case measure => omega
          case rel => exact ⟨k, j, K.add s, Nat.le_of_lt hlt, rfl, by go_num, rfl, HNX2.out _ HRST3.out HK3.out⟩
      · have hse : (t.toList == (K.mark s).toList) = false := str_ne he
        rw [if_neg he] at HFC
        have HNX2 : Hid (∀ w3, RSt base b v w0 w3 (K.add s) → Keeps wr w3 → MtAt base b v w0 w1 w3 K (K.add s) s ms wanted fl k fv) := fun w3 h1 h2 => HNX.out w3 fv h1 h2 (by rw [HFC.out]; exact HNO.out) (by rw [HFC.out]; exact HF1.out) hlo
        clear he
        generalize K.mark s = mk at *
        go_region_held3 (fun w' => w'.cell? ⟨gb, 3, none⟩ = some (.slice (some ⟨g2, o2, none⟩) m c') ∧ w'.cell? ⟨g1, o1 + k, none⟩ = some (.int .i64 j) ∧ w'.cell? ⟨g2, o2 + j, none⟩ = some (.string t)) (go_keep)
          (first
            | (go_at_call 79; refine (HMK.out _ (HRST.out.nope (by repeat (with_reducible first | exact Mods.refl _ _ | apply Mods.drew | apply Mods.drewN)))).mono ?_; rintro e w3 ⟨rfl, hb3, hk3⟩
               have HRST3 := Lib.hid hb3
               have HK3 : Hid (Keeps wr w3) := Keeps.trans (Keeps.nope (by repeat (with_reducible first | exact Mods.refl _ _ | apply Mods.drew | apply Mods.drewN))) hk3
               have hx1 : w3.cell? ⟨gb, 3, none⟩ = some (.slice (some ⟨g2, o2, none⟩) m c') := (box_cells (HK3.out.row _ _ _ _ (by decide) (by decide) HBr.out)).2
               have hx2 : w3.cell? ⟨g1, o1 + k, none⟩ = some (.int .i64 j) := own_cell (HK3.out.owns HOr.out (by decide) (by decide)) HIX.out
               have hx3 : w3.cell? ⟨g2, o2 + j, none⟩ = some (.string t) := HCMS.out _ HRST3.out
               clear hb3 hk3))
        go_wp2_with fail
        go_roundg k
        case measure => omega
        case rel => exact ⟨k, fv, K.add s, Nat.le_of_lt hlt, rfl, by go_num, rfl, HNX2.out _ HRST3.out HK3.out⟩
end Go.Proofs.Ytblhbbgkkijkfaa
