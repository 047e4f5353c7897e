/- The document's side of marks: barqueref03.Number, (*Book).place, Mark, walked. -/
import Derived.Test.YtblhbbgkkijkfaaC3
namespace Go.Proofs.Ytblhbbgkkijkfaa
open Go.RowKit Go.Maps
/-- The first j bytes of a number's mark. -/
def nb (n j : Nat) : List Int := (List.range j).map fun i => ((n / 2 ^ (8 * (i % 8)) % 256 : Nat) : Int)
theorem nb_length (n j : Nat) : (nb n j).length = j := by simp [nb]
theorem nb_snoc (n j : Nat) : nb n (j + 1) = nb n j ++ [((n / 2 ^ (8 * (j % 8)) % 256 : Nat) : Int)] := by simp [nb, List.range_succ]
theorem bytesV_append (xs ys : List Int) : bytesV (xs ++ ys) = bytesV xs ++ bytesV ys := by simp [bytesV]
structure NumAt (n : Nat) (w wr : World) (j : Nat) (v : Value) : Prop where
  own : wr.ownsRow w.heap.size 5 1 v j (bytesV (nb n j))
  mods : Mods Nope w wr
theorem NumAt.add {n j : Nat} {w wr wx w1 : World} {v nv : Value} (h : NumAt n w wr j v) (hm : Mods Nope wr wx) (hg : wx.grownBy w1 v.ownBlock)
    (ho : w1.ownsRow w.heap.size 5 1 nv (j + 1) (bytesV (nb n j) ++ [.int .u8 ((n / 2 ^ (8 * (j % 8)) % 256 : Nat) : Int)])) : NumAt n w w1 (j + 1) nv := by
  refine ⟨?_, ?_⟩
  · rw [nb_snoc, bytesV_append]; exact ho
  · have hs := h.mods.size
    exact (h.mods.trans hm).grown hg (fun k hk hl => by have := (h.own.lt k hk).1; omega)
set_option maxHeartbeats 1000000 in
theorem f121_calls (n : Nat) (w : World) (hn : n ≤ 1125899906842624) :
    Calls Try.prog 121 #[.int .i64 n] w fun e w' => e = .returned (.string (mark n)) ∧ Mods Nope w w' := by
  have HN := Lib.hid hn
  clear hn
  go_enter Try.func121, Try.ntmps121
  go_wp2_with fail
  go_loopg [4, 3] 4 (fun gk i v wr => ∃ k : Nat, k ≤ 4 ∧ gk = 4 - k ∧ i = .int .i64 (k : Nat) ∧ NumAt n w wr (8 * k) v)
  case atStart => exact ⟨0, by omega, rfl, rfl, World.ownsRow_nil _ _ _ _, Mods.refl _ _⟩
  case round =>
    obtain ⟨k, hk, rfl, rfl, hN⟩ := hrel
    by_cases hlt : k < 4
    · have HA := Lib.hid hN
      have HK : Hid (k < 4) := hlt
      clear hN
      have hd : decide ((k : Int) < 4) = true := by simp; omega
      obtain ⟨wo, rfl⟩ : ∃ wo : World, wo = wr := ⟨_, rfl⟩
      go_wp2_with fail
      go_loopg [6, 5, 3] 8 (fun gj i x v wr => ∃ (j : Nat) (X : Nat), j ≤ 8 ∧ gj = 8 - j ∧ i = .int .i64 (j : Nat) ∧ x = .int .i64 (X : Nat) ∧ X = n / 2 ^ (8 * j) ∧ NumAt n w wr (8 * k + j) v)
      case atStart => exact ⟨0, n, by omega, rfl, rfl, rfl, by simp, HA.out⟩
      case round =>
        obtain ⟨j, X, hj, rfl, rfl, rfl, hX, hN⟩ := hrel
        have HX := Lib.hid hX
        have hXb : (X : Int) ≤ 1125899906842624 := by have := HN.out; have := Nat.div_le_self n (2 ^ (8 * j)); rw [← hX] at this; omega
        have HB := Lib.hid hN
        clear hX hN
        by_cases hlj : j < 8
        · have HJ : Hid (j < 8) := hlj
          have HWL := Lib.hid (show (bytesV (nb n (8 * k + j))).length = 8 * k + j by rw [bytesV_length, nb_length])
          have HO := Lib.hid (show wr.ownsRow w.heap.size 5 1 ?v (bytesV (nb n (8 * k + j))).length (bytesV (nb n (8 * k + j))) by rw [HWL.out]; exact HB.out.own)
          have HV : Hid (((n / 2 ^ (8 * ((8 * k + j) % 8)) % 256 : Nat) : Int) = (X : Int) % 256) := by
            unfold Hid
            rw [HX.out, show (8 * k + j) % 8 = j by omega]
            omega
          have hz : w.heap.size ≤ wr.heap.size := HB.out.mods.size
          go_wp2_with (at_builtin; refine wpList_app1 _ rfl _ _ 89 5 (.int .u8 0) 1 rfl Try.underlying89 info5 rfl (by decide) _ (bytesV (nb n (8 * k + j))) (.int .u8 ((X : Int) % 256)) _ rfl rfl (by simp) rfl w.heap.size (by exact HO.out.alloc _) (by simp; omega) (by rw [HWL.out]; omega) ?_)
          intro g cap w1 hown1 hg1 _
          rw [HWL.out] at hown1 ⊢
          have HA1 := Lib.hid (HB.out.add ((Mods.refl _ _).alloc _) hg1 (by rw [HV.out]; exact hown1))
          have HX1 : Hid (X / 256 = n / 2 ^ (8 * (j + 1))) := by
            unfold Hid
            rw [HX.out, Nat.mul_add, Nat.pow_add, ← Nat.div_div_eq_div_mul]
          clear hown1 hg1
          go_wp2_with fail
          go_roundg (8 - (j + 1))
          case measure => have := HJ.out; omega
          case rel => exact ⟨j + 1, X / 256, HJ.out, rfl, by go_num, by go_num, HX1.out, HA1.out⟩
        · obtain rfl : j = 8 := by omega
          go_wp2_with fail
          go_roundg (4 - (k + 1))
          case measure => have := HK.out; omega
          case rel => exact ⟨k + 1, HK.out, rfl, by go_num, HB.out⟩
    · obtain rfl : k = 4 := by omega
      have hown := hN.own
      obtain ⟨g, cap, rfl, _, _⟩ := hown.form (by omega)
      have hcv := run_convert_bytes_arg (P := Try.prog) wr 89 5 Try.underlying89 Try.underlying5 g 0 32 cap (nb n 32) (nb_length n 32) (fun i hi => by
        have := hown.cellAt i (by omega)
        rw [Nat.zero_add, this]
        simp [bytesV, nb, hi]) 9 Try.underlying9
      have HM := Lib.hid hN.mods
      clear hN hown
      go_wp2
      go_ret
      exact ⟨rfl, HM.out⟩
theorem f121_int (x : Int) (n : Nat) (w : World) (h : x = n) (hn : n ≤ 1125899906842624) :
    Calls Try.prog 121 #[.int .i64 x] w fun e w' => e = .returned (.string (mark n)) ∧ Mods Nope w w' := by
  subst h
  exact f121_calls n w hn

/-! ### The document's book -/
/-- What the document's sum does. -/
def RSums (f : ByteArray → ByteArray) : Prop :=
  ∀ (s : ByteArray) (w : World), s.size ≤ 140737488351232 → Calls Try.prog 73 #[.string s] w fun e w' => e = .returned (.string (f s)) ∧ Mods Nope w w'
/-- b is the block of a book of the document's; v the list of what it has seen. -/
def IsRef (w : World) (base b : Nat) (v : Value) : Bk → Prop
  | .ideal L => base ≤ b ∧ w.heap[b]? = some (.cells #[.bool false, v] 38 (0, 0)) ∧ w.ownsRow base 9 1 v L.length (strs L)
  | .real f => base ≤ b ∧ w.heap[b]? = some (.cells #[.bool true, v] 38 (0, 0)) ∧ v = .slice none 0 0 ∧ RSums f
theorem IsRef.row {w : World} {base b : Nat} {v : Value} {B : Bk} (h : IsRef w base b v B) : ∃ r, w.heap[b]? = some (.cells #[.bool r, v] 38 (0, 0)) := by
  cases B with
  | ideal L => exact ⟨_, h.2.1⟩
  | real f => exact ⟨_, h.2.1⟩
theorem IsRef.own_lt {w : World} {base b : Nat} {v : Value} {B : Bk} (h : IsRef w base b v B) : ∀ k, v.ownBlock = some k → base ≤ k ∧ k < w.heap.size := by
  cases B with
  | ideal L => exact h.2.2.lt
  | real f => intro k hk; rw [h.2.2.1] at hk; simp [Value.ownBlock] at hk
theorem IsRef.base_le {w : World} {base b : Nat} {v : Value} {B : Bk} (h : IsRef w base b v B) : base ≤ b := by
  cases B with
  | ideal L => exact h.1
  | real f => exact h.1
theorem IsRef.lt {w : World} {base b : Nat} {v : Value} {B : Bk} (h : IsRef w base b v B) : b < w.heap.size := by
  obtain ⟨r, h⟩ := h.row
  exact row_lt h
/-- Its list's row, whatever the book. -/
theorem IsRef.owns {w : World} {base b : Nat} {v : Value} {B : Bk} (h : IsRef w base b v B) : ∃ n xs, w.ownsRow base 9 1 v n xs := by
  cases B with
  | ideal L => exact ⟨_, _, h.2.2⟩
  | real f => exact ⟨0, [], by rw [h.2.2.1]; exact World.ownsRow_nil _ _ _ _⟩
/-- Which blocks marking may change. -/
def RB (b : Nat) (v : Value) (k : Nat) : Prop := k = b ∨ v.ownBlock = some k
theorem IsRef.mods {M : Nat → Prop} {w w' : World} {base b : Nat} {v : Value} {B : Bk} (h : IsRef w base b v B) (hm : Mods M w w') (hb : ¬ M b) (hv : ∀ k, v.ownBlock = some k → ¬ M k) : IsRef w' base b v B := by
  cases B with
  | ideal L => exact ⟨h.1, hm.row h.2.1 hb, hm.owns h.2.2 hv⟩
  | real f => exact ⟨h.1, hm.row h.2.1 hb, h.2.2.1, h.2.2.2⟩
theorem IsRef.nope {w w' : World} {base b : Nat} {v : Value} {B : Bk} (h : IsRef w base b v B) (hm : Mods Nope w w') : IsRef w' base b v B := h.mods hm (fun h => h) (fun _ _ h => h)

theorem toList_inj {a b : ByteArray} (h : a.toList = b.toList) : a = b := by
  rw [ByteArray.toList_eq, ByteArray.toList_eq] at h
  cases a; cases b
  simpa using h
theorem str_eq {a b : ByteArray} (h : a = b) : (a.toList == b.toList) = true := by subst h; simp
theorem str_ne {a b : ByteArray} (h : a ≠ b) : (a.toList == b.toList) = false := by
  rw [beq_eq_false_iff_ne]
  exact fun e => h (toList_inj e)
/-- What place answers. -/
def placeR (s : ByteArray) (L : List ByteArray) : Int := if place s L < L.length then (place s L : Int) else -1
theorem place_stop {s : ByteArray} : ∀ {L : List ByteArray} {k : Nat} (hk : k < L.length), k ≤ place s L → L[k] = s → place s L = k
  | [], k, hk, _, _ => by simp at hk
  | t :: l, 0, _, _, h => by simp only [List.getElem_cons_zero] at h; simp [place, h]
  | t :: l, k + 1, hk, hp, h => by
    simp only [place] at hp ⊢
    split at hp
    · omega
    · rename_i hne
      rw [if_neg hne, place_stop (L := l) (by simpa using hk) (by omega) (by simpa using h)]
theorem place_more {s : ByteArray} : ∀ {L : List ByteArray} {k : Nat} (hk : k < L.length), k ≤ place s L → L[k] ≠ s → k + 1 ≤ place s L
  | [], k, hk, _, _ => by simp at hk
  | t :: l, 0, _, _, h => by simp only [List.getElem_cons_zero] at h; simp only [place, if_neg h]; omega
  | t :: l, k + 1, hk, hp, h => by
    simp only [place] at hp ⊢
    split at hp
    · omega
    · rename_i hne
      rw [if_neg hne]
      have := place_more (s := s) (L := l) (k := k) (by simpa using hk) (by omega) (by simpa using h)
      omega
set_option maxHeartbeats 1000000 in
theorem f120_calls (base b : Nat) (v : Value) (L : List ByteArray) (s : ByteArray) (w : World) (h : IsRef w base b v (.ideal L)) (hL : L.length ≤ 1125899906842624) :
    Calls Try.prog 120 #[.pointer (some ⟨b, 0, none⟩), .string s] w fun e w' => e = .returned (.int .i64 (placeR s L)) ∧ w' = w := by
  obtain ⟨_, hrow, hown⟩ := h
  obtain ⟨A, c, rfl, hc1, hc2, hrd, _⟩ := Rd.of_owns hown
  have c0 : w.cell? ⟨b, 1, none⟩ = some (.slice A L.length c) := by rw [row_cell hrow]; rfl
  have HRD := Lib.hid hrd
  have HL := Lib.hid hL
  clear hrow hown hrd hL hc1 hc2
  go_enter Try.func120, Try.ntmps120
  go_wp2_with fail
  go_loop [5] (fun i => ∃ k : Nat, k ≤ L.length ∧ i = .int .i64 k ∧ k ≤ place s L) (fun i => L.length - (intOf i).toNat)
  case atStart => exact ⟨0, Nat.zero_le _, rfl, Nat.zero_le _⟩
  case round =>
    obtain ⟨k, hk, rfl, hp⟩ := hrel
    by_cases hlt : k < L.length
    · obtain ⟨g, off, hA, hcell⟩ := HRD.out.str k hlt
      have hki : (k : Int) ≤ 1125899906842624 := by have := HL.out; omega
      subst hA
      by_cases e : L[k] = s
      · have hb := str_eq e
        have HP := Lib.hid (place_stop hlt hp e)
        go_wp2
        go_ret
        exact ⟨ret_int (by unfold placeR; rw [HP.out, if_pos hlt]), rfl⟩
      · have hb := str_ne e
        have HP := Lib.hid (place_more hlt hp e)
        go_wp2
        go_round
        case rel => exact ⟨k + 1, by omega, by go_num, HP.out⟩
        case measure => simp [intOf]; omega
    · go_wp2
      go_ret
      exact ⟨ret_int (by unfold placeR; rw [if_neg (by omega)]), rfl⟩

theorem grown_row2 {w w1 : World} {row : Option Nat} {g : Nat} {o : Obj} (h : w.grownBy w1 row) (hg : w.heap[g]? = some o) (hne : ∀ k, row = some k → k ≠ g) : w1.heap[g]? = some o :=
  (h.block g (row_lt hg) (fun e => hne g e.symm rfl)).trans hg
set_option maxRecDepth 100000 in
set_option maxHeartbeats 1000000 in
theorem f79_ideal (base b : Nat) (v : Value) (L : List ByteArray) (s : ByteArray) (w : World) (h : IsRef w base b v (.ideal L)) (hL : L.length < 4398046511104) :
    Calls Try.prog 79 #[.pointer (some ⟨b, 0, none⟩), .string s] w fun e w' =>
      e = .returned (.string ((Bk.ideal L).mark s)) ∧ ∃ v', IsRef w' base b v' ((Bk.ideal L).add s) ∧ Mods (RB b v) w w' ∧ (∀ k, v'.ownBlock = some k → v.ownBlock = some k ∨ w.heap.size ≤ k) := by
  have HI := Lib.hid h
  obtain ⟨hbb, hrow, hown⟩ := h
  have c0 : w.cell? ⟨b, 0, none⟩ = some (.bool false) := by rw [row_cell hrow]; rfl
  have HL := Lib.hid hL
  have HR := Lib.hid hrow
  have HO := Lib.hid hown
  clear hL hrow
  obtain ⟨A, c, rfl, hc1, hc2, hrd, _⟩ := Rd.of_owns hown
  have c1 : w.cell? ⟨b, 1, none⟩ = some (.slice A L.length c) := by rw [row_cell HR.out]; rfl
  clear hown hrd hc1 hc2
  go_enter Try.func79, Try.ntmps79
  go_wp2_with fail
  refine (f120_calls base b _ L s _ HI.out (by have := HL.out; omega)).mono ?_; rintro e w1 ⟨rfl, rfl⟩
  by_cases hin : place s L < L.length
  · have HP := Lib.hid hin
    have hr : placeR s L = (place s L : Int) := by rw [placeR, if_pos hin]
    rw [hr]
    clear hr hin
    have hki : (place s L : Int) ≤ 1125899906842624 := by have := HL.out; have := HP.out; omega
    go_wp2_with fail
    refine (f121_int _ (place s L + 1) _ (by omega) (by have := HL.out; have := HP.out; omega)).mono ?_; rintro e w2 ⟨rfl, h2⟩
    go_wp2
    go_ret
    refine ⟨rfl, _, ?_, h2.any _, fun k hk => .inl hk⟩
    have := HI.out.nope h2
    simpa only [Bk.add, HP.out, if_true] using this
  · have HP := Lib.hid hin
    have hr : placeR s L = -1 := by rw [placeR, if_neg hin]
    rw [hr]
    clear hr hin
    have hki : (L.length : Int) ≤ 1125899906842624 := by have := HL.out; omega
    have hff : w1.frozen? ⟨b, 1, none⟩ = false := row_frozen HR.out 1
    have HWL := Lib.hid (show (strs L).length = L.length by rw [strs_length])
    have HOO := Lib.hid (show w1.ownsRow base 9 1 (.slice A L.length c) (strs L).length (strs L) by rw [HWL.out]; exact HO.out)
    have hz : base ≤ w1.heap.size := Nat.le_trans hbb (Nat.le_of_lt (row_lt HR.out))
    go_wp2_with (at_builtin; refine wpList_app1 _ rfl _ _ 29 9 (.string ⟨#[]⟩) 16 rfl Try.underlying29 info9 rfl (by decide) _ (strs L) (.string s) _ rfl rfl (by simp) rfl base (by exact HOO.out.alloc _) (by simp; omega) (by rw [HWL.out]; have := HL.out; omega) ?_)
    intro g cap w2 hown2 hg2 hat2
    rw [HWL.out] at hown2 ⊢
    have hG := grown_row2 hg2 (row_alloc HR.out _) (own_ne_row HO.out HR.out (by decide))
    have HG := Lib.hid hG
    have hc1' : w2.cell? ⟨b, 1, none⟩ = some (.slice A L.length c) := by rw [row_cell hG]; rfl
    have hf1' : w2.frozen? ⟨b, 1, none⟩ = false := row_frozen hG 1
    have HO2 := Lib.hid hown2
    have HM2 : Hid (Mods (RB b (.slice A L.length c)) w1 w2) := ((Mods.refl _ w1).alloc _).grown hg2 (fun k hk _ => .inr hk)
    have HT2 := Lib.hid hat2
    clear hG hown2 hg2 hat2
    go_wp2_with fail
    refine (f121_int _ (L.length + 1) _ (by omega) (by have := HL.out; omega)).mono ?_; rintro e w3 ⟨rfl, h3⟩
    go_wp2
    go_ret
    have hnl : place s L = L.length := by have := place_le s L; have := HP.out; omega
    refine ⟨ret_str (by rw [Bk.mark, hnl]), .slice (some ⟨g, 0, none⟩) (L.length + 1) cap, ?_, ?_, ?_⟩
    · have hI : IsRef (w2.setCell ⟨b, 1, none⟩ (.slice (some ⟨g, 0, none⟩) (L.length + 1) cap)) base b (.slice (some ⟨g, 0, none⟩) (L.length + 1) cap) ((Bk.ideal L).add s) := by
        simp only [Bk.add, HP.out, if_false, IsRef]
        refine ⟨hbb, row_set HG.out 1 _, ?_⟩
        rw [strs_append, show (L ++ [s]).length = L.length + 1 by simp]
        exact ((Mods.refl (fun j => j = b) w2).setCell ⟨b, 1, none⟩ (fun _ => rfl) _).owns HO2.out (fun j hj e => own_ne_row HO2.out HG.out (by decide) j hj e)
      exact hI.nope h3
    · exact (HM2.out.setCell _ (fun _ => .inl rfl) _).then h3 (fun _ _ h => h.elim)
    · intro k hk
      have hk' : g = k := by simpa [Value.ownBlock] using hk
      subst hk'
      rcases HT2.out with h | h
      · exact .inl h
      · exact .inr (by first | omega | (simp at h; omega))

set_option maxHeartbeats 1000000 in
theorem f79_real (base b : Nat) (v : Value) (f : ByteArray → ByteArray) (s : ByteArray) (w : World) (h : IsRef w base b v (.real f)) (hs : s.size ≤ 140737488351232) :
    Calls Try.prog 79 #[.pointer (some ⟨b, 0, none⟩), .string s] w fun e w' => e = .returned (.string (f s)) ∧ Mods Nope w w' := by
  obtain ⟨_, hrow, rfl, hsum⟩ := h
  have c0 : w.cell? ⟨b, 0, none⟩ = some (.bool true) := by rw [row_cell hrow]; rfl
  have HC := Lib.hid (hsum s w hs)
  clear hrow hsum hs
  go_enter Try.func79, Try.ntmps79
  go_wp2_with fail
  refine HC.out.mono ?_; rintro e w1 ⟨rfl, h1⟩
  go_wp2
  go_ret
  exact ⟨rfl, h1⟩
/-- The document's marking, whatever the book. -/
theorem f79_calls (base b : Nat) (v : Value) (B : Bk) (s : ByteArray) (w : World) (h : IsRef w base b v B) (hL : B.len < 4398046511104) (hs : s.size ≤ 140737488351232) :
    Calls Try.prog 79 #[.pointer (some ⟨b, 0, none⟩), .string s] w fun e w' =>
      e = .returned (.string (B.mark s)) ∧ ∃ v', IsRef w' base b v' (B.add s) ∧ Mods (RB b v) w w' ∧ (∀ k, v'.ownBlock = some k → v.ownBlock = some k ∨ w.heap.size ≤ k) := by
  cases B with
  | ideal L => exact f79_ideal base b v L s w h hL
  | real f => exact (f79_real base b v f s w h hs).mono fun e w' ⟨he, hm⟩ => ⟨he, v, h.nope hm, hm.any _, fun k hk => .inl hk⟩
end Go.Proofs.Ytblhbbgkkijkfaa
