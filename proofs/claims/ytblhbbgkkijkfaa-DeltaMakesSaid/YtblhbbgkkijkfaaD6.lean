/- The document's side of marks: barqueref03.Number, (*Book).place, Mark, walked. barqueref04.Sum, barqueref05.Blocks, the laws' own cut and ints, walked. barqueref05.Blocks, the laws' ints, walked. barqueref05.Sign, walked. sign.Right, walked. Forms of contracts with the lengths as letters; barqueref05.Sign where the size of blocks may not be. -/
import Derived.Test.YtblhbbgkkijkfaaC4
namespace Go.Proofs.Ytblhbbgkkijkfaa
open Go.RowKit Go.Maps
/-- The first j bytes of a number's mark. -/
def nb (n j : Nat) : List Int := (List.range j).map fun i => ((n / 2 ^ (8 * (i % 8)) % 256 : Nat) : Int)
theorem nb_length (n j : Nat) : (nb n j).length = j := by simp [nb]
theorem nb_snoc (n j : Nat) : nb n (j + 1) = nb n j ++ [((n / 2 ^ (8 * (j % 8)) % 256 : Nat) : Int)] := by simp [nb, List.range_succ]
theorem bytesV_append (xs ys : List Int) : bytesV (xs ++ ys) = bytesV xs ++ bytesV ys := by simp [bytesV]
structure NumAt (n : Nat) (w wr : World) (j : Nat) (v : Value) : Prop where
  own : wr.ownsRow w.heap.size 5 1 v j (bytesV (nb n j))
  mods : Mods Nope w wr
theorem NumAt.add {n j : Nat} {w wr wx w1 : World} {v nv : Value} (h : NumAt n w wr j v) (hm : Mods Nope wr wx) (hg : wx.grownBy w1 v.ownBlock)
    (ho : w1.ownsRow w.heap.size 5 1 nv (j + 1) (bytesV (nb n j) ++ [.int .u8 ((n / 2 ^ (8 * (j % 8)) % 256 : Nat) : Int)])) : NumAt n w w1 (j + 1) nv := by
  refine ⟨?_, ?_⟩
  · rw [nb_snoc, bytesV_append]; exact ho
  · have hs := h.mods.size
    exact (h.mods.trans hm).grown hg (fun k hk hl => by have := (h.own.lt k hk).1; omega)
set_option maxHeartbeats 1000000 in
theorem f121_calls (n : Nat) (w : World) (hn : n ≤ 1125899906842624) :
    Calls Try.prog 121 #[.int .i64 n] w fun e w' => e = .returned (.string (mark n)) ∧ Mods Nope w w' := by
  have HN := Lib.hid hn
  clear hn
  go_enter Try.func121, Try.ntmps121
  go_wp2_with fail
  go_loopg [4, 3] 4 (fun gk i v wr => ∃ k : Nat, k ≤ 4 ∧ gk = 4 - k ∧ i = .int .i64 (k : Nat) ∧ NumAt n w wr (8 * k) v)
  case atStart => exact ⟨0, by omega, rfl, rfl, World.ownsRow_nil _ _ _ _, Mods.refl _ _⟩
  case round =>
    obtain ⟨k, hk, rfl, rfl, hN⟩ := hrel
    by_cases hlt : k < 4
    · have HA := Lib.hid hN
      have HK : Hid (k < 4) := hlt
      clear hN
      have hd : decide ((k : Int) < 4) = true := by simp; omega
      obtain ⟨wo, rfl⟩ : ∃ wo : World, wo = wr := ⟨_, rfl⟩
      go_wp2_with fail
      go_loopg [6, 5, 3] 8 (fun gj i x v wr => ∃ (j : Nat) (X : Nat), j ≤ 8 ∧ gj = 8 - j ∧ i = .int .i64 (j : Nat) ∧ x = .int .i64 (X : Nat) ∧ X = n / 2 ^ (8 * j) ∧ NumAt n w wr (8 * k + j) v)
      case atStart => exact ⟨0, n, by omega, rfl, rfl, rfl, by simp, HA.out⟩
      case round =>
        obtain ⟨j, X, hj, rfl, rfl, rfl, hX, hN⟩ := hrel
        have HX := Lib.hid hX
        have hXb : (X : Int) ≤ 1125899906842624 := by have := HN.out; have := Nat.div_le_self n (2 ^ (8 * j)); rw [← hX] at this; omega
        have HB := Lib.hid hN
        clear hX hN
        by_cases hlj : j < 8
        · have HJ : Hid (j < 8) := hlj
          have HWL := Lib.hid (show (bytesV (nb n (8 * k + j))).length = 8 * k + j by rw [bytesV_length, nb_length])
          have HO := Lib.hid (show wr.ownsRow w.heap.size 5 1 ?v (bytesV (nb n (8 * k + j))).length (bytesV (nb n (8 * k + j))) by rw [HWL.out]; exact HB.out.own)
          have HV : Hid (((n / 2 ^ (8 * ((8 * k + j) % 8)) % 256 : Nat) : Int) = (X : Int) % 256) := by
            unfold Hid
            rw [HX.out, show (8 * k + j) % 8 = j by omega]
            omega
          have hz : w.heap.size ≤ wr.heap.size := HB.out.mods.size
          go_wp2_with (at_builtin; refine wpList_app1 _ rfl _ _ 89 5 (.int .u8 0) 1 rfl Try.underlying89 info5 rfl (by decide) _ (bytesV (nb n (8 * k + j))) (.int .u8 ((X : Int) % 256)) _ rfl rfl (by simp) rfl w.heap.size (by exact HO.out.alloc _) (by simp; omega) (by rw [HWL.out]; omega) ?_)
          intro g cap w1 hown1 hg1 _
          rw [HWL.out] at hown1 ⊢
          have HA1 := Lib.hid (HB.out.add ((Mods.refl _ _).alloc _) hg1 (by rw [HV.out]; exact hown1))
          have HX1 : Hid (X / 256 = n / 2 ^ (8 * (j + 1))) := by
            unfold Hid
            rw [HX.out, Nat.mul_add, Nat.pow_add, ← Nat.div_div_eq_div_mul]
          clear hown1 hg1
          go_wp2_with fail
          go_roundg (8 - (j + 1))
          case measure => have := HJ.out; omega
          case rel => exact ⟨j + 1, X / 256, HJ.out, rfl, by go_num, by go_num, HX1.out, HA1.out⟩
        · obtain rfl : j = 8 := by omega
          go_wp2_with fail
          go_roundg (4 - (k + 1))
          case measure => have := HK.out; omega
          case rel => exact ⟨k + 1, HK.out, rfl, by go_num, HB.out⟩
    · obtain rfl : k = 4 := by omega
      have hown := hN.own
      obtain ⟨g, cap, rfl, _, _⟩ := hown.form (by omega)
      have hcv := run_convert_bytes_arg (P := Try.prog) wr 89 5 Try.underlying89 Try.underlying5 g 0 32 cap (nb n 32) (nb_length n 32) (fun i hi => by
        have := hown.cellAt i (by omega)
        rw [Nat.zero_add, this]
        simp [bytesV, nb, hi]) 9 Try.underlying9
      have HM := Lib.hid hN.mods
      clear hN hown
      go_wp2
      go_ret
      exact ⟨rfl, HM.out⟩
theorem f121_int (x : Int) (n : Nat) (w : World) (h : x = n) (hn : n ≤ 1125899906842624) :
    Calls Try.prog 121 #[.int .i64 x] w fun e w' => e = .returned (.string (mark n)) ∧ Mods Nope w w' := by
  subst h
  exact f121_calls n w hn

/-! ### The document's book -/
/-- What the document's sum does. -/
def RSums (f : ByteArray → ByteArray) : Prop :=
  ∀ (s : ByteArray) (w : World), s.size ≤ 140737488351232 → Calls Try.prog 73 #[.string s] w fun e w' => e = .returned (.string (f s)) ∧ Mods Nope w w'
/-- b is the block of a book of the document's; v the list of what it has seen. -/
def IsRef (w : World) (base b : Nat) (v : Value) : Bk → Prop
  | .ideal L => base ≤ b ∧ w.heap[b]? = some (.cells #[.bool false, v] 38 (0, 0)) ∧ w.ownsRow base 9 1 v L.length (strs L)
  | .real f => base ≤ b ∧ w.heap[b]? = some (.cells #[.bool true, v] 38 (0, 0)) ∧ v = .slice none 0 0 ∧ RSums f
theorem IsRef.row {w : World} {base b : Nat} {v : Value} {B : Bk} (h : IsRef w base b v B) : ∃ r, w.heap[b]? = some (.cells #[.bool r, v] 38 (0, 0)) := by
  cases B with
  | ideal L => exact ⟨_, h.2.1⟩
  | real f => exact ⟨_, h.2.1⟩
theorem IsRef.own_lt {w : World} {base b : Nat} {v : Value} {B : Bk} (h : IsRef w base b v B) : ∀ k, v.ownBlock = some k → base ≤ k ∧ k < w.heap.size := by
  cases B with
  | ideal L => exact h.2.2.lt
  | real f => intro k hk; rw [h.2.2.1] at hk; simp [Value.ownBlock] at hk
theorem IsRef.base_le {w : World} {base b : Nat} {v : Value} {B : Bk} (h : IsRef w base b v B) : base ≤ b := by
  cases B with
  | ideal L => exact h.1
  | real f => exact h.1
theorem IsRef.lt {w : World} {base b : Nat} {v : Value} {B : Bk} (h : IsRef w base b v B) : b < w.heap.size := by
  obtain ⟨r, h⟩ := h.row
  exact row_lt h
/-- Its list's row, whatever the book. -/
theorem IsRef.owns {w : World} {base b : Nat} {v : Value} {B : Bk} (h : IsRef w base b v B) : ∃ n xs, w.ownsRow base 9 1 v n xs := by
  cases B with
  | ideal L => exact ⟨_, _, h.2.2⟩
  | real f => exact ⟨0, [], by rw [h.2.2.1]; exact World.ownsRow_nil _ _ _ _⟩
/-- Which blocks marking may change. -/
def RB (b : Nat) (v : Value) (k : Nat) : Prop := k = b ∨ v.ownBlock = some k
theorem IsRef.mods {M : Nat → Prop} {w w' : World} {base b : Nat} {v : Value} {B : Bk} (h : IsRef w base b v B) (hm : Mods M w w') (hb : ¬ M b) (hv : ∀ k, v.ownBlock = some k → ¬ M k) : IsRef w' base b v B := by
  cases B with
  | ideal L => exact ⟨h.1, hm.row h.2.1 hb, hm.owns h.2.2 hv⟩
  | real f => exact ⟨h.1, hm.row h.2.1 hb, h.2.2.1, h.2.2.2⟩
theorem IsRef.nope {w w' : World} {base b : Nat} {v : Value} {B : Bk} (h : IsRef w base b v B) (hm : Mods Nope w w') : IsRef w' base b v B := h.mods hm (fun h => h) (fun _ _ h => h)

theorem toList_inj {a b : ByteArray} (h : a.toList = b.toList) : a = b := by
  rw [ByteArray.toList_eq, ByteArray.toList_eq] at h
  cases a; cases b
  simpa using h
theorem str_eq {a b : ByteArray} (h : a = b) : (a.toList == b.toList) = true := by subst h; simp
theorem str_ne {a b : ByteArray} (h : a ≠ b) : (a.toList == b.toList) = false := by
  rw [beq_eq_false_iff_ne]
  exact fun e => h (toList_inj e)
/-- What place answers. -/
def placeR (s : ByteArray) (L : List ByteArray) : Int := if place s L < L.length then (place s L : Int) else -1
theorem place_stop {s : ByteArray} : ∀ {L : List ByteArray} {k : Nat} (hk : k < L.length), k ≤ place s L → L[k] = s → place s L = k
  | [], k, hk, _, _ => by simp at hk
  | t :: l, 0, _, _, h => by simp only [List.getElem_cons_zero] at h; simp [place, h]
  | t :: l, k + 1, hk, hp, h => by
    simp only [place] at hp ⊢
    split at hp
    · omega
    · rename_i hne
      rw [if_neg hne, place_stop (L := l) (by simpa using hk) (by omega) (by simpa using h)]
theorem place_more {s : ByteArray} : ∀ {L : List ByteArray} {k : Nat} (hk : k < L.length), k ≤ place s L → L[k] ≠ s → k + 1 ≤ place s L
  | [], k, hk, _, _ => by simp at hk
  | t :: l, 0, _, _, h => by simp only [List.getElem_cons_zero] at h; simp only [place, if_neg h]; omega
  | t :: l, k + 1, hk, hp, h => by
    simp only [place] at hp ⊢
    split at hp
    · omega
    · rename_i hne
      rw [if_neg hne]
      have := place_more (s := s) (L := l) (k := k) (by simpa using hk) (by omega) (by simpa using h)
      omega
set_option maxHeartbeats 1000000 in
theorem f120_calls (base b : Nat) (v : Value) (L : List ByteArray) (s : ByteArray) (w : World) (h : IsRef w base b v (.ideal L)) (hL : L.length ≤ 1125899906842624) :
    Calls Try.prog 120 #[.pointer (some ⟨b, 0, none⟩), .string s] w fun e w' => e = .returned (.int .i64 (placeR s L)) ∧ w' = w := by
  obtain ⟨_, hrow, hown⟩ := h
  obtain ⟨A, c, rfl, hc1, hc2, hrd, _⟩ := Rd.of_owns hown
  have c0 : w.cell? ⟨b, 1, none⟩ = some (.slice A L.length c) := by rw [row_cell hrow]; rfl
  have HRD := Lib.hid hrd
  have HL := Lib.hid hL
  clear hrow hown hrd hL hc1 hc2
  go_enter Try.func120, Try.ntmps120
  go_wp2_with fail
  go_loop [5] (fun i => ∃ k : Nat, k ≤ L.length ∧ i = .int .i64 k ∧ k ≤ place s L) (fun i => L.length - (intOf i).toNat)
  case atStart => exact ⟨0, Nat.zero_le _, rfl, Nat.zero_le _⟩
  case round =>
    obtain ⟨k, hk, rfl, hp⟩ := hrel
    by_cases hlt : k < L.length
    · obtain ⟨g, off, hA, hcell⟩ := HRD.out.str k hlt
      have hki : (k : Int) ≤ 1125899906842624 := by have := HL.out; omega
      subst hA
      by_cases e : L[k] = s
      · have hb := str_eq e
        have HP := Lib.hid (place_stop hlt hp e)
        go_wp2
        go_ret
        exact ⟨ret_int (by unfold placeR; rw [HP.out, if_pos hlt]), rfl⟩
      · have hb := str_ne e
        have HP := Lib.hid (place_more hlt hp e)
        go_wp2
        go_round
        case rel => exact ⟨k + 1, by omega, by go_num, HP.out⟩
        case measure => simp [intOf]; omega
    · go_wp2
      go_ret
      exact ⟨ret_int (by unfold placeR; rw [if_neg (by omega)]), rfl⟩

theorem grown_row2 {w w1 : World} {row : Option Nat} {g : Nat} {o : Obj} (h : w.grownBy w1 row) (hg : w.heap[g]? = some o) (hne : ∀ k, row = some k → k ≠ g) : w1.heap[g]? = some o :=
  (h.block g (row_lt hg) (fun e => hne g e.symm rfl)).trans hg
set_option maxRecDepth 100000 in
set_option maxHeartbeats 1000000 in
theorem f79_ideal (base b : Nat) (v : Value) (L : List ByteArray) (s : ByteArray) (w : World) (h : IsRef w base b v (.ideal L)) (hL : L.length < 4398046511104) :
    Calls Try.prog 79 #[.pointer (some ⟨b, 0, none⟩), .string s] w fun e w' =>
      e = .returned (.string ((Bk.ideal L).mark s)) ∧ ∃ v', IsRef w' base b v' ((Bk.ideal L).add s) ∧ Mods (RB b v) w w' ∧ (∀ k, v'.ownBlock = some k → v.ownBlock = some k ∨ w.heap.size ≤ k) := by
  have HI := Lib.hid h
  obtain ⟨hbb, hrow, hown⟩ := h
  have c0 : w.cell? ⟨b, 0, none⟩ = some (.bool false) := by rw [row_cell hrow]; rfl
  have HL := Lib.hid hL
  have HR := Lib.hid hrow
  have HO := Lib.hid hown
  clear hL hrow
  obtain ⟨A, c, rfl, hc1, hc2, hrd, _⟩ := Rd.of_owns hown
  have c1 : w.cell? ⟨b, 1, none⟩ = some (.slice A L.length c) := by rw [row_cell HR.out]; rfl
  clear hown hrd hc1 hc2
  go_enter Try.func79, Try.ntmps79
  go_wp2_with fail
  refine (f120_calls base b _ L s _ HI.out (by have := HL.out; omega)).mono ?_; rintro e w1 ⟨rfl, rfl⟩
  by_cases hin : place s L < L.length
  · have HP := Lib.hid hin
    have hr : placeR s L = (place s L : Int) := by rw [placeR, if_pos hin]
    rw [hr]
    clear hr hin
    have hki : (place s L : Int) ≤ 1125899906842624 := by have := HL.out; have := HP.out; omega
    go_wp2_with fail
    refine (f121_int _ (place s L + 1) _ (by omega) (by have := HL.out; have := HP.out; omega)).mono ?_; rintro e w2 ⟨rfl, h2⟩
    go_wp2
    go_ret
    refine ⟨rfl, _, ?_, h2.any _, fun k hk => .inl hk⟩
    have := HI.out.nope h2
    simpa only [Bk.add, HP.out, if_true] using this
  · have HP := Lib.hid hin
    have hr : placeR s L = -1 := by rw [placeR, if_neg hin]
    rw [hr]
    clear hr hin
    have hki : (L.length : Int) ≤ 1125899906842624 := by have := HL.out; omega
    have hff : w1.frozen? ⟨b, 1, none⟩ = false := row_frozen HR.out 1
    have HWL := Lib.hid (show (strs L).length = L.length by rw [strs_length])
    have HOO := Lib.hid (show w1.ownsRow base 9 1 (.slice A L.length c) (strs L).length (strs L) by rw [HWL.out]; exact HO.out)
    have hz : base ≤ w1.heap.size := Nat.le_trans hbb (Nat.le_of_lt (row_lt HR.out))
    go_wp2_with (at_builtin; refine wpList_app1 _ rfl _ _ 29 9 (.string ⟨#[]⟩) 16 rfl Try.underlying29 info9 rfl (by decide) _ (strs L) (.string s) _ rfl rfl (by simp) rfl base (by exact HOO.out.alloc _) (by simp; omega) (by rw [HWL.out]; have := HL.out; omega) ?_)
    intro g cap w2 hown2 hg2 hat2
    rw [HWL.out] at hown2 ⊢
    have hG := grown_row2 hg2 (row_alloc HR.out _) (own_ne_row HO.out HR.out (by decide))
    have HG := Lib.hid hG
    have hc1' : w2.cell? ⟨b, 1, none⟩ = some (.slice A L.length c) := by rw [row_cell hG]; rfl
    have hf1' : w2.frozen? ⟨b, 1, none⟩ = false := row_frozen hG 1
    have HO2 := Lib.hid hown2
    have HM2 : Hid (Mods (RB b (.slice A L.length c)) w1 w2) := ((Mods.refl _ w1).alloc _).grown hg2 (fun k hk _ => .inr hk)
    have HT2 := Lib.hid hat2
    clear hG hown2 hg2 hat2
    go_wp2_with fail
    refine (f121_int _ (L.length + 1) _ (by omega) (by have := HL.out; omega)).mono ?_; rintro e w3 ⟨rfl, h3⟩
    go_wp2
    go_ret
    have hnl : place s L = L.length := by have := place_le s L; have := HP.out; omega
    refine ⟨ret_str (by rw [Bk.mark, hnl]), .slice (some ⟨g, 0, none⟩) (L.length + 1) cap, ?_, ?_, ?_⟩
    · have hI : IsRef (w2.setCell ⟨b, 1, none⟩ (.slice (some ⟨g, 0, none⟩) (L.length + 1) cap)) base b (.slice (some ⟨g, 0, none⟩) (L.length + 1) cap) ((Bk.ideal L).add s) := by
        simp only [Bk.add, HP.out, if_false, IsRef]
        refine ⟨hbb, row_set HG.out 1 _, ?_⟩
        rw [strs_append, show (L ++ [s]).length = L.length + 1 by simp]
        exact ((Mods.refl (fun j => j = b) w2).setCell ⟨b, 1, none⟩ (fun _ => rfl) _).owns HO2.out (fun j hj e => own_ne_row HO2.out HG.out (by decide) j hj e)
      exact hI.nope h3
    · exact (HM2.out.setCell _ (fun _ => .inl rfl) _).then h3 (fun _ _ h => h.elim)
    · intro k hk
      have hk' : g = k := by simpa [Value.ownBlock] using hk
      subst hk'
      rcases HT2.out with h | h
      · exact .inl h
      · exact .inr (by first | omega | (simp at h; omega))

set_option maxHeartbeats 1000000 in
theorem f79_real (base b : Nat) (v : Value) (f : ByteArray → ByteArray) (s : ByteArray) (w : World) (h : IsRef w base b v (.real f)) (hs : s.size ≤ 140737488351232) :
    Calls Try.prog 79 #[.pointer (some ⟨b, 0, none⟩), .string s] w fun e w' => e = .returned (.string (f s)) ∧ Mods Nope w w' := by
  obtain ⟨_, hrow, rfl, hsum⟩ := h
  have c0 : w.cell? ⟨b, 0, none⟩ = some (.bool true) := by rw [row_cell hrow]; rfl
  have HC := Lib.hid (hsum s w hs)
  clear hrow hsum hs
  go_enter Try.func79, Try.ntmps79
  go_wp2_with fail
  refine HC.out.mono ?_; rintro e w1 ⟨rfl, h1⟩
  go_wp2
  go_ret
  exact ⟨rfl, h1⟩
/-- The document's marking, whatever the book. -/
theorem f79_calls (base b : Nat) (v : Value) (B : Bk) (s : ByteArray) (w : World) (h : IsRef w base b v B) (hL : B.len < 4398046511104) (hs : s.size ≤ 140737488351232) :
    Calls Try.prog 79 #[.pointer (some ⟨b, 0, none⟩), .string s] w fun e w' =>
      e = .returned (.string (B.mark s)) ∧ ∃ v', IsRef w' base b v' (B.add s) ∧ Mods (RB b v) w w' ∧ (∀ k, v'.ownBlock = some k → v.ownBlock = some k ∨ w.heap.size ≤ k) := by
  cases B with
  | ideal L => exact f79_ideal base b v L s w h hL
  | real f => exact (f79_real base b v f s w h hs).mono fun e w' ⟨he, hm⟩ => ⟨he, v, h.nope hm, hm.any _, fun k hk => .inl hk⟩
end Go.Proofs.Ytblhbbgkkijkfaa
namespace Go.Proofs.Ytblhbbgkkijkfaa
open Go.RowKit Go.Maps

theorem wsum_step (A B c m : Int) : ((B + m * A) % 65536 + (m % 65536) * c) % 65536 = ((B + (A + c)) + (m - 1) * (A + c)) % 65536 := by
  have e1 : m % 65536 = m - 65536 * (m / 65536) := by omega
  have e2 : (m - 65536 * (m / 65536)) * c = m * c - 65536 * (m / 65536 * c) := by rw [Int.sub_mul, Int.mul_assoc]
  have e3 : (m - 1) * (A + c) = m * A + m * c - A - c := by rw [Int.sub_mul, Int.mul_add]; omega
  rw [e1, e2, e3]
  generalize m * A = P
  generalize m * c = Q
  generalize m / 65536 * c = R
  omega
/-- The document's second sum, k bytes of n taken. -/
def rbK (s : ByteArray) (k : Nat) : Int := ((wkAB (s.data.toList.take k)).2 + ((s.size : Int) - k) * (wkAB (s.data.toList.take k)).1) % 65536
def raK (s : ByteArray) (k : Nat) : Int := (wkAB (s.data.toList.take k)).1 % 65536
theorem raK_step (s : ByteArray) (k : Nat) (h : k < s.size) : raK s (k + 1) = (raK s k + s[k].toNat) % 65536 := by
  unfold raK
  rw [take_snoc s k h, wkAB_snoc]
  simp only [wkStep]
  omega
theorem rbK_step (s : ByteArray) (k : Nat) (h : k < s.size) : rbK s (k + 1) = (rbK s k + ((s.size : Int) - k) % 65536 * s[k].toNat) % 65536 := by
  unfold rbK
  rw [take_snoc s k h, wkAB_snoc, wsum_step]
  simp only [wkStep]
  push_cast
  rw [show (s.size : Int) - (k + 1) = s.size - k - 1 by omega]
theorem rK_end (s : ByteArray) : raK s s.size + 65536 * rbK s s.size = wk s := by
  unfold raK rbK wk
  rw [List.take_of_length_le (by simp), Int.sub_self, Int.zero_mul, Int.add_zero]
  omega
theorem rK_range (s : ByteArray) (k : Nat) : 0 ≤ raK s k ∧ raK s k < 65536 ∧ 0 ≤ rbK s k ∧ rbK s k < 65536 := by
  unfold raK rbK; omega
set_option maxHeartbeats 1000000 in
theorem f59_calls (s : ByteArray) (w : World) (hs : s.size ≤ 524288) :
    Calls Try.prog 59 #[.string s] w fun e w' => e = .returned (.int .i64 (wk s)) ∧ w' = w := by
  go_enter Try.func59, Try.ntmps59
  go_wp2
  go_loop [3, 4, 5] (fun a b i => ∃ k : Nat, k ≤ s.size ∧ i = .int .i64 k ∧ a = .int .i64 (raK s k) ∧ b = .int .i64 (rbK s k)) (fun _ _ i => s.size - (intOf i).toNat)
  case atStart => exact ⟨0, Nat.zero_le _, rfl, rfl, by simp [rbK, wkAB]⟩
  case round =>
    obtain ⟨k, hk, rfl, rfl, rfl⟩ := hrel
    obtain ⟨b1, b2, b3, b4⟩ := rK_range s k
    by_cases hlt : k < s.size
    · have HA := Lib.hid (raK_step s k hlt)
      have HB := Lib.hid (rbK_step s k hlt)
      have hc : ((s[k].toNat : Nat) : Int) ≤ 255 := by have := s[k].toNat_lt; omega
      have hm0 : 0 ≤ ((s.size : Int) - k) % 65536 := by omega
      have hm1 : ((s.size : Int) - k) % 65536 ≤ 65535 := by omega
      have hp0 : 0 ≤ ((s.size : Int) - k) % 65536 * (s[k].toNat : Int) := Int.mul_nonneg hm0 (by omega)
      have hp1 : ((s.size : Int) - k) % 65536 * (s[k].toNat : Int) ≤ 65535 * 255 := Int.mul_le_mul hm1 hc (by omega) (by omega)
      go_wp2
      go_round
      case rel => exact ⟨k + 1, by omega, by go_num, by rw [HA.out], by rw [HB.out]⟩
      case measure => simp [intOf]; omega
    · obtain rfl : k = s.size := by omega
      have HE := Lib.hid (rK_end s)
      go_wp2
      go_ret
      exact ⟨ret_int HE.out, rfl⟩

/-! ### cut -/
def cutT (s : ByteArray) (n : Nat) : ByteArray := if s.size ≤ n then s else s.extract 0 n
theorem cutT_size (s : ByteArray) (n : Nat) : (cutT s n).size ≤ n := by
  unfold cutT
  split
  · assumption
  · simp only [ByteArray.size_extract]; omega
set_option maxHeartbeats 400000 in
theorem f28_calls (s : ByteArray) (n : Nat) (w : World) (hs : s.size ≤ maxLen) (hn : n ≤ 100000) :
    Calls Try.prog 28 #[.string s, .int .i64 n] w fun e w' => e = .returned (.string (cutT s n)) ∧ w' = w := by
  have HS := Lib.hid hs
  clear hs
  by_cases h : s.size ≤ n
  · have HH := Lib.hid h
    have h1 : ¬ ((n : Int) < s.size) := by omega
    go_enter Try.func28, Try.ntmps28
    go_wp2
    go_ret
    exact ⟨ret_str (by unfold cutT; rw [if_pos HH.out]), rfl⟩
  · have HH := Lib.hid h
    have h1 : ((n : Int) < s.size) := by omega
    go_enter Try.func28, Try.ntmps28
    go_wp2
    go_ret
    exact ⟨ret_str (by unfold cutT; rw [if_neg HH.out]), rfl⟩
set_option maxHeartbeats 400000 in
theorem f47_calls (s : ByteArray) (n : Nat) (w : World) (hs : s.size ≤ maxLen) (hn : n ≤ 100000) :
    Calls Try.prog 47 #[.string s, .int .i64 n] w fun e w' => e = .returned (.string (cutT s n)) ∧ w' = w := by
  have HS := Lib.hid hs
  clear hs
  by_cases h : s.size ≤ n
  · have HH := Lib.hid h
    have h1 : ¬ ((n : Int) < s.size) := by omega
    go_enter Try.func47, Try.ntmps47
    go_wp2
    go_ret
    exact ⟨ret_str (by unfold cutT; rw [if_pos HH.out]), rfl⟩
  · have HH := Lib.hid h
    have h1 : ((n : Int) < s.size) := by omega
    go_enter Try.func47, Try.ntmps47
    go_wp2
    go_ret
    exact ⟨ret_str (by unfold cutT; rw [if_neg HH.out]), rfl⟩
end Go.Proofs.Ytblhbbgkkijkfaa
namespace Go.Proofs.Ytblhbbgkkijkfaa
open Go.RowKit Go.Maps
theorem cnt_iff (n b k : Nat) (hb : 0 < b) : k * b < n ↔ k < cnt n b := by
  obtain ⟨h1, h2⟩ := cnt_spec n b hb
  constructor
  · intro h
    rcases Nat.lt_or_ge k (cnt n b) with h3 | h3
    · exact h3
    · have := Nat.mul_le_mul_right b h3
      omega
  · exact h2 k
structure BlocksAt (s : ByteArray) (b : Nat) (w wr : World) (k : Nat) (v : Value) : Prop where
  own : wr.ownsRow w.heap.size 9 1 v k (strs (pcs s b k))
  mods : Mods Nope w wr
theorem BlocksAt.add {s : ByteArray} {b k : Nat} {w wr wx w1 : World} {v nv : Value} (h : BlocksAt s b w wr k v) (hm : Mods Nope wr wx) (hg : wx.grownBy w1 v.ownBlock)
    (ho : w1.ownsRow w.heap.size 9 1 nv (k + 1) (strs (pcs s b k) ++ [.string (pc s k b)])) : BlocksAt s b w w1 (k + 1) nv := by
  refine ⟨?_, ?_⟩
  · rw [pcs_snoc, strs_append]; exact ho
  · exact (h.mods.trans hm).grown hg (fun j hj hl => by have := (h.own.lt j hj).1; omega)
set_option maxRecDepth 100000 in
set_option maxHeartbeats 1000000 in
theorem f33_calls (s : ByteArray) (b : Nat) (w : World) (hs : s.size ≤ 524288) (h1 : 16 ≤ b) (h2 : b ≤ 1024) :
    Calls Try.prog 33 #[.string s, .int .i64 b] w fun e w' => ∃ v, e = .returned v ∧ w'.ownsRow w.heap.size 9 1 v (cnt s.size b) (strs (pcs s b (cnt s.size b))) ∧ Mods Nope w w' := by
  have HC := Lib.hid (show cnt s.size b ≤ 524288 from Nat.le_trans (cnt_le s.size b (by omega)) hs)
  go_enter Try.func33, Try.ntmps33
  go_wp2_with fail
  go_loopg [6, 5] (cnt s.size b) (fun gk i v wr => ∃ k : Nat, k ≤ cnt s.size b ∧ gk = cnt s.size b - k ∧ i = .int .i64 ((k * b : Nat) : Int) ∧ BlocksAt s b w wr k v)
  case atStart => exact ⟨0, by omega, by omega, by simp, World.ownsRow_nil _ _ _ _, Mods.refl _ _⟩
  case round =>
    obtain ⟨k, hk, rfl, rfl, hB⟩ := hrel
    have HB := Lib.hid hB
    have hiff := cnt_iff s.size b k (by omega)
    clear hB
    by_cases hlt : k * b < s.size
    · have HK : Hid (k < cnt s.size b) := hiff.1 hlt
      have HWL := Lib.hid (show (strs (pcs s b k)).length = k by rw [strs_length, pcs_length])
      have HO := Lib.hid (show wr.ownsRow w.heap.size 9 1 u5 (strs (pcs s b k)).length (strs (pcs s b k)) by rw [HWL.out]; exact HB.out.own)
      have hz : w.heap.size ≤ wr.heap.size := HB.out.mods.size
      have hle : k * b ≤ 524288 := by omega
      have HPC : Hid (pc s k b = s.extract (k * b) (min (k * b + b) s.size)) := by unfold Hid pc; rw [Nat.add_mul, Nat.one_mul]
      have HK1 : Hid ((((k + 1) * b : Nat) : Int) = ((k * b : Nat) : Int) + b) := by unfold Hid; rw [Nat.add_mul]; push_cast; omega
      clear hiff
      by_cases hend : k * b + b ≤ s.size
      · have HM : Hid (min (k * b + b) s.size = k * b + b) := by unfold Hid; omega
        generalize k * b = q at *
        go_wp2_with (at_builtin; refine wpList_app1 _ rfl _ _ 29 9 (.string ⟨#[]⟩) 16 rfl Try.underlying29 info9 rfl (by decide) _ (strs (pcs s b k)) (.string (s.extract q (q + b))) _ rfl rfl (by simp) rfl w.heap.size (by exact HO.out.alloc _) (by simp; omega) (by rw [HWL.out]; have := HC.out; have := HK.out; omega) ?_)
        intro g cap w1 hown1 hg1 _
        rw [HWL.out] at hown1 ⊢
        have HA := Lib.hid (HB.out.add ((Mods.refl _ _).alloc _) hg1 (by rw [HPC.out, HM.out]; exact hown1))
        clear hown1 hg1
        go_wp2_with fail
        go_roundg (cnt s.size b - (k + 1))
        case measure => have := HK.out; omega
        case rel => exact ⟨k + 1, HK.out, rfl, val_int HK1.out.symm, HA.out⟩
      · have HM : Hid (min (k * b + b) s.size = s.size) := by unfold Hid; omega
        generalize k * b = q at *
        go_wp2_with (at_builtin; refine wpList_app1 _ rfl _ _ 29 9 (.string ⟨#[]⟩) 16 rfl Try.underlying29 info9 rfl (by decide) _ (strs (pcs s b k)) (.string (s.extract q s.size)) _ rfl rfl (by simp) rfl w.heap.size (by exact HO.out.alloc _) (by simp; omega) (by rw [HWL.out]; have := HC.out; have := HK.out; omega) ?_)
        intro g cap w1 hown1 hg1 _
        rw [HWL.out] at hown1 ⊢
        have HA := Lib.hid (HB.out.add ((Mods.refl _ _).alloc _) hg1 (by rw [HPC.out, HM.out]; exact hown1))
        clear hown1 hg1
        go_wp2_with fail
        go_roundg (cnt s.size b - (k + 1))
        case measure => have := HK.out; omega
        case rel => exact ⟨k + 1, HK.out, rfl, val_int HK1.out.symm, HA.out⟩
    · obtain rfl : k = cnt s.size b := by
        have : ¬ k < cnt s.size b := fun h => hlt (hiff.2 h)
        omega
      clear hiff
      generalize cnt s.size b * b = q at *
      go_wp2
      go_ret
      exact ⟨_, rfl, HB.out.own, HB.out.mods⟩

/-! ### ints -/
def intsEq (xs ys : List Int) : Bool := decide (xs = ys)
set_option maxHeartbeats 1000000 in
theorem f32_calls (A B : Option Addr) (c d : Nat) (xs ys : List Int) (w : World) (hx : Rd w A (ints xs)) (hy : Rd w B (ints ys)) (hl : xs.length ≤ 1125899906842624) :
    Calls Try.prog 32 #[.slice A xs.length c, .slice B ys.length d] w fun e w' => e = .returned (.bool (intsEq xs ys)) ∧ ∃ n, w' = w.drewN n := by
  have HX := Lib.hid hx
  have HY := Lib.hid hy
  have HL := Lib.hid hl
  clear hx hy hl
  by_cases hlen : xs.length = ys.length
  · have HE := Lib.hid hlen
    have hb : (((xs.length : Nat) : Int) != ((ys.length : Nat) : Int)) = false := by simp [hlen]
    clear hlen
    go_enter Try.func32, Try.ntmps32
    go_wp2_with fail
    go_loopw [5] (fun i wr => ∃ k : Nat, k ≤ xs.length ∧ i = .int .i64 (k : Nat) ∧ xs.take k = ys.take k ∧ ∃ n, wr = w.drewN n) (fun i _ => xs.length - (intOf i).toNat)
    case atStart => exact ⟨0, Nat.zero_le _, rfl, by simp, 0, rfl⟩
    case round =>
      obtain ⟨k, hk, rfl, ht, n, rfl⟩ := hrel
      have HT := Lib.hid ht
      clear ht
      by_cases hlt : k < xs.length
      · have hlt2 : k < ys.length := by have := HE.out; omega
        obtain ⟨g, off, hA, hc⟩ := HX.out.int k hlt
        obtain ⟨g', off', hB, hc'⟩ := HY.out.int k hlt2
        have hki : (k : Int) ≤ 1125899906842624 := by have := HL.out; omega
        have b1 : (k : Int) < (xs.length : Int) := by omega
        have b2 : (k : Int) < (ys.length : Int) := by omega
        subst hA
        subst hB
        by_cases e : xs[k] = ys[k]
        · have HQ : Hid (xs.take (k + 1) = ys.take (k + 1)) := by
            unfold Hid
            rw [List.take_succ_eq_append_getElem hlt, List.take_succ_eq_append_getElem hlt2, HT.out, e]
          have hne : (xs[k] != ys[k]) = false := by simp [e]
          clear e
          go_upto_region 6 with fail
          go_quiet (fail)
          go_wp2
          go_roundw
          case rel => exact ⟨k + 1, by omega, by go_num, HQ.out, _, rfl⟩
          case measure => simp [intOf]; omega
        · have HQ : Hid (intsEq xs ys = false) := by
            unfold Hid intsEq
            rw [decide_eq_false_iff_not]
            rintro rfl
            exact e rfl
          have hne : (xs[k] != ys[k]) = true := by simp [e]
          clear e
          go_upto_region 6 with fail
          go_quiet (fail)
          go_wp2
          go_ret
          exact ⟨ret_bool HQ.out.symm, _, by first | rfl | exact World.drewN_drewN ..⟩
      · have HQ : Hid (intsEq xs ys = true) := by
          unfold Hid intsEq
          rw [decide_eq_true_eq]
          have h := HT.out
          rw [List.take_of_length_le (by omega), List.take_of_length_le (by have := HE.out; omega)] at h
          exact h
        go_wp2
        go_ret
        exact ⟨ret_bool HQ.out.symm, _, by first | rfl | exact World.drewN_drewN ..⟩
  · have HQ : Hid (intsEq xs ys = false) := by
      unfold Hid intsEq
      rw [decide_eq_false_iff_not]
      rintro rfl
      exact hlen rfl
    have hb : (((xs.length : Nat) : Int) != ((ys.length : Nat) : Int)) = true := by simp; omega
    clear hlen
    go_enter Try.func32, Try.ntmps32
    go_wp2
    go_ret
    exact ⟨ret_bool HQ.out.symm, 0, rfl⟩
end Go.Proofs.Ytblhbbgkkijkfaa
namespace Go.Proofs.Ytblhbbgkkijkfaa
open Go.RowKit Go.Maps
theorem at_of {v : Value} {g n c H : Nat} (h : v.ownBlock = some g ∨ H ≤ g) : ∀ j, (Value.slice (some ⟨g, 0, none⟩) n c).ownBlock = some j → v.ownBlock = some j ∨ H ≤ j := by
  intro j hj
  obtain rfl : g = j := by simpa [Value.ownBlock] using hj
  exact h
/-- Two values lie in different blocks. -/
def Dj (v u : Value) : Prop := ∀ k, v.ownBlock = some k → u.ownBlock ≠ some k
theorem Dj.fresh {w : World} {v nv u : Value} {base e size n H : Nat} {xs : List Value} (h : Dj v u) (hu : w.ownsRow base e size u n xs) (hH : w.heap.size ≤ H) (hp : ∀ k, nv.ownBlock = some k → v.ownBlock = some k ∨ H ≤ k) : Dj nv u := by
  intro k hk hu'
  rcases hp k hk with hp | hp
  · exact h k hp hu'
  · have := (hu.lt k hu').2; omega
theorem Dj.symm {v u : Value} (h : Dj v u) : Dj u v := fun k hk hv => h k hv hk
structure SignAtR (base b : Nat) (v lv : Value) (B : Bk) (s : ByteArray) (n : Nat) (w wr : World) (i k : Nat) (wv sv rv : Value) : Prop where
  g : wr.heap[w.heap.size + 1]? = some (.cells #[.int .i64 n, .int .i64 s.size, wv, sv] 31 (0, 0))
  res : wr.heap[w.heap.size]? = some (.cells #[.int .i64 0, .int .i64 0, .slice none 0 0, .slice none 0 0] 31 (0, 0))
  weak : wr.ownsRow w.heap.size 3 1 wv i (ints (sweak s n i))
  strong : wr.ownsRow w.heap.size 9 1 sv k (strs (smarks B s n k))
  list : wr.ownsRow w.heap.size 9 1 lv (cnt s.size n) (strs (pcs s n (cnt s.size n)))
  book : IsRef wr base b rv (B.adds (pcs s n k))
  mods : Mods (RB b v) w wr
  d1 : Dj rv sv
  d2 : Dj rv lv
  d3 : Dj sv lv
  prov : ∀ k, rv.ownBlock = some k → v.ownBlock = some k ∨ w.heap.size ≤ k
section
variable {base b : Nat} {v lv : Value} {B : Bk} {s : ByteArray} {n : Nat} {w wr wx : World} {i k : Nat} {wv sv rv : Value}
theorem SignAtR.nope (h : SignAtR base b v lv B s n w wr i k wv sv rv) (hm : Mods Nope wr wx) : SignAtR base b v lv B s n w wx i k wv sv rv :=
  ⟨hm.row h.g (fun h => h), hm.row h.res (fun h => h), hm.owns h.weak (fun _ _ h => h), hm.owns h.strong (fun _ _ h => h), hm.owns h.list (fun _ _ h => h), h.book.nope hm, h.mods.then hm (fun _ _ h => h.elim), h.d1, h.d2, h.d3, h.prov⟩
theorem SignAtR.addWeak {w3 : World} {nv : Value} (h : SignAtR base b v lv B s n w wr i k wv sv rv) (hlt : b < w.heap.size)
    (hm : Mods Nope wr wx) (hg : wx.grownBy w3 wv.ownBlock) (hown : w3.ownsRow w.heap.size 3 1 nv (i + 1) (ints (sweak s n i) ++ [.int .i64 (wk (pc s i n))])) :
    SignAtR base b v lv B s n w (w3.setCell ⟨w.heap.size + 1, 2, none⟩ nv) (i + 1) k nv sv rv := by
  have h' := h.nope hm
  have hG := grown_row hg h'.g (own_ne_row h'.weak h'.g (by decide))
  have hM : Mods (fun j => wv.ownBlock = some j ∨ j = w.heap.size + 1) wx (w3.setCell ⟨w.heap.size + 1, 2, none⟩ nv) :=
    ((Mods.refl _ _).grown hg (fun j hj _ => .inl hj)).setCell _ (fun _ => .inr rfl) _
  have hwb : ∀ j, wv.ownBlock = some j → w.heap.size ≤ j := fun j hj => (h'.weak.lt j hj).1
  refine ⟨row_set hG 2 nv, ?_, ?_, ?_, ?_, ?_, ?_, h.d1, h.d2, h.d3, h.prov⟩
  · refine hM.row h'.res ?_
    rintro (hj | hj)
    · exact own_ne_row h'.weak h'.res (by decide) _ hj rfl
    · omega
  · rw [sweak_snoc, ints_append]
    have hne := own_ne_row hown hG (by decide)
    exact ((Mods.refl (fun j => j = w.heap.size + 1) w3).setCell ⟨w.heap.size + 1, 2, none⟩ (fun _ => rfl) nv).owns hown (fun j hj e => hne j hj e)
  · refine hM.owns h'.strong ?_
    rintro j hj (hw | rfl)
    · exact own_ne_own h'.strong h'.weak (by decide) j hj hw
    · exact own_ne_row h'.strong h'.g (by decide) _ hj rfl
  · refine hM.owns h'.list ?_
    rintro j hj (hw | rfl)
    · exact own_ne_own h'.list h'.weak (by decide) j hj hw
    · exact own_ne_row h'.list h'.g (by decide) _ hj rfl
  · refine h'.book.mods hM ?_ ?_
    · rintro (hj | hj)
      · have := hwb _ hj; omega
      · omega
    · obtain ⟨_, _, ho⟩ := h'.book.owns
      rintro j hj (hw | rfl)
      · exact own_ne_own ho h'.weak (by decide) j hj hw
      · exact own_ne_row ho h'.g (by decide) _ hj rfl
  · refine h'.mods.then hM ?_
    rintro j hj (hw | rfl)
    · have := hwb _ hw; omega
    · omega
theorem SignAtR.marked {w4 : World} {rv' : Value} (h : SignAtR base b v lv B s n w wr i k wv sv rv) (hlt : b < w.heap.size)
    (hm : Mods (RB b rv) wr w4) (hp : ∀ j, rv'.ownBlock = some j → rv.ownBlock = some j ∨ wr.heap.size ≤ j) :
    w4.heap[w.heap.size + 1]? = some (.cells #[.int .i64 n, .int .i64 s.size, wv, sv] 31 (0, 0)) ∧
    w4.heap[w.heap.size]? = some (.cells #[.int .i64 0, .int .i64 0, .slice none 0 0, .slice none 0 0] 31 (0, 0)) ∧
    w4.ownsRow w.heap.size 3 1 wv i (ints (sweak s n i)) ∧ w4.ownsRow w.heap.size 9 1 sv k (strs (smarks B s n k)) ∧
    w4.ownsRow w.heap.size 9 1 lv (cnt s.size n) (strs (pcs s n (cnt s.size n))) ∧ Mods (RB b v) w w4 ∧ Dj rv' sv ∧ Dj rv' lv ∧ (∀ j, rv'.ownBlock = some j → v.ownBlock = some j ∨ w.heap.size ≤ j) := by
  have hz := h.mods.size
  have hnr : ∀ j e cs fr, wr.heap[j]? = some (.cells cs e fr) → e ≠ 9 → j ≠ b → ¬ RB b rv j := by
    rintro j e cs fr hj he hjb (rfl | hr)
    · exact hjb rfl
    · obtain ⟨_, _, ho⟩ := h.book.owns
      exact own_ne_row ho hj (fun e' => he e'.symm) j hr rfl
  have hno : ∀ u e n' xs, wr.ownsRow w.heap.size e 1 u n' xs → Dj rv u → ∀ j, u.ownBlock = some j → ¬ RB b rv j := by
    rintro u e n' xs hu hd j hj (rfl | hr)
    · have := (hu.lt _ hj).1; omega
    · exact hd j hr hj
  have hdw : Dj rv wv := by
    intro j hj hw
    obtain ⟨_, _, ho⟩ := h.book.owns
    exact own_ne_own ho h.weak (by decide) j hj hw
  refine ⟨hm.row h.g (hnr _ _ _ _ h.g (by decide) (by omega)), hm.row h.res (hnr _ _ _ _ h.res (by decide) (by omega)), hm.owns h.weak (hno _ _ _ _ h.weak hdw), hm.owns h.strong (hno _ _ _ _ h.strong h.d1), hm.owns h.list (hno _ _ _ _ h.list h.d2), ?_, ?_, ?_, ?_⟩
  · refine h.mods.then hm ?_
    rintro j hj (rfl | hr)
    · exact .inl rfl
    · rcases h.prov j hr with hp | hp
      · exact .inr hp
      · omega
  · exact h.d1.fresh h.strong (Nat.le_refl _) hp
  · exact h.d2.fresh h.list (Nat.le_refl _) hp
  · intro j hj
    rcases hp j hj with hp | hp
    · exact h.prov j hp
    · exact .inr (by omega)
theorem SignAtR.addStrong {w4 wy w3 : World} {rv' nv : Value} (h : SignAtR base b v lv B s n w wr i k wv sv rv) (hlt : b < w.heap.size)
    (hm : Mods (RB b rv) wr w4) (hbk : IsRef w4 base b rv' ((B.adds (pcs s n k)).add (pc s k n))) (hp : ∀ j, rv'.ownBlock = some j → rv.ownBlock = some j ∨ wr.heap.size ≤ j)
    (hy : Mods Nope w4 wy) (hg : wy.grownBy w3 sv.ownBlock) (hown : w3.ownsRow w.heap.size 9 1 nv (k + 1) (strs (smarks B s n k) ++ [.string ((B.adds (pcs s n k)).mark (pc s k n))]))
    (hat : ∀ j, nv.ownBlock = some j → sv.ownBlock = some j ∨ wy.heap.size ≤ j) :
    SignAtR base b v lv B s n w (w3.setCell ⟨w.heap.size + 1, 3, none⟩ nv) i (k + 1) wv nv rv' := by
  obtain ⟨g4, r4, k4, s4, l4, m4, e1, e2, pr⟩ := h.marked hlt hm hp
  have hG1 := hy.row g4 (fun h => h)
  have hR1 := hy.row r4 (fun h => h)
  have hW1 := hy.owns k4 (fun _ _ h => h)
  have hS1 := hy.owns s4 (fun _ _ h => h)
  have hL1 := hy.owns l4 (fun _ _ h => h)
  have hB1 := hbk.nope hy
  have hG := grown_row hg hG1 (own_ne_row hS1 hG1 (by decide))
  have hM : Mods (fun j => sv.ownBlock = some j ∨ j = w.heap.size + 1) wy (w3.setCell ⟨w.heap.size + 1, 3, none⟩ nv) :=
    ((Mods.refl _ _).grown hg (fun j hj _ => .inl hj)).setCell _ (fun _ => .inr rfl) _
  have hwb : ∀ j, sv.ownBlock = some j → w.heap.size ≤ j := fun j hj => (hS1.lt j hj).1
  obtain ⟨_, _, ho⟩ := hB1.owns
  refine ⟨row_set hG 3 nv, ?_, ?_, ?_, ?_, ?_, ?_, ?_, e2, ?_, pr⟩
  · refine hM.row hR1 ?_
    rintro (hj | hj)
    · exact own_ne_row hS1 hR1 (by decide) _ hj rfl
    · omega
  · refine hM.owns hW1 ?_
    rintro j hj (hw | rfl)
    · exact own_ne_own hW1 hS1 (by decide) j hj hw
    · exact own_ne_row hW1 hG1 (by decide) _ hj rfl
  · rw [smarks_snoc, strs_append]
    have hne := own_ne_row hown hG (by decide)
    exact ((Mods.refl (fun j => j = w.heap.size + 1) w3).setCell ⟨w.heap.size + 1, 3, none⟩ (fun _ => rfl) nv).owns hown (fun j hj e => hne j hj e)
  · refine hM.owns hL1 ?_
    rintro j hj (hw | rfl)
    · exact h.d3 j hw hj
    · exact own_ne_row hL1 hG1 (by decide) _ hj rfl
  · rw [pcs_snoc, Bk.adds_snoc]
    refine hB1.mods hM ?_ ?_
    · rintro (hj | hj)
      · have := hwb _ hj; omega
      · omega
    · rintro j hj (hw | rfl)
      · exact e1 j hj hw
      · exact own_ne_row ho hG1 (by decide) _ hj rfl
  · refine (m4.then hy (fun _ _ h => h.elim)).then hM ?_
    rintro j hj (hw | rfl)
    · have := hwb _ hw; omega
    · omega
  · exact (e1.symm.fresh ho (Nat.le_refl _) hat).symm
  · exact h.d3.fresh hL1 (Nat.le_refl _) hat
end

set_option maxRecDepth 100000 in
set_option maxHeartbeats 2000000 in
theorem f31_ok (base b : Nat) (v : Value) (B : Bk) (s : ByteArray) (n : Nat) (w : World) (hb : IsRef w base b v B) (hL : B.len + 524288 < 4398046511104) (hs : s.size ≤ 524288) (h1 : 16 ≤ n) (h2 : n ≤ 1024) :
    Calls Try.prog 31 #[.pointer (some ⟨b, 0, none⟩), .string s, .int .i64 n] w fun e w' => ∃ wv sv rv,
      e = .returned (.tuple #[sigV n s.size wv sv, .int .i64 0]) ∧
      w'.ownsRow w.heap.size 3 1 wv (cnt s.size n) (ints (sweak s n (cnt s.size n))) ∧
      w'.ownsRow w.heap.size 9 1 sv (cnt s.size n) (strs (smarks B s n (cnt s.size n))) ∧
      IsRef w' base b rv (B.adds (pcs s n (cnt s.size n))) ∧ Mods (RB b v) w w' ∧ Dj rv sv ∧ (∀ k, rv.ownBlock = some k → v.ownBlock = some k ∨ w.heap.size ≤ k) := by
  have HL := Lib.hid hL
  have HLT := Lib.hid hb.lt
  have hcl : cnt s.size n ≤ 524288 := Nat.le_trans (cnt_le s.size n (by omega)) hs
  have HB := Lib.hid hb
  clear hb hL
  go_enter Try.func31, Try.ntmps31
  go_wp2_with fail
  refine (f33_calls s n _ hs h1 h2).mono ?_; rintro e w1 ⟨lv, rfl, hl, hm⟩
  have hr0 := heap_alloc_new w (.cells #[.int .i64 0, .int .i64 0, .slice none 0 0, .slice none 0 0] 31)
  have hr1 := heap_alloc_new (w.alloc (.cells #[.int .i64 0, .int .i64 0, .slice none 0 0, .slice none 0 0] 31)) (.cells #[.int .i64 n, .int .i64 s.size, .slice none 0 0, .slice none 0 0] 31)
  have hz : (w.alloc (.cells #[.int .i64 0, .int .i64 0, .slice none 0 0, .slice none 0 0] 31)).heap.size = w.heap.size + 1 := by simp
  rw [hz] at hr1
  have hS0 : SignAtR base b v lv B s n w w1 0 0 (.slice none 0 0) (.slice none 0 0) v := by
    refine ⟨hm.row hr1 (fun h => h), hm.row (row_alloc hr0 _) (fun h => h), World.ownsRow_nil _ _ _ _, World.ownsRow_nil _ _ _ _, own_base hl (by simp; omega), ?_, ?_, ?_, ?_, ?_, fun k hk => .inl hk⟩
    · exact HB.out.nope ((((Mods.refl _ _).alloc _).alloc _).trans hm)
    · exact (((Mods.refl _ _).alloc _).alloc _).then hm (fun _ _ h => h.elim)
    · intro k hk h; simp [Value.ownBlock] at h
    · intro k hk h
      have := (HB.out.own_lt k hk).2
      have := (hl.lt k h).1
      simp at this
      omega
    · intro k hk; simp [Value.ownBlock] at hk
  have HS0 := Lib.hid hS0
  clear hS0 hl hm hr0 hr1 hz
  obtain ⟨A, c, rfl, _, _, _, _⟩ := Rd.of_owns HS0.out.list
  go_wp2_with fail
  go_loopg [10] (cnt s.size n) (fun gk i wr => ∃ k wv sv rv, k ≤ cnt s.size n ∧ gk = cnt s.size n - k ∧ i = .int .i64 (k : Nat) ∧ SignAtR base b v (.slice A (cnt s.size n) c) B s n w wr k k wv sv rv)
  case atStart => exact ⟨0, _, _, _, by omega, by omega, rfl, HS0.out⟩
  case round =>
    obtain ⟨k, wv, sv, rv, hk, rfl, rfl, hS⟩ := hrel
    by_cases hlt : k < cnt s.size n
    · have hps2 : (pc s k n).size ≤ 524288 := by have := pc_size s k n; omega
      have HS := Lib.hid hS
      have HK : Hid (k < cnt s.size n) := hlt
      obtain ⟨lb, cap, hA, hlb1, hlb2⟩ := hS.list.form (by omega)
      injection hA with hA _ hcc
      subst hA
      clear hcc
      have hci : (k : Int) < (cnt s.size n : Int) := by omega
      have hlc : wr.cell? ⟨lb, k, none⟩ = some (.string (pc s k n)) := by
        rw [hS.list.cellAt k (by omega)]
        simp [strs, pcs, hlt]
      have hc2 : wr.cell? ⟨w.heap.size + 1, 2, none⟩ = some wv := by rw [row_cell hS.g]; rfl
      have ha2 : ∀ o, (wr.alloc o).cell? ⟨w.heap.size + 1, 2, none⟩ = some wv := fun o => ((Mods.refl Nope _).alloc o).cell hc2 (fun h => h)
      clear hS
      go_upto_region 10 with fail
      go_cut [] (fun wx => ∃ wv', SignAtR base b v (.slice (some ⟨lb, 0, none⟩) (cnt s.size n) c) B s n w wx (k + 1) k wv' sv rv)
      case first =>
        have HWL := Lib.hid (show (ints (sweak s n k)).length = k by rw [ints_length, sweak_length])
        have HW := Lib.hid (show wr.ownsRow w.heap.size 3 1 wv (ints (sweak s n k)).length (ints (sweak s n k)) by rw [HWL.out]; exact HS.out.weak)
        have hwz : w.heap.size ≤ wr.heap.size := HS.out.mods.size
        go_region_law (first
          | (refine step_app1 _ rfl _ _ 28 3 (.int .i64 0) 8 rfl Try.underlying28 info3 rfl (by decide) wv (ints (sweak s n k)) (.int .i64 (wk (pc s k n))) _ rfl rfl (by simp) rfl w.heap.size (by exact HW.out.alloc _) (by simp; omega) (by rw [HWL.out]; omega) ?_; intro g cap w3 hown3 hg3 hat3
             have HG : Hid (w3.heap[w.heap.size + 1]? = some (.cells #[.int .i64 n, .int .i64 s.size, wv, sv] 31 (0, 0))) := grown_row hg3 (row_alloc HS.out.g _) (own_ne_row HW.out HS.out.g (by decide))
             have hcc : w3.cell? ⟨w.heap.size + 1, 2, none⟩ = some wv := by rw [row_cell HG.out]; rfl
             have hff : w3.frozen? ⟨w.heap.size + 1, 2, none⟩ = false := row_frozen HG.out 2
             rw [HWL.out] at hown3 ⊢
             have HA := Lib.hid (HS.out.addWeak HLT.out (((Mods.refl Nope wr).alloc _).drew) hg3 hown3))
          | (go_simp; go_at_call 59; refine (f59_calls _ _ hps2).mono ?_; rintro e w4 ⟨rfl, rfl⟩))
        all_goals (go_wp2_with fail; go_meet; exact ⟨_, HA.out⟩)
      case rest =>
        obtain ⟨wv', hS1⟩ := hcut
        have hlc1 : wc.cell? ⟨lb, k, none⟩ = some (.string (pc s k n)) := by
          rw [hS1.list.cellAt k (by have := HK.out; omega)]
          simp [strs, pcs, HK.out]
        have HS1 := Lib.hid hS1
        clear hS1 hlc hc2 ha2
        go_wp2_with fail
        have HWL := Lib.hid (show (strs (smarks B s n k)).length = k by rw [strs_length, smarks_length])
        have hwz : w.heap.size ≤ wc.heap.size := HS1.out.mods.size
        have hc2 : wc.cell? ⟨w.heap.size + 1, 3, none⟩ = some sv := by rw [row_cell HS1.out.g]; rfl
        have HLEN : Hid ((B.adds (pcs s n k)).len < 4398046511104) := by unfold Hid; have := B.len_adds (pcs s n k); have := HL.out; have := HK.out; rw [pcs_length] at *; omega
        have HPS : Hid ((pc s k n).size ≤ 140737488351232) := by unfold Hid; omega
        go_region_law (first
          | (refine step_app1 _ rfl _ _ 29 9 (.string ⟨#[]⟩) 16 rfl Try.underlying29 info9 rfl (by decide) sv (strs (smarks B s n k)) (.string ((B.adds (pcs s n k)).mark (pc s k n))) _ rfl rfl (by simp) rfl w.heap.size (by exact HSO.out.alloc _) (by simp; omega) (by rw [HWL.out]; omega) ?_; intro g cap w3 hown3 hg3 hat3
             have HG : Hid (w3.heap[w.heap.size + 1]? = some (.cells #[.int .i64 n, .int .i64 s.size, wv', sv] 31 (0, 0))) := grown_row hg3 (row_alloc HGG.out _) (own_ne_row HSO.out HGG.out (by decide))
             have hcc : w3.cell? ⟨w.heap.size + 1, 3, none⟩ = some sv := by rw [row_cell HG.out]; rfl
             have hff : w3.frozen? ⟨w.heap.size + 1, 3, none⟩ = false := row_frozen HG.out 3
             rw [HWL.out] at hown3 ⊢
             have HA := Lib.hid (HS1.out.addStrong HLT.out HM4.out HB4.out HP4.out (((Mods.refl Nope w4).alloc _)) hg3 hown3 (at_of hat3)))
          | (go_simp; go_at_call 79; refine (f79_calls base b rv (B.adds (pcs s n k)) _ _ (by exact HS1.out.book) HLEN.out HPS.out).mono ?_; rintro e w4 ⟨rfl, rv', hb4, hm4, hp4⟩
             have HB4 := Lib.hid hb4
             have HM4 : Hid (Mods (RB b rv) wc w4) := ((Mods.refl _ wc).drew).trans hm4
             have HP4 : Hid (∀ j, rv'.ownBlock = some j → rv.ownBlock = some j ∨ wc.heap.size ≤ j) := hp4
             have HMM := Lib.hid (HS1.out.marked HLT.out HM4.out hp4)
             have HGG := Lib.hid HMM.out.1
             have HSO : Hid (w4.ownsRow w.heap.size 9 1 sv (strs (smarks B s n k)).length (strs (smarks B s n k))) := by rw [HWL.out]; exact HMM.out.2.2.2.1
             have hz4 : w.heap.size ≤ w4.heap.size := Nat.le_trans hwz HM4.out.size
             have hc4 : w4.cell? ⟨w.heap.size + 1, 3, none⟩ = some sv := by rw [row_cell HGG.out]; rfl
             have ha4 : ∀ o, (w4.alloc o).cell? ⟨w.heap.size + 1, 3, none⟩ = some sv := fun o => ((Mods.refl Nope _).alloc o).cell hc4 (fun h => h)
             clear hb4 hm4 hp4))
        all_goals
          go_wp2_with fail
          go_roundg (cnt s.size n - (k + 1))
          case measure => have := HK.out; omega
          case rel => exact ⟨k + 1, wv', _, _, HK.out, rfl, by go_num, HA.out⟩
    · obtain rfl : k = cnt s.size n := by omega
      obtain ⟨A1, c1, hA1, _, _, hrd, _⟩ := Rd.of_owns hS.weak
      obtain ⟨A', c', hA', _, _, hrd', _⟩ := Rd.of_owns hS.strong
      subst hA1
      subst hA'
      have g0 : wr.cell? ⟨w.heap.size + 1, 0, none⟩ = some (.int .i64 n) := by rw [row_cell hS.g]; rfl
      have g1 : wr.cell? ⟨w.heap.size + 1, 1, none⟩ = some (.int .i64 s.size) := by rw [row_cell hS.g]; rfl
      have g2 : wr.cell? ⟨w.heap.size + 1, 2, none⟩ = some (.slice A1 (cnt s.size n) c1) := by rw [row_cell hS.g]; rfl
      have g3 : wr.cell? ⟨w.heap.size + 1, 3, none⟩ = some (.slice A' (cnt s.size n) c') := by rw [row_cell hS.g]; rfl
      have r0 : wr.cell? ⟨w.heap.size, 0, none⟩ = some (.int .i64 0) := by rw [row_cell hS.res]; rfl
      have r1 : wr.cell? ⟨w.heap.size, 1, none⟩ = some (.int .i64 0) := by rw [row_cell hS.res]; rfl
      have r2 : wr.cell? ⟨w.heap.size, 2, none⟩ = some (.slice none 0 0) := by rw [row_cell hS.res]; rfl
      have r3 : wr.cell? ⟨w.heap.size, 3, none⟩ = some (.slice none 0 0) := by rw [row_cell hS.res]; rfl
      have f0 : ∀ j, wr.frozen? ⟨w.heap.size, j, none⟩ = false := fun j => row_frozen hS.res j
      have HS := Lib.hid hS
      clear hS hrd hrd'
      go_wp2
      refine bodyPost_ret (v := .tuple #[sigV n s.size (.slice A1 (cnt s.size n) c1) (.slice A' (cnt s.size n) c'), .int .i64 0]) (by simp [results, Try.results31, go_sem, r0, r1, r2, r3, sigV]) rfl ⟨_, _, rv, rfl, ?_⟩
      have hM := Lib.hid (((((Mods.refl (fun j => j = w.heap.size) wr).setCell ⟨w.heap.size, 0, none⟩ (fun _ => rfl) (.int .i64 n)).setCell ⟨w.heap.size, 1, none⟩ (fun _ => rfl) (.int .i64 s.size)).setCell ⟨w.heap.size, 2, none⟩ (fun _ => rfl) (.slice A1 (cnt s.size n) c1)).setCell ⟨w.heap.size, 3, none⟩ (fun _ => rfl) (.slice A' (cnt s.size n) c'))
      obtain ⟨_, _, ho⟩ := HS.out.book.owns
      refine ⟨hM.out.owns HS.out.weak ?_, hM.out.owns HS.out.strong ?_, HS.out.book.mods hM.out ?_ ?_, HS.out.mods.then hM.out (fun j hj e => by omega), HS.out.d1, HS.out.prov⟩
      · exact own_ne_row HS.out.weak HS.out.res (by decide)
      · exact own_ne_row HS.out.strong HS.out.res (by decide)
      · have := HLT.out; omega
      · exact own_ne_row ho HS.out.res (by decide)
end Go.Proofs.Ytblhbbgkkijkfaa
namespace Go.Proofs.Ytblhbbgkkijkfaa
open Go.RowKit Go.Maps
/-- May a signature be? -/
def SigOK (blk size : Int) (ws : List Int) (ms : List ByteArray) : Prop :=
  16 ≤ blk ∧ blk ≤ 1024 ∧ 0 ≤ size ∧ size ≤ 524288 ∧ ws.length = cnt size.toNat blk.toNat ∧ ms.length = ws.length ∧ (∀ x ∈ ws, 0 ≤ x ∧ x ≤ 4294967295) ∧ (∀ m ∈ ms, m.size = 32)
open Classical in
noncomputable def sigB (blk size : Int) (ws : List Int) (ms : List ByteArray) : Bool := decide (SigOK blk size ws ms)
theorem sigB_true {blk size : Int} {ws : List Int} {ms : List ByteArray} : sigB blk size ws ms = true ↔ SigOK blk size ws ms := by simp [sigB]
theorem sigB_false {blk size : Int} {ws : List Int} {ms : List ByteArray} (h : ¬ SigOK blk size ws ms) : sigB blk size ws ms = false := by simp [sigB, h]
/-- What the loop has held so far. -/
def SigUpto (ws : List Int) (ms : List ByteArray) (k : Nat) : Prop := ∀ i (h1 : i < ws.length) (h2 : i < ms.length), i < k → 0 ≤ ws[i] ∧ ws[i] ≤ 4294967295 ∧ ms[i].size = 32
theorem SigUpto.step {ws : List Int} {ms : List ByteArray} {k : Nat} (h : SigUpto ws ms k) (h1 : k < ws.length) (h2 : k < ms.length) (a : 0 ≤ ws[k]) (b : ws[k] ≤ 4294967295) (c : ms[k].size = 32) : SigUpto ws ms (k + 1) := by
  intro i i1 i2 hi
  rcases Nat.lt_or_ge i k with hlt | hge
  · exact h i i1 i2 hlt
  · obtain rfl : i = k := by omega
    exact ⟨a, b, c⟩
theorem SigUpto.all {ws : List Int} {ms : List ByteArray} {k : Nat} (h : SigUpto ws ms k) (hk : ws.length ≤ k) (hl : ms.length = ws.length) : (∀ x ∈ ws, 0 ≤ x ∧ x ≤ 4294967295) ∧ (∀ m ∈ ms, m.size = 32) := by
  refine ⟨fun x hx => ?_, fun m hm => ?_⟩
  · obtain ⟨i, hi, rfl⟩ := List.getElem_of_mem hx
    exact ⟨(h i hi (by omega) (by omega)).1, (h i hi (by omega) (by omega)).2.1⟩
  · obtain ⟨i, hi, rfl⟩ := List.getElem_of_mem hm
    exact (h i (by omega) hi (by omega)).2.2
theorem rd_new {w : World} {A : Option Addr} {vs : List Value} (h : Rd w A vs) (o : Obj) (n : Nat) : Rd ((w.alloc o).drewN n) A vs := h.below (((Mods.refl Nope w).alloc o).drewN n)
set_option maxRecDepth 100000 in
set_option maxHeartbeats 2000000 in
theorem f35_calls (blk size : Int) (A A' : Option Addr) (c c' : Nat) (ws : List Int) (ms : List ByteArray) (w : World) (hw : Rd w A (ints ws)) (hs : Rd w A' (strs ms)) (hz : ∀ m ∈ ms, m.size ≤ maxLen) :
    Calls Try.prog 35 #[.agg #[.int .i64 blk, .int .i64 size, .slice A ws.length c, .slice A' ms.length c']] w fun e w' => e = .returned (.bool (sigB blk size ws ms)) ∧ Mods Nope w w' := by
  have HW := Lib.hid hw
  have HS := Lib.hid hs
  have HZ := Lib.hid hz
  clear hw hs hz
  by_cases hf : 16 ≤ blk ∧ blk ≤ 1024
  · have hfit : fitsB blk = true := fitsB_true.2 hf
    obtain ⟨b, rfl⟩ := Int.eq_ofNat_of_zero_le (show 0 ≤ blk by omega)
    by_cases h0 : 0 ≤ size
    · by_cases h5 : size ≤ 524288
      · obtain ⟨n, rfl⟩ := Int.eq_ofNat_of_zero_le h0
        have hn : n ≤ 524288 := by omega
        have hb1 : 16 ≤ b := by omega
        have hb2 : b ≤ 1024 := by omega
        by_cases hc : ws.length = cnt n b
        · by_cases hm : ms.length = ws.length
          · have hbl : (((ms.length : Nat) : Int) != ((ws.length : Nat) : Int)) = false := by simp [hm]
            have hbc : (((ws.length : Nat) : Int) != ((cnt n b : Nat) : Int)) = false := by simp [hc]
            have hwl : ws.length ≤ 524288 := by rw [hc]; exact Nat.le_trans (cnt_le n b (by omega)) hn
            have HM := Lib.hid hm
            have HC := Lib.hid hc
            clear hm hc
            go_enter Try.func35, Try.ntmps35
            go_upto_region 1 with fail
            go_quiet ((first | (go_at_call 74; refine Calls.quiet_of_same (f74_calls _ _)) | (go_at_call 75; refine Calls.quiet_of_same (f75_calls _ _ _ hn hb1 hb2)) | fail))
            go_wp2_with fail
            go_loop [42] (fun i => ∃ k : Nat, k ≤ ws.length ∧ i = .int .i64 (k : Nat) ∧ SigUpto ws ms k) (fun i => ws.length - (intOf i).toNat)
            case atStart => exact ⟨0, Nat.zero_le _, rfl, fun i _ _ h => absurd h (Nat.not_lt_zero _)⟩
            case round =>
              obtain ⟨k, hk, rfl, hu⟩ := hrel
              have HU := Lib.hid hu
              clear hu
              by_cases hlt : k < ws.length
              · have hlt2 : k < ms.length := by have := HM.out; omega
                obtain ⟨g, off, hA, hc1⟩ := HW.out.int k hlt
                obtain ⟨g', off', hA', hc2⟩ := HS.out.str k hlt2
                have b1 : (k : Int) < (ws.length : Int) := by omega
                have b2 : (k : Int) < (ms.length : Int) := by omega
                have c1 : ∀ o n, ((w.alloc o).drewN n).cell? ⟨g, off + k, none⟩ = some (.int .i64 ws[k]) := fun o n => (((Mods.refl Nope w).alloc o).drewN n).cell hc1 (fun h => h)
                have c2 : ∀ o n, ((w.alloc o).drewN n).cell? ⟨g', off' + k, none⟩ = some (.string ms[k]) := fun o n => (((Mods.refl Nope w).alloc o).drewN n).cell hc2 (fun h => h)
                subst hA
                subst hA'
                by_cases q1 : 0 ≤ ws[k]
                · by_cases q2 : ws[k] ≤ 4294967295
                  · by_cases q3 : ms[k].size = 32
                    · have hq : (((ms[k].size : Nat) : Int) != 32) = false := by simp; omega
                      have HU' := Lib.hid (HU.out.step hlt hlt2 q1 q2 q3)
                      clear q3 hc1 hc2
                      go_wp2
                      go_round
                      case rel => exact ⟨k + 1, by omega, by go_num, HU'.out⟩
                      case measure => simp [intOf]; omega
                    · have hq : (((ms[k].size : Nat) : Int) != 32) = true := by simp; omega
                      have HQ := Lib.hid (sigB_false (blk := b) (size := n) (ws := ws) (ms := ms) (fun h => q3 (h.2.2.2.2.2.2.2 _ (List.getElem_mem hlt2))))
                      clear q3 hc1 hc2
                      go_wp2
                      go_ret
                      exact ⟨ret_bool HQ.out.symm, ((Mods.refl _ _).alloc _).drewN _⟩
                  · have HQ := Lib.hid (sigB_false (blk := b) (size := n) (ws := ws) (ms := ms) (fun h => q2 (h.2.2.2.2.2.2.1 _ (List.getElem_mem hlt)).2))
                    clear hc1 hc2
                    go_wp2
                    go_ret
                    exact ⟨ret_bool HQ.out.symm, ((Mods.refl _ _).alloc _).drewN _⟩
                · have HQ := Lib.hid (sigB_false (blk := b) (size := n) (ws := ws) (ms := ms) (fun h => q1 (h.2.2.2.2.2.2.1 _ (List.getElem_mem hlt)).1))
                  clear hc1 hc2
                  go_wp2
                  go_ret
                  exact ⟨ret_bool HQ.out.symm, ((Mods.refl _ _).alloc _).drewN _⟩
              · have HQ : Hid (sigB b n ws ms = true) := by
                  unfold Hid
                  rw [sigB_true]
                  obtain ⟨a1, a2⟩ := HU.out.all (by omega) HM.out
                  exact ⟨by omega, by omega, by omega, by omega, by simpa using HC.out, HM.out, a1, a2⟩
                go_wp2
                go_ret
                exact ⟨ret_bool HQ.out.symm, ((Mods.refl _ _).alloc _).drewN _⟩
          · have HQ := Lib.hid (sigB_false (blk := b) (size := n) (ws := ws) (ms := ms) (fun h => hm h.2.2.2.2.2.1))
            have hbl : (((ms.length : Nat) : Int) != ((ws.length : Nat) : Int)) = true := by simp; omega
            have hbc : (((ws.length : Nat) : Int) != ((cnt n b : Nat) : Int)) = false := by simp [hc]
            clear hm hc
            go_enter Try.func35, Try.ntmps35
            go_upto_region 1 with fail
            go_quiet ((first | (go_at_call 74; refine Calls.quiet_of_same (f74_calls _ _)) | (go_at_call 75; refine Calls.quiet_of_same (f75_calls _ _ _ hn hb1 hb2)) | fail))
            go_wp2
            go_ret
            exact ⟨ret_bool HQ.out.symm, ((Mods.refl _ _).alloc _).drewN _⟩
        · have HQ := Lib.hid (sigB_false (blk := b) (size := n) (ws := ws) (ms := ms) (fun h => hc (by simpa using h.2.2.2.2.1)))
          have hbc : (((ws.length : Nat) : Int) != ((cnt n b : Nat) : Int)) = true := by simp; omega
          clear hc
          go_enter Try.func35, Try.ntmps35
          go_upto_region 1 with fail
          go_quiet ((first | (go_at_call 74; refine Calls.quiet_of_same (f74_calls _ _)) | (go_at_call 75; refine Calls.quiet_of_same (f75_calls _ _ _ hn hb1 hb2)) | fail))
          go_wp2
          go_ret
          exact ⟨ret_bool HQ.out.symm, ((Mods.refl _ _).alloc _).drewN _⟩
      · have HQ := Lib.hid (sigB_false (blk := b) (size := size) (ws := ws) (ms := ms) (by unfold SigOK; omega))
        have hd : decide (size < 0) = false := by simp; omega
        have hd2 : decide (524288 < size) = true := by simp; omega
        go_enter Try.func35, Try.ntmps35
        go_upto_region 1 with fail
        go_quiet ((first | (go_at_call 74; refine Calls.quiet_of_same (f74_calls _ _)) | fail))
        go_wp2
        go_ret
        exact ⟨ret_bool HQ.out.symm, ((Mods.refl _ _).alloc _).drewN _⟩
    · have HQ := Lib.hid (sigB_false (blk := b) (size := size) (ws := ws) (ms := ms) (by unfold SigOK; omega))
      have hd : decide (size < 0) = true := by simp; omega
      go_enter Try.func35, Try.ntmps35
      go_upto_region 1 with fail
      go_quiet ((first | (go_at_call 74; refine Calls.quiet_of_same (f74_calls _ _)) | fail))
      go_wp2
      go_ret
      exact ⟨ret_bool HQ.out.symm, ((Mods.refl _ _).alloc _).drewN _⟩
  · have hfit : fitsB blk = false := fitsB_false.2 (by omega)
    have HQ := Lib.hid (sigB_false (blk := blk) (size := size) (ws := ws) (ms := ms) (by unfold SigOK; omega))
    go_enter Try.func35, Try.ntmps35
    go_upto_region 1 with fail
    go_quiet ((first | (go_at_call 74; refine Calls.quiet_of_same (f74_calls _ _)) | fail))
    go_wp2
    go_ret
    exact ⟨ret_bool HQ.out.symm, ((Mods.refl _ _).alloc _).drewN _⟩
end Go.Proofs.Ytblhbbgkkijkfaa
namespace Go.Proofs.Ytblhbbgkkijkfaa
open Go.RowKit Go.Maps
theorem f32_at (A B : Option Addr) (c d l m : Nat) (xs ys : List Int) (w : World) (h1 : xs.length = l) (h2 : ys.length = m) (hx : Rd w A (ints xs)) (hy : Rd w B (ints ys)) (hl : l ≤ 1125899906842624) :
    Calls Try.prog 32 #[.slice A l c, .slice B m d] w fun e w' => e = .returned (.bool (intsEq xs ys)) ∧ Mods Nope w w' := by
  subst h1; subst h2
  exact (f32_calls A B c d xs ys w hx hy hl).mono fun e w' ⟨he, n, hn⟩ => ⟨he, by subst hn; exact (Mods.refl _ _).drewN n⟩
theorem f35_at (blk size : Int) (A A' : Option Addr) (c c' l m : Nat) (ws : List Int) (ms : List ByteArray) (w : World) (h1 : ws.length = l) (h2 : ms.length = m) (hw : Rd w A (ints ws)) (hs : Rd w A' (strs ms)) (hz : ∀ m ∈ ms, m.size ≤ maxLen) :
    Calls Try.prog 35 #[.agg #[.int .i64 blk, .int .i64 size, .slice A l c, .slice A' m c']] w fun e w' => e = .returned (.bool (sigB blk size ws ms)) ∧ Mods Nope w w' := by
  subst h1; subst h2
  exact f35_calls blk size A A' c c' ws ms w hw hs hz
theorem f31_err (p : Value) (s : ByteArray) (x : Int) (w : World) (h : fitsB x = false) :
    Calls Try.prog 31 #[p, .string s, .int .i64 x] w fun e w' => e = .returned (.tuple #[sigV 0 0 (.slice none 0 0) (.slice none 0 0), .int .i64 1]) ∧ Mods Nope w w' := by
  have hx := fitsB_false.1 h
  by_cases h1 : x < 16
  · go_enter Try.func31, Try.ntmps31
    go_wp2
    refine bodyPost_ret (v := .tuple #[sigV 0 0 (.slice none 0 0) (.slice none 0 0), .int .i64 1]) (by simp [results, Try.results31, go_sem, sigV]) rfl ⟨rfl, ?_⟩
    exact (Mods.refl _ _).alloc _
  · have h2 : 1024 < x := by omega
    go_enter Try.func31, Try.ntmps31
    go_wp2
    refine bodyPost_ret (v := .tuple #[sigV 0 0 (.slice none 0 0) (.slice none 0 0), .int .i64 1]) (by simp [results, Try.results31, go_sem, sigV]) rfl ⟨rfl, ?_⟩
    exact (Mods.refl _ _).alloc _
/-- What Sign has made may be. -/
theorem sigOK_sign (B : Bk) (s : ByteArray) (n : Nat) (hs : s.size ≤ 524288) (h1 : 16 ≤ n) (h2 : n ≤ 1024) (hB : ∀ l t, ((B.adds l).mark t).size = 32) :
    SigOK n s.size (sweak s n (cnt s.size n)) (smarks B s n (cnt s.size n)) := by
  refine ⟨by omega, by omega, by omega, by omega, by rw [sweak_length]; simp, by rw [sweak_length, smarks_length], ?_, ?_⟩
  · intro x hx
    simp only [sweak, List.mem_map] at hx
    obtain ⟨t, _, rfl⟩ := hx
    unfold wk
    omega
  · intro m hm'
    simp only [smarks, List.mem_map] at hm'
    obtain ⟨t, _, rfl⟩ := hm'
    exact hB _ t
theorem ideal_mark_size (L : List ByteArray) (l : List ByteArray) (t : ByteArray) : (((Bk.ideal L).adds l).mark t).size = 32 := by
  have : ∃ L', (Bk.ideal L).adds l = .ideal L' := by
    induction l generalizing L with
    | nil => exact ⟨L, rfl⟩
    | cons s l ih => rw [Bk.adds_cons]; exact ih _
  obtain ⟨L', h⟩ := this
  rw [h]
  exact mark_size _
end Go.Proofs.Ytblhbbgkkijkfaa
