/- (*sign.Table).Match, Tail, walked. -/
import Derived.Test.YtblhbbgkkijkfaaN4
namespace Go.Proofs.Ytblhbbgkkijkfaa
open Go.RowKit Go.Maps
/-- Which block marking may change: an ideal book's map alone. -/
def MK : Bk → Nat → Nat → Prop
  | .ideal _, mb, k => k = mb
  | .real _, _, _ => False
theorem MK.add (B : Bk) (s : ByteArray) (mb : Nat) : MK (B.add s) mb = MK B mb := by cases B <;> rfl
theorem MK.lt {w : World} {b mb k : Nat} {B : Bk} (h : IsBook w b mb B) (hk : MK B mb k) : k < w.heap.size := by
  cases B with
  | ideal L => exact hk ▸ h.lt.2
  | real f => exact hk.elim
theorem book_row {w : World} {b mb g e : Nat} {B : Bk} {cs : Array Value} {fr : Nat × Nat} (hb : IsBook w b mb B) (hg : w.heap[g]? = some (.cells cs e fr)) : ¬ MK B mb g := by
  cases B with
  | ideal L =>
    rintro rfl
    obtain ⟨_, _, _, _, D, ⟨es, clock, h, _⟩, _⟩ := hb
    rw [h] at hg
    cases hg
  | real f => exact fun h => h
theorem book_own {w : World} {b mb base e s n : Nat} {B : Bk} {v : Value} {xs : List Value} (hb : IsBook w b mb B) (ho : w.ownsRow base e s v n xs) : ∀ k, v.ownBlock = some k → ¬ MK B mb k := by
  intro k hk
  rcases ho.2 with ⟨rfl, _⟩ | ⟨g, cap, cur, rfl, _, hh, _⟩
  · simp [Value.ownBlock] at hk
  · obtain rfl : g = k := by simpa [Value.ownBlock] using hk
    exact book_row hb hh
theorem f78_mk (b mb : Nat) (B : Bk) (s : ByteArray) (w : World) (hb : IsBook w b mb B) (hL : B.len < 1125899906842624) (hs : s.size ≤ 140737488351232) :
    Calls Try.prog 78 #[.pointer (some ⟨b, 0, none⟩), .string s] w fun e w' => e = .returned (.string (B.mark s)) ∧ IsBook w' b mb (B.add s) ∧ Mods (MK B mb) w w' := by
  cases B with
  | ideal L => exact f78_ideal b mb L s w hb hL (by unfold maxLen; omega)
  | real f =>
    obtain rfl : mb = b := hb.2.1
    exact (f78_real mb f s w hb hs).mono fun e w' ⟨he, hm⟩ => ⟨he, hb.nope hm, hm.any _⟩
theorem Tbl.marked {B T b mb : Nat} {blk size : Int} {ws : List Int} {ms : List ByteArray} {bs : List Int} {wv sv kv bv : Value} {w w' : World} {K : Bk} (h : Tbl w B T blk size ws ms bs wv sv kv bv) (hb : IsBook w b mb K) (hm : Mods (MK K mb) w w') : Tbl w' B T blk size ws ms bs wv sv kv bv :=
  ⟨h.base, hm.row h.row (book_row hb h.row), hm.owns h.weak (book_own hb h.weak), hm.owns h.strong (book_own hb h.strong), hm.owns h.keys (book_own hb h.keys), hm.owns h.blocks (book_own hb h.blocks)⟩
/-- Which of these blocks a text is: the wanted one, else the first. -/
def mgo (ms : List ByteArray) (mk : ByteArray) (wanted : Int) : List Int → Int → Int
  | [], f => f
  | i :: l, f => if ms.getD i.toNat ⟨#[]⟩ = mk then (if i = wanted then i else mgo ms mk wanted l (if f < 0 then i else f)) else mgo ms mk wanted l f
def mtc (ws : List Int) (ms : List ByteArray) (Q blk : Nat) (B : Bk) (x : Int) (s : ByteArray) (wanted : Int) : Int :=
  if fnd ws Q x ≠ [] ∧ s.size = blk then mgo ms (B.mark s) wanted (fnd ws Q x) (-1) else -1
def mtcB (ws : List Int) (Q blk : Nat) (B : Bk) (x : Int) (s : ByteArray) : Bk := if fnd ws Q x ≠ [] ∧ s.size = blk then B.add s else B
theorem mgo_range {ms : List ByteArray} {mk : ByteArray} {wanted : Int} : ∀ {l : List Int} {f : Int}, (∀ i ∈ l, 0 ≤ i) → -1 ≤ f → -1 ≤ mgo ms mk wanted l f
  | [], f, _, h => h
  | i :: l, f, hl, h => by
    have hi := hl i (by simp)
    have hl' : ∀ i ∈ l, 0 ≤ i := fun j hj => hl j (by simp [hj])
    unfold mgo
    split
    · split
      · omega
      · split
        · exact mgo_range hl' (by omega)
        · exact mgo_range hl' h
    · exact mgo_range hl' h
def MtcPost (ws : List Int) (ms : List ByteArray) (Q blk : Nat) (B : Bk) (b mb : Nat) (x : Int) (s : ByteArray) (wanted : Int) (w : World) (e : Ending) (w' : World) : Prop :=
  e = .returned (.int .i64 (mtc ws ms Q blk B x s wanted)) ∧ IsBook w' b mb (mtcB ws Q blk B x s) ∧ Mods (MK B mb) w w'
set_option maxRecDepth 100000 in
set_option maxHeartbeats 4000000 in
theorem f41_calls (B T Q b mb blk : Nat) (K : Bk) (size : Int) (ws : List Int) (ms : List ByteArray) (bs : List Int) (wv sv kv bv : Value) (x : Int) (s : ByteArray) (wanted : Int) (w : World)
    (h : Tbl w B T blk size ws ms bs wv sv kv bv) (hp : bs.Perm (rng Q)) (hso : bs.Pairwise (Rl ws)) (hQ : Q ≤ 524288) (hQm : Q ≤ ms.length) (hb : IsBook w b mb K) (hL : K.len < 1125899906842624) (hs : s.size ≤ 140737488351232) :
    Calls Try.prog 41 #[.pointer (some ⟨T, 0, none⟩), .pointer (some ⟨b, 0, none⟩), .int .i64 x, .string s, .int .i64 wanted] w (MtcPost ws ms Q blk K b mb x s wanted w) := by
  have HT := Lib.hid h
  have HB := Lib.hid hb
  have HL := Lib.hid hL
  have HS := Lib.hid hs
  have HC := Lib.hid (f40_calls B T Q blk size ws ms bs wv sv kv bv x w h hp hso hQ)
  have HFM := Lib.hid (fun i (hi : i ∈ fnd ws Q x) => fnd_mem hi)
  have HFL := Lib.hid (Nat.le_trans (fnd_len ws Q x) hQ)
  have hs63 : s.size ≤ 9223372036854775807 := by omega
  have hfl : (fnd ws Q x).length ≤ 524288 := Nat.le_trans (fnd_len ws Q x) hQ
  clear h hb hL hs hp hso
  obtain ⟨R, hR⟩ : ∃ R, R = mtc ws ms Q blk K x s wanted := ⟨_, rfl⟩
  obtain ⟨KB, hKB⟩ : ∃ KB, KB = mtcB ws Q blk K x s := ⟨_, rfl⟩
  unfold MtcPost
  rw [← hR, ← hKB]
  have HR := Lib.hid hR
  have HKB := Lib.hid hKB
  unfold mtc at HR
  unfold mtcB at HKB
  clear hR hKB
  generalize fnd ws Q x = fl at *
  go_enter Try.func41, Try.ntmps41
  go_wp2_with fail
  refine HC.out.mono ?_; rintro e w1 ⟨v1, rfl, ho1, hm1⟩
  have HT1 := Lib.hid (HT.out.nope hm1)
  have HB1 := Lib.hid (HB.out.nope hm1)
  have HM1 := Lib.hid hm1
  have HO1 := Lib.hid ho1
  obtain ⟨A1, c1, rfl, _, _, hr1, _⟩ := Rd.of_owns ho1
  have HRD := Lib.hid hr1
  obtain ⟨t0, _, _, t3, _, _, _⟩ := cells6 HT1.out.row
  clear ho1 hm1 hr1
  by_cases h0 : fl = []
  · have hl0 : ((fl.length : Nat) : Int) = 0 := by rw [h0]; rfl
    have HLL := Lib.hid hl0
    have hb0 : (((fl.length : Nat) : Int) == 0) = true := by rw [hl0]; rfl
    have HR1 : Hid (R = -1) := by unfold Hid; rw [HR.out, if_neg (fun h => h.1 h0)]
    have HKB1 : Hid (KB = K) := by unfold Hid; rw [HKB.out, if_neg (fun h => h.1 h0)]
    clear h0 hl0
    go_wp2
    go_ret
    obtain rfl := HR1.out; obtain rfl := HKB1.out; exact ⟨rfl, HB1.out, HM1.out.any _⟩
  have hb0 : (((fl.length : Nat) : Int) == 0) = false := by
    have := List.length_pos_iff.2 h0
    simp; omega
  by_cases hsz : s.size = blk
  rotate_left
  · have hbs : (((s.size : Nat) : Int) != ((blk : Nat) : Int)) = true := by simp; omega
    have HR1 : Hid (R = -1) := by unfold Hid; rw [HR.out, if_neg (fun h => hsz h.2)]
    have HKB1 : Hid (KB = K) := by unfold Hid; rw [HKB.out, if_neg (fun h => hsz h.2)]
    clear h0 hsz
    go_wp2
    go_ret
    obtain rfl := HR1.out; obtain rfl := HKB1.out; exact ⟨rfl, HB1.out, HM1.out.any _⟩
  have hbs : (((s.size : Nat) : Int) != ((blk : Nat) : Int)) = false := by simp; omega
  have HR1 : Hid (R = mgo ms (K.mark s) wanted fl (-1)) := by unfold Hid; rw [HR.out, if_pos ⟨h0, hsz⟩]
  have HKB1 : Hid (KB = K.add s) := by unfold Hid; rw [HKB.out, if_pos ⟨h0, hsz⟩]
  clear h0 hsz
  go_wp2_with fail
  refine (f78_mk b mb K s _ HB1.out HL.out HS.out).mono ?_; rintro e w2 ⟨rfl, hb2, hm2⟩
  have HT2 := Lib.hid (HT1.out.marked HB1.out hm2)
  have HO2 := Lib.hid (hm2.owns HO1.out (book_own HB1.out HO1.out))
  have HB2 := Lib.hid hb2
  have HM2 := Lib.hid ((HM1.out.any (MK K mb)).trans hm2)
  obtain ⟨_, _, hA, _, _, hr2, _⟩ := Rd.of_owns HO2.out
  injection hA with hA _ hcc
  subst hA
  clear hcc
  have HRD2 := Lib.hid hr2
  obtain ⟨As, cs, hsv, _, _, hrs, _⟩ := Rd.of_owns HT2.out.strong
  subst hsv
  have HRS := Lib.hid hrs
  generalize K.mark s = mk at *
  clear hb2 hm2 hr2 t0 t3 hrs
  obtain ⟨_, _, _, t3, _, _, _⟩ := cells6 HT2.out.row
  go_wp2_with fail
  go_loop [13, 41] (fun f i => ∃ (k : Nat) (fv : Int), k ≤ fl.length ∧ i = .int .i64 (k : Nat) ∧ f = .int .i64 fv ∧ R = mgo ms mk wanted (fl.drop k) fv) (fun _ i => fl.length - (intOf i).toNat)
  case atStart => exact ⟨0, -1, by omega, rfl, rfl, by rw [List.drop_zero]; exact HR1.out⟩
  case round =>
    obtain ⟨k, fv, hk, rfl, rfl, hRk⟩ := hrel
    have HRK := Lib.hid hRk
    clear hRk
    by_cases hlt : k < fl.length
    · obtain ⟨g1, o1, hA1, hc1⟩ := HRD2.out.int k hlt
      have HDR : Hid (fl.drop k = fl[k] :: fl.drop (k + 1)) := List.drop_eq_getElem_cons hlt
      have hmem : fl[k] ∈ fl := List.getElem_mem hlt
      generalize fl[k] = i at hc1 HDR hmem
      obtain ⟨hi0, hiQ, _⟩ := HFM.out i hmem
      obtain ⟨j, rfl⟩ := Int.eq_ofNat_of_zero_le hi0
      have hjl : j < ms.length := by omega
      obtain ⟨g2, o2, hA2, hc2⟩ := HRS.out.str j hjl
      have hjm : ms[j] = ms.getD j ⟨#[]⟩ := by simp [List.getD_eq_getElem?_getD, hjl]
      rw [hjm] at hc2
      have hji : (j : Int) < (ms.length : Int) := by omega
      have hki : (k : Int) < (fl.length : Int) := by omega
      subst hA1
      subst hA2
      clear hmem hi0 hiQ hjm
      by_cases he : ms.getD j ⟨#[]⟩ = mk
      · have hse : ((ms.getD j ⟨#[]⟩).toList == mk.toList) = true := str_eq he
        by_cases hw : (j : Int) = wanted
        · have hwb : ((j : Int) == wanted) = true := by simp [hw]
          have HF : Hid (R = (j : Int)) := by unfold Hid; rw [HRK.out, HDR.out, mgo, if_pos (by simpa using he), if_pos hw]
          generalize ms.getD j ⟨#[]⟩ = t at *
          clear he hw
          go_wp2
          go_ret
          obtain rfl := HF.out; obtain rfl := HKB1.out; exact ⟨rfl, HB2.out, HM2.out⟩
        · have hwb : ((j : Int) == wanted) = false := by simpa using hw
          have HF : Hid (R = mgo ms mk wanted (fl.drop (k + 1)) (if fv < 0 then (j : Int) else fv)) := by unfold Hid; rw [HRK.out, HDR.out, mgo, if_pos (by simpa using he), if_neg hw]
          generalize ms.getD j ⟨#[]⟩ = t at *
          clear he hw
          by_cases hf : fv < 0
          · rw [if_pos hf] at HF
            go_wp2_with fail
            go_round
            case rel => exact ⟨k + 1, _, hlt, by go_num, rfl, HF.out⟩
            case measure => simp [intOf]; omega
          · rw [if_neg hf] at HF
            go_wp2_with fail
            go_round
            case rel => exact ⟨k + 1, _, hlt, by go_num, rfl, HF.out⟩
            case measure => simp [intOf]; omega
      · have hse : ((ms.getD j ⟨#[]⟩).toList == mk.toList) = false := str_ne he
        have HF : Hid (R = mgo ms mk wanted (fl.drop (k + 1)) fv) := by unfold Hid; rw [HRK.out, HDR.out, mgo, if_neg (by simpa using he)]
        generalize ms.getD j ⟨#[]⟩ = t at *
        clear he
        go_wp2_with fail
        go_round
        case rel => exact ⟨k + 1, _, hlt, by go_num, rfl, HF.out⟩
        case measure => simp [intOf]; omega
    · have HF : Hid (R = fv) := by unfold Hid; rw [HRK.out, List.drop_eq_nil_of_le (by omega)]; rfl
      go_wp2
      go_ret
      obtain rfl := HF.out; obtain rfl := HKB1.out; exact ⟨rfl, HB2.out, HM2.out⟩
end Go.Proofs.Ytblhbbgkkijkfaa
