/- (*sign.Table).Match, Tail, walked. (*sign.Table).Tail, walked. Plain words: which block of a signed text another text is. -/
import Derived.Test.YtblhbbgkkijkfaaN5
import Derived.Deep.RegionHeld3
namespace Go.Proofs.Ytblhbbgkkijkfaa
open Go.RowKit Go.Maps
/-- Which block marking may change: an ideal book's map alone. -/
def MK : Bk → Nat → Nat → Prop
  | .ideal _, mb, k => k = mb
  | .real _, _, _ => False
theorem MK.add (B : Bk) (s : ByteArray) (mb : Nat) : MK (B.add s) mb = MK B mb := by cases B <;> rfl
theorem MK.lt {w : World} {b mb k : Nat} {B : Bk} (h : IsBook w b mb B) (hk : MK B mb k) : k < w.heap.size := by
  cases B with
  | ideal L => exact hk ▸ h.lt.2
  | real f => exact hk.elim
theorem book_row {w : World} {b mb g e : Nat} {B : Bk} {cs : Array Value} {fr : Nat × Nat} (hb : IsBook w b mb B) (hg : w.heap[g]? = some (.cells cs e fr)) : ¬ MK B mb g := by
  cases B with
  | ideal L =>
    rintro rfl
    obtain ⟨_, _, _, _, D, ⟨es, clock, h, _⟩, _⟩ := hb
    rw [h] at hg
    cases hg
  | real f => exact fun h => h
theorem book_own {w : World} {b mb base e s n : Nat} {B : Bk} {v : Value} {xs : List Value} (hb : IsBook w b mb B) (ho : w.ownsRow base e s v n xs) : ∀ k, v.ownBlock = some k → ¬ MK B mb k := by
  intro k hk
  rcases ho.2 with ⟨rfl, _⟩ | ⟨g, cap, cur, rfl, _, hh, _⟩
  · simp [Value.ownBlock] at hk
  · obtain rfl : g = k := by simpa [Value.ownBlock] using hk
    exact book_row hb hh
theorem f78_mk (b mb : Nat) (B : Bk) (s : ByteArray) (w : World) (hb : IsBook w b mb B) (hL : B.len < 1125899906842624) (hs : s.size ≤ 140737488351232) :
    Calls Try.prog 78 #[.pointer (some ⟨b, 0, none⟩), .string s] w fun e w' => e = .returned (.string (B.mark s)) ∧ IsBook w' b mb (B.add s) ∧ Mods (MK B mb) w w' := by
  cases B with
  | ideal L => exact f78_ideal b mb L s w hb hL (by unfold maxLen; omega)
  | real f =>
    obtain rfl : mb = b := hb.2.1
    exact (f78_real mb f s w hb hs).mono fun e w' ⟨he, hm⟩ => ⟨he, hb.nope hm, hm.any _⟩
theorem Tbl.marked {B T b mb : Nat} {blk size : Int} {ws : List Int} {ms : List ByteArray} {bs : List Int} {wv sv kv bv : Value} {w w' : World} {K : Bk} (h : Tbl w B T blk size ws ms bs wv sv kv bv) (hb : IsBook w b mb K) (hm : Mods (MK K mb) w w') : Tbl w' B T blk size ws ms bs wv sv kv bv :=
  ⟨h.base, hm.row h.row (book_row hb h.row), hm.owns h.weak (book_own hb h.weak), hm.owns h.strong (book_own hb h.strong), hm.owns h.keys (book_own hb h.keys), hm.owns h.blocks (book_own hb h.blocks)⟩
/-- Which of these blocks a text is: the wanted one, else the first. -/
def mgo (ms : List ByteArray) (mk : ByteArray) (wanted : Int) : List Int → Int → Int
  | [], f => f
  | i :: l, f => if ms.getD i.toNat ⟨#[]⟩ = mk then (if i = wanted then i else mgo ms mk wanted l (if f < 0 then i else f)) else mgo ms mk wanted l f
def mtc (ws : List Int) (ms : List ByteArray) (Q blk : Nat) (B : Bk) (x : Int) (s : ByteArray) (wanted : Int) : Int :=
  if fnd ws Q x ≠ [] ∧ s.size = blk then mgo ms (B.mark s) wanted (fnd ws Q x) (-1) else -1
def mtcB (ws : List Int) (Q blk : Nat) (B : Bk) (x : Int) (s : ByteArray) : Bk := if fnd ws Q x ≠ [] ∧ s.size = blk then B.add s else B
theorem mgo_range {ms : List ByteArray} {mk : ByteArray} {wanted : Int} : ∀ {l : List Int} {f : Int}, (∀ i ∈ l, 0 ≤ i) → -1 ≤ f → -1 ≤ mgo ms mk wanted l f
  | [], f, _, h => h
  | i :: l, f, hl, h => by
    have hi := hl i (by simp)
    have hl' : ∀ i ∈ l, 0 ≤ i := fun j hj => hl j (by simp [hj])
    unfold mgo
    split
    · split
      · omega
      · split
        · exact mgo_range hl' (by omega)
        · exact mgo_range hl' h
    · exact mgo_range hl' h
def MtcPost (ws : List Int) (ms : List ByteArray) (Q blk : Nat) (B : Bk) (b mb : Nat) (x : Int) (s : ByteArray) (wanted : Int) (w : World) (e : Ending) (w' : World) : Prop :=
  e = .returned (.int .i64 (mtc ws ms Q blk B x s wanted)) ∧ IsBook w' b mb (mtcB ws Q blk B x s) ∧ Mods (MK B mb) w w'
set_option maxRecDepth 100000 in
set_option maxHeartbeats 4000000 in
theorem f41_calls (B T Q b mb blk : Nat) (K : Bk) (size : Int) (ws : List Int) (ms : List ByteArray) (bs : List Int) (wv sv kv bv : Value) (x : Int) (s : ByteArray) (wanted : Int) (w : World)
    (h : Tbl w B T blk size ws ms bs wv sv kv bv) (hp : bs.Perm (rng Q)) (hso : bs.Pairwise (Rl ws)) (hQ : Q ≤ 524288) (hQm : Q ≤ ms.length) (hb : IsBook w b mb K) (hL : K.len < 1125899906842624) (hs : s.size ≤ 140737488351232) :
    Calls Try.prog 41 #[.pointer (some ⟨T, 0, none⟩), .pointer (some ⟨b, 0, none⟩), .int .i64 x, .string s, .int .i64 wanted] w (MtcPost ws ms Q blk K b mb x s wanted w) := by
  have HT := Lib.hid h
  have HB := Lib.hid hb
  have HL := Lib.hid hL
  have HS := Lib.hid hs
  have HC := Lib.hid (f40_calls B T Q blk size ws ms bs wv sv kv bv x w h hp hso hQ)
  have HFM := Lib.hid (fun i (hi : i ∈ fnd ws Q x) => fnd_mem hi)
  have HFL := Lib.hid (Nat.le_trans (fnd_len ws Q x) hQ)
  have hs63 : s.size ≤ 9223372036854775807 := by omega
  have hfl : (fnd ws Q x).length ≤ 524288 := Nat.le_trans (fnd_len ws Q x) hQ
  clear h hb hL hs hp hso
  obtain ⟨R, hR⟩ : ∃ R, R = mtc ws ms Q blk K x s wanted := ⟨_, rfl⟩
  obtain ⟨KB, hKB⟩ : ∃ KB, KB = mtcB ws Q blk K x s := ⟨_, rfl⟩
  unfold MtcPost
  rw [← hR, ← hKB]
  have HR := Lib.hid hR
  have HKB := Lib.hid hKB
  unfold mtc at HR
  unfold mtcB at HKB
  clear hR hKB
  generalize fnd ws Q x = fl at *
  go_enter Try.func41, Try.ntmps41
  go_wp2_with fail
  refine HC.out.mono ?_; rintro e w1 ⟨v1, rfl, ho1, hm1⟩
  have HT1 := Lib.hid (HT.out.nope hm1)
  have HB1 := Lib.hid (HB.out.nope hm1)
  have HM1 := Lib.hid hm1
  have HO1 := Lib.hid ho1
  obtain ⟨A1, c1, rfl, _, _, hr1, _⟩ := Rd.of_owns ho1
  have HRD := Lib.hid hr1
  obtain ⟨t0, _, _, t3, _, _, _⟩ := cells6 HT1.out.row
  clear ho1 hm1 hr1
  by_cases h0 : fl = []
  · have hl0 : ((fl.length : Nat) : Int) = 0 := by rw [h0]; rfl
    have HLL := Lib.hid hl0
    have hb0 : (((fl.length : Nat) : Int) == 0) = true := by rw [hl0]; rfl
    have HR1 : Hid (R = -1) := by unfold Hid; rw [HR.out, if_neg (fun h => h.1 h0)]
    have HKB1 : Hid (KB = K) := by unfold Hid; rw [HKB.out, if_neg (fun h => h.1 h0)]
    clear h0 hl0
    go_wp2
    go_ret
    obtain rfl := HR1.out; obtain rfl := HKB1.out; exact ⟨rfl, HB1.out, HM1.out.any _⟩
  have hb0 : (((fl.length : Nat) : Int) == 0) = false := by
    have := List.length_pos_iff.2 h0
    simp; omega
  by_cases hsz : s.size = blk
  rotate_left
  · have hbs : (((s.size : Nat) : Int) != ((blk : Nat) : Int)) = true := by simp; omega
    have HR1 : Hid (R = -1) := by unfold Hid; rw [HR.out, if_neg (fun h => hsz h.2)]
    have HKB1 : Hid (KB = K) := by unfold Hid; rw [HKB.out, if_neg (fun h => hsz h.2)]
    clear h0 hsz
    go_wp2
    go_ret
    obtain rfl := HR1.out; obtain rfl := HKB1.out; exact ⟨rfl, HB1.out, HM1.out.any _⟩
  have hbs : (((s.size : Nat) : Int) != ((blk : Nat) : Int)) = false := by simp; omega
  have HR1 : Hid (R = mgo ms (K.mark s) wanted fl (-1)) := by unfold Hid; rw [HR.out, if_pos ⟨h0, hsz⟩]
  have HKB1 : Hid (KB = K.add s) := by unfold Hid; rw [HKB.out, if_pos ⟨h0, hsz⟩]
  clear h0 hsz
  go_wp2_with fail
  refine (f78_mk b mb K s _ HB1.out HL.out HS.out).mono ?_; rintro e w2 ⟨rfl, hb2, hm2⟩
  have HT2 := Lib.hid (HT1.out.marked HB1.out hm2)
  have HO2 := Lib.hid (hm2.owns HO1.out (book_own HB1.out HO1.out))
  have HB2 := Lib.hid hb2
  have HM2 := Lib.hid ((HM1.out.any (MK K mb)).trans hm2)
  obtain ⟨_, _, hA, _, _, hr2, _⟩ := Rd.of_owns HO2.out
  injection hA with hA _ hcc
  subst hA
  clear hcc
  have HRD2 := Lib.hid hr2
  obtain ⟨As, cs, hsv, _, _, hrs, _⟩ := Rd.of_owns HT2.out.strong
  subst hsv
  have HRS := Lib.hid hrs
  generalize K.mark s = mk at *
  clear hb2 hm2 hr2 t0 t3 hrs
  obtain ⟨_, _, _, t3, _, _, _⟩ := cells6 HT2.out.row
  go_wp2_with fail
  go_loop [13, 41] (fun f i => ∃ (k : Nat) (fv : Int), k ≤ fl.length ∧ i = .int .i64 (k : Nat) ∧ f = .int .i64 fv ∧ R = mgo ms mk wanted (fl.drop k) fv) (fun _ i => fl.length - (intOf i).toNat)
  case atStart => exact ⟨0, -1, by omega, rfl, rfl, by rw [List.drop_zero]; exact HR1.out⟩
  case round =>
    obtain ⟨k, fv, hk, rfl, rfl, hRk⟩ := hrel
    have HRK := Lib.hid hRk
    clear hRk
    by_cases hlt : k < fl.length
    · obtain ⟨g1, o1, hA1, hc1⟩ := HRD2.out.int k hlt
      have HDR : Hid (fl.drop k = fl[k] :: fl.drop (k + 1)) := List.drop_eq_getElem_cons hlt
      have hmem : fl[k] ∈ fl := List.getElem_mem hlt
      generalize fl[k] = i at hc1 HDR hmem
      obtain ⟨hi0, hiQ, _⟩ := HFM.out i hmem
      obtain ⟨j, rfl⟩ := Int.eq_ofNat_of_zero_le hi0
      have hjl : j < ms.length := by omega
      obtain ⟨g2, o2, hA2, hc2⟩ := HRS.out.str j hjl
      have hjm : ms[j] = ms.getD j ⟨#[]⟩ := by simp [List.getD_eq_getElem?_getD, hjl]
      rw [hjm] at hc2
      have hji : (j : Int) < (ms.length : Int) := by omega
      have hki : (k : Int) < (fl.length : Int) := by omega
      subst hA1
      subst hA2
      clear hmem hi0 hiQ hjm
      by_cases he : ms.getD j ⟨#[]⟩ = mk
      · have hse : ((ms.getD j ⟨#[]⟩).toList == mk.toList) = true := str_eq he
        by_cases hw : (j : Int) = wanted
        · have hwb : ((j : Int) == wanted) = true := by simp [hw]
          have HF : Hid (R = (j : Int)) := by unfold Hid; rw [HRK.out, HDR.out, mgo, if_pos (by simpa using he), if_pos hw]
          generalize ms.getD j ⟨#[]⟩ = t at *
          clear he hw
          go_wp2
          go_ret
          obtain rfl := HF.out; obtain rfl := HKB1.out; exact ⟨rfl, HB2.out, HM2.out⟩
        · have hwb : ((j : Int) == wanted) = false := by simpa using hw
          have HF : Hid (R = mgo ms mk wanted (fl.drop (k + 1)) (if fv < 0 then (j : Int) else fv)) := by unfold Hid; rw [HRK.out, HDR.out, mgo, if_pos (by simpa using he), if_neg hw]
          generalize ms.getD j ⟨#[]⟩ = t at *
          clear he hw
          by_cases hf : fv < 0
          · rw [if_pos hf] at HF
            go_wp2_with fail
            go_round
            case rel => exact ⟨k + 1, _, hlt, by go_num, rfl, HF.out⟩
            case measure => simp [intOf]; omega
          · rw [if_neg hf] at HF
            go_wp2_with fail
            go_round
            case rel => exact ⟨k + 1, _, hlt, by go_num, rfl, HF.out⟩
            case measure => simp [intOf]; omega
      · have hse : ((ms.getD j ⟨#[]⟩).toList == mk.toList) = false := str_ne he
        have HF : Hid (R = mgo ms mk wanted (fl.drop (k + 1)) fv) := by unfold Hid; rw [HRK.out, HDR.out, mgo, if_neg (by simpa using he)]
        generalize ms.getD j ⟨#[]⟩ = t at *
        clear he
        go_wp2_with fail
        go_round
        case rel => exact ⟨k + 1, _, hlt, by go_num, rfl, HF.out⟩
        case measure => simp [intOf]; omega
    · have HF : Hid (R = fv) := by unfold Hid; rw [HRK.out, List.drop_eq_nil_of_le (by omega)]; rfl
      go_wp2
      go_ret
      obtain rfl := HF.out; obtain rfl := HKB1.out; exact ⟨rfl, HB2.out, HM2.out⟩
end Go.Proofs.Ytblhbbgkkijkfaa
namespace Go.Proofs.Ytblhbbgkkijkfaa
open Go.RowKit Go.Maps
def lastW (ws : List Int) : Int := ws.getD (ws.length - 1) 0
def lastM (ms : List ByteArray) : ByteArray := ms.getD (ms.length - 1) ⟨#[]⟩
/-- Is a text the last block, which is not whole? -/
def tl (ws : List Int) (ms : List ByteArray) (blk size : Nat) (B : Bk) (s : ByteArray) : Bool := decide (0 < size % blk ∧ s.size = size % blk ∧ wk s = lastW ws ∧ B.mark s = lastM ms)
def tlB (ws : List Int) (blk size : Nat) (B : Bk) (s : ByteArray) : Bk := if 0 < size % blk ∧ s.size = size % blk ∧ wk s = lastW ws then B.add s else B
def TlPost (ws : List Int) (ms : List ByteArray) (blk size : Nat) (B : Bk) (b mb : Nat) (s : ByteArray) (w : World) (e : Ending) (w' : World) : Prop :=
  e = .returned (.bool (tl ws ms blk size B s)) ∧ IsBook w' b mb (tlB ws blk size B s) ∧ Mods (MK B mb) w w'
set_option maxRecDepth 100000 in
set_option maxHeartbeats 4000000 in
theorem f42_calls (B T b mb blk n : Nat) (K : Bk) (ws : List Int) (ms : List ByteArray) (bs : List Int) (wv sv kv bv : Value) (s : ByteArray) (w : World)
    (h : Tbl w B T blk n ws ms bs wv sv kv bv) (hb : IsBook w b mb K) (hL : K.len < 1125899906842624) (hs : s.size ≤ 524288) (hblk : 16 ≤ blk) (hn : n ≤ 524288) (hwl : ws.length = cnt n blk) (hml : ms.length = ws.length) :
    Calls Try.prog 42 #[.pointer (some ⟨T, 0, none⟩), .pointer (some ⟨b, 0, none⟩), .string s] w (TlPost ws ms blk n K b mb s w) := by
  have hwl2 : ws.length ≤ 524288 := by rw [hwl]; exact Nat.le_trans (cnt_le n blk (by omega)) hn
  have HNZ : Hid (0 < n % blk → 0 < ws.length) := by
    intro h0
    rw [hwl]
    rcases Nat.eq_zero_or_pos (cnt n blk) with h1 | h1
    · have := (cnt_spec n blk (by omega)).1
      rw [h1] at this
      have : n = 0 := by omega
      subst this
      simp at h0
    · exact h1
  have HMOD : Hid ((n : Int) % (blk : Int) = ((n % blk : Nat) : Int)) := by unfold Hid; exact (Int.natCast_emod n blk).symm
  have HT := Lib.hid h
  have HB := Lib.hid hb
  have HL := Lib.hid hL
  have HML := Lib.hid hml
  have hs63 : s.size ≤ 140737488351232 := by omega
  obtain ⟨R, hR⟩ : ∃ R, R = tl ws ms blk n K s := ⟨_, rfl⟩
  obtain ⟨KB, hKB⟩ : ∃ KB, KB = tlB ws blk n K s := ⟨_, rfl⟩
  unfold TlPost
  rw [← hR, ← hKB]
  have HR := Lib.hid hR
  have HKB := Lib.hid hKB
  unfold tl at HR
  unfold tlB at HKB
  obtain ⟨t0, t1, _, _, _, _, _⟩ := cells6 h.row
  have hmod : n % blk < blk := Nat.mod_lt _ (by omega)
  have hmi0 : 0 ≤ (n : Int) % (blk : Int) := by rw [HMOD.out]; exact Int.natCast_nonneg _
  clear hR hKB h hb hL hwl hml
  go_enter Try.func42, Try.ntmps42
  go_upto_region 3 with fail
  go_quiet (fail)
  have HMQ : Hid (Mods Nope w (w.drewN nq)) := (Mods.refl _ _).drewN _
  revert HMQ
  generalize w.drewN nq = w1
  intro HMQ
  have HT1 := Lib.hid (HT.out.nope HMQ.out)
  have HB1 := Lib.hid (HB.out.nope HMQ.out)
  obtain ⟨Aw, cw, hwv, _, _, hrw, _⟩ := Rd.of_owns HT1.out.weak
  obtain ⟨As, cs, hsv, _, _, hrs, _⟩ := Rd.of_owns HT1.out.strong
  subst hwv
  subst hsv
  clear t0 t1
  obtain ⟨_, _, t2, t3, _, _, _⟩ := cells6 HT1.out.row
  go_upto_region 5 with fail
  rw [HMOD.out]
  generalize n % blk = r at *
  clear hmi0 HMOD
  by_cases c1 : 0 < r
  rotate_left
  · have HR1 : Hid (R = false) := by unfold Hid; rw [HR.out, decide_eq_false_iff_not]; exact fun h => c1 h.1
    have HKB1 : Hid (KB = K) := by unfold Hid; rw [HKB.out, if_neg (fun h => c1 h.1)]
    have hd : decide ((0 : Int) < (r : Int)) = false := by simp; omega
    go_quiet (fail)
    go_wp2
    go_ret
    obtain rfl := HR1.out; obtain rfl := HKB1.out; exact ⟨rfl, HB1.out, (HMQ.out.drewN _).any _⟩
  have hw0 := HNZ.out c1
  have HW0 := Lib.hid hw0
  by_cases c2 : s.size = r
  rotate_left
  · have HR1 : Hid (R = false) := by unfold Hid; rw [HR.out, decide_eq_false_iff_not]; exact fun h => c2 h.2.1
    have HKB1 : Hid (KB = K) := by unfold Hid; rw [HKB.out, if_neg (fun h => c2 h.2.1)]
    have hd : (((s.size : Nat) : Int) == ((r : Nat) : Int)) = false := by simp; omega
    clear c2
    go_quiet (fail)
    go_wp2
    go_ret
    obtain rfl := HR1.out; obtain rfl := HKB1.out; exact ⟨rfl, HB1.out, (HMQ.out.drewN _).any _⟩
  have hd2 : (((s.size : Nat) : Int) == ((r : Nat) : Int)) = true := by simp; omega
  obtain ⟨q, hq⟩ : ∃ q, q = ws.length - 1 := ⟨_, rfl⟩
  have HQL : Hid ((ws.length : Int) - 1 = (q : Nat)) := by unfold Hid; omega
  rw [HQL.out]
  have hqw : q < ws.length := by omega
  have hqm : q < ms.length := by have := HML.out; omega
  obtain ⟨g1, o1, hA1, hc1⟩ := hrw.int q hqw
  obtain ⟨g2, o2, hA2, hc2⟩ := hrs.str q hqm
  have hv1 : ws[q] = lastW ws := by unfold lastW; rw [← hq, getD_int hqw]
  have hv2 : ms[q] = lastM ms := by
    unfold lastM
    have h2 := HML.out
    rw [h2, ← hq, List.getD_eq_getElem?_getD, List.getElem?_eq_getElem hqm, Option.getD_some]
  rw [hv1] at hc1
  rw [hv2] at hc2
  have hi0 : (0 : Int) ≤ (q : Int) := by omega
  have hi1 : (q : Int) < (ws.length : Int) := by omega
  have hi2 : (q : Int) < (ms.length : Int) := by omega
  subst hA1
  subst hA2
  clear hrw hrs hv1 hv2 hq hw0
  by_cases c3 : wk s = lastW ws
  rotate_left
  · have HR1 : Hid (R = false) := by unfold Hid; rw [HR.out, decide_eq_false_iff_not]; exact fun h => c3 h.2.2.1
    have HKB1 : Hid (KB = K) := by unfold Hid; rw [HKB.out, if_neg (fun h => c3 h.2.2)]
    have hd : (wk s == lastW ws) = false := by simpa using c3
    clear c3 c2
    go_quiet ((go_at_call 77; exact Calls.quiet_of_same (f77_calls _ _ hs)))
    go_wp2
    go_ret
    obtain rfl := HR1.out; obtain rfl := HKB1.out; exact ⟨rfl, HB1.out, (HMQ.out.drewN _).any _⟩
  · have hd3 : (wk s == lastW ws) = true := by simp [c3]
    have HKB1 : Hid (KB = K.add s) := by unfold Hid; rw [HKB.out, if_pos ⟨c1, c2, c3⟩]
    have HR1 : Hid (R = decide (K.mark s = lastM ms)) := by
      unfold Hid
      rw [HR.out]
      by_cases he : K.mark s = lastM ms
      · rw [decide_eq_true ⟨c1, c2, c3, he⟩, decide_eq_true he]
      · rw [decide_eq_false (fun h => he h.2.2.2), decide_eq_false he]
    have HSE : Hid (((K.mark s).toList == (lastM ms).toList) = decide (K.mark s = lastM ms)) := by
      unfold Hid
      by_cases he : K.mark s = lastM ms
      · rw [str_eq he, decide_eq_true he]
      · rw [str_ne he, decide_eq_false he]
    have HMK := Lib.hid (fun (wx : World) h => f78_mk b mb K s wx h HL.out hs63)
    have HC1 := Lib.hid hc1
    have HC2 := Lib.hid hc2
    generalize K.mark s = mk at *
    have HC3 := Lib.hid c3
    have HC2' := Lib.hid c2
    clear c3 c2
    go_region_held3 (fun w' => w'.cell? ⟨T, 2, none⟩ = some (.slice (some ⟨g1, o1, none⟩) ws.length cw) ∧ w'.cell? ⟨T, 3, none⟩ = some (.slice (some ⟨g2, o2, none⟩) ms.length cs) ∧ w'.cell? ⟨g1, o1 + q, none⟩ = some (.int .i64 (lastW ws)) ∧ w'.cell? ⟨g2, o2 + q, none⟩ = some (.string (lastM ms))) (go_keep)
      (first
        | (go_at_call 77; refine (f77_calls _ _ hs).mono ?_; rintro e w2 ⟨rfl, rfl⟩)
        | (go_at_call 78; refine (HMK.out _ (HB1.out.nope (by repeat (with_reducible first | exact Mods.refl _ _ | apply Mods.drew | apply Mods.drewN)))).mono ?_; rintro e w3 ⟨rfl, hb3, hm3⟩
           have HB3 := Lib.hid hb3
           have HM3 : Hid (Mods (MK K mb) w1 w3) := Mods.trans (Mods.any (by repeat (with_reducible first | exact Mods.refl _ _ | apply Mods.drew | apply Mods.drewN)) (MK K mb)) hm3
           have HT3 := Lib.hid (HT1.out.marked HB1.out HM3.out)
           have hcc1 : w3.cell? ⟨g1, o1 + q, none⟩ = some (.int .i64 (lastW ws)) := HM3.out.cell HC1.out (book_own HB1.out HT1.out.weak _ rfl)
           have hcc2 : w3.cell? ⟨g2, o2 + q, none⟩ = some (.string (lastM ms)) := HM3.out.cell HC2.out (book_own HB1.out HT1.out.strong _ rfl)
           obtain ⟨_, _, t2, t3, _, _, _⟩ := cells6 HT3.out.row
           clear hb3 hm3))
    all_goals
      go_wp2
      go_ret
      obtain rfl := HR1.out; obtain rfl := HKB1.out; exact ⟨ret_bool HSE.out, HB3.out, HMQ.out.any _ |>.trans HM3.out⟩
end Go.Proofs.Ytblhbbgkkijkfaa
namespace Go.Proofs.Ytblhbbgkkijkfaa
open Go
theorem ideal_mark_eq {L : List ByteArray} {x t : ByteArray} (hx : x ∈ L) (hL : L.length < 1125899906842624) : (Bk.ideal L).mark x = (Bk.ideal L).mark t ↔ x = t := by
  constructor
  · intro h
    unfold Bk.mark at h
    have h1 := place_le x L
    have h2 := place_le t L
    have := mark_inj (by omega) (by omega) h
    exact place_inj hx (by omega)
  · rintro rfl; rfl
theorem ideal_add_known {L : List ByteArray} {x : ByteArray} (hx : x ∈ L) : (Bk.ideal L).add x = .ideal L := by
  simp only [Bk.add]
  rw [if_pos (place_lt.2 hx)]
theorem cnt_div (n b : Nat) (hb : 0 < b) : cnt n b = n / b + (if 0 < n % b then 1 else 0) := by
  unfold cnt
  have h1 := Nat.div_add_mod n b
  have h2 := Nat.mod_lt n hb
  by_cases h : 0 < n % b
  · rw [if_pos h]
    refine Nat.div_eq_of_lt_le ?_ ?_
    · rw [Nat.add_mul, Nat.mul_comm]; omega
    · rw [Nat.add_mul, Nat.add_mul, Nat.mul_comm (n / b)]; omega
  · rw [if_neg h]
    refine Nat.div_eq_of_lt_le ?_ ?_
    · rw [Nat.add_zero, Nat.mul_comm]; omega
    · rw [Nat.add_zero, Nat.add_mul, Nat.mul_comm]; omega
theorem pc_whole {s : ByteArray} {i b : Nat} (hb : 0 < b) (hi : i < s.size / b) : (pc s i b).size = b := by
  have h := (Nat.le_div_iff_mul_le hb).1 (show i + 1 ≤ s.size / b by omega)
  unfold pc
  rw [ByteArray.size_extract, Nat.add_mul] at *
  omega
theorem pc_last {s : ByteArray} {b : Nat} (hb : 0 < b) : (pc s (s.size / b) b) = s.extract (s.size - s.size % b) s.size := by
  have h1 := Nat.div_add_mod s.size b
  have h2 := Nat.mod_lt s.size hb
  unfold pc
  rw [Nat.add_mul, Nat.mul_comm (s.size / b)]
  congr 1 <;> omega
theorem pc_last_size {s : ByteArray} {b : Nat} (hb : 0 < b) : (pc s (s.size / b) b).size = s.size % b := by
  rw [pc_last hb, ByteArray.size_extract]
  have := Nat.mod_le s.size b
  omega
/-- The blocks that are this text, whole, of this weak sum. -/
def isC (s : ByteArray) (n : Nat) (x : Int) (t : ByteArray) (i : Int) : Bool := decide ((pc s i.toNat n).size = n ∧ pc s i.toNat n = t ∧ wk t = x)
def cl (s : ByteArray) (n : Nat) (x : Int) (t : ByteArray) : List Int := (rng (cnt s.size n)).filter (isC s n x t)
def pick (l : List Int) (wanted : Int) : Int := if wanted ∈ l then wanted else l.headD (-1)
theorem mgo_eq {ms : List ByteArray} {mk : ByteArray} {wanted : Int} : ∀ (l : List Int) (f : Int), (∀ i ∈ l, 0 ≤ i) →
    mgo ms mk wanted l f = if wanted ∈ l.filter (fun i => decide (ms.getD i.toNat ⟨#[]⟩ = mk)) then wanted else if f < 0 then (l.filter (fun i => decide (ms.getD i.toNat ⟨#[]⟩ = mk))).headD f else f
  | [], f, _ => by simp [mgo]
  | i :: l, f, hl => by
    have hi := hl i (by simp)
    have hl' : ∀ i ∈ l, 0 ≤ i := fun j hj => hl j (by simp [hj])
    unfold mgo
    by_cases he : ms.getD i.toNat ⟨#[]⟩ = mk
    · rw [if_pos he, List.filter_cons_of_pos (by simpa using he)]
      by_cases hw : i = wanted
      · rw [if_pos hw, if_pos (by simp [hw]), hw]
      · rw [if_neg hw, mgo_eq l _ hl']
        have hm : (wanted ∈ i :: l.filter (fun i => decide (ms.getD i.toNat ⟨#[]⟩ = mk))) ↔ wanted ∈ l.filter (fun i => decide (ms.getD i.toNat ⟨#[]⟩ = mk)) := by
          rw [List.mem_cons]
          exact ⟨fun h => h.resolve_left (fun e => hw e.symm), .inr⟩
        by_cases hx : wanted ∈ l.filter (fun i => decide (ms.getD i.toNat ⟨#[]⟩ = mk))
        · rw [if_pos hx, if_pos (hm.2 hx)]
        · rw [if_neg hx, if_neg (fun h => hx (hm.1 h))]
          by_cases hf : f < 0
          · rw [if_pos hf, if_neg (by omega), if_pos hf]
            simp
          · rw [if_neg hf, if_neg hf, if_neg hf]
    · rw [if_neg he, List.filter_cons_of_neg (by simpa using he), mgo_eq l f hl']
theorem pcs_mem {s : ByteArray} {n N : Nat} {i : Nat} (h : i < N) : pc s i n ∈ pcs s n N := by
  unfold pcs
  exact List.mem_map.2 ⟨i, List.mem_range.2 h, rfl⟩
theorem sweak_kw {s : ByteArray} {n N i : Nat} (h : i < N) : kw (sweak s n N) (i : Nat) = wk (pc s i n) := by
  simp [kw, sweak, pcs, List.getD_eq_getElem?_getD, h]
theorem smarks_getD {s : ByteArray} {n N i : Nat} {f : ByteArray → ByteArray} (h : i < N) : ((pcs s n N).map f).getD i ⟨#[]⟩ = f (pc s i n) := by
  simp [pcs, List.getD_eq_getElem?_getD, h]
/-- What Match answers of a signed text, under an ideal book that knows its blocks. -/
theorem match_law {s t : ByteArray} {n : Nat} {L : List ByteArray} {x wanted : Int} (hn : 0 < n) (hL : L.length < 1125899906842624) (hk : ∀ y ∈ pcs s n (cnt s.size n), y ∈ L) :
    mtc (sweak s n (cnt s.size n)) ((pcs s n (cnt s.size n)).map (Bk.ideal L).mark) (s.size / n) n (.ideal L) x t wanted = pick (cl s n x t) wanted := by
  have hcd := cnt_div s.size n hn
  have hC : cl s n x t = (rng (s.size / n)).filter (isC s n x t) := by
    unfold cl
    rw [hcd]
    split
    · rw [rng_snoc, List.filter_append]
      have : ([((s.size / n : Nat) : Int)]).filter (isC s n x t) = [] := by
        rw [List.filter_cons_of_neg]
        · rfl
        · unfold isC
          rw [decide_eq_true_eq]
          rintro ⟨h1, _⟩
          rw [Int.toNat_natCast, pc_last_size hn] at h1
          have := Nat.mod_lt s.size hn
          omega
      rw [this, List.append_nil]
    · rfl
  unfold mtc pick
  by_cases h : fnd (sweak s n (cnt s.size n)) (s.size / n) x ≠ [] ∧ t.size = n
  · rw [if_pos h, mgo_eq _ _ (fun i hi => (fnd_mem hi).1)]
    have e : (fnd (sweak s n (cnt s.size n)) (s.size / n) x).filter (fun i => decide (((pcs s n (cnt s.size n)).map (Bk.ideal L).mark).getD i.toNat ⟨#[]⟩ = (Bk.ideal L).mark t)) = cl s n x t := by
      rw [hC]
      unfold fnd
      rw [List.filter_filter]
      apply List.filter_congr
      intro i hi
      obtain ⟨h0, hQ⟩ := rng_mem hi
      obtain ⟨j, rfl⟩ := Int.eq_ofNat_of_zero_le h0
      have hj : j < s.size / n := by omega
      have hjN : j < cnt s.size n := by rw [hcd]; omega
      rw [sweak_kw hjN, Int.toNat_natCast, smarks_getD hjN]
      unfold isC
      rw [Int.toNat_natCast]
      have hme := ideal_mark_eq (t := t) (hk _ (pcs_mem hjN)) hL
      have hw := pc_whole hn hj
      rw [Bool.eq_iff_iff]
      simp only [Bool.and_eq_true, decide_eq_true_eq, beq_iff_eq]
      rw [hme]
      constructor
      · rintro ⟨rfl, h2⟩; exact ⟨hw, rfl, h2⟩
      · rintro ⟨_, rfl, h3⟩; exact ⟨rfl, h3⟩
    rw [e, if_pos (show (-1 : Int) < 0 by decide)]
  · rw [if_neg h]
    have e : cl s n x t = [] := by
      rw [hC, List.filter_eq_nil_iff]
      intro i hi hc
      obtain ⟨h0, hQ⟩ := rng_mem hi
      obtain ⟨j, rfl⟩ := Int.eq_ofNat_of_zero_le h0
      unfold isC at hc
      rw [decide_eq_true_eq, Int.toNat_natCast] at hc
      obtain ⟨h1, h2, h3⟩ := hc
      apply h
      refine ⟨?_, by rw [← h2]; exact h1⟩
      have hmem : (j : Int) ∈ fnd (sweak s n (cnt s.size n)) (s.size / n) x := by
        unfold fnd
        rw [List.mem_filter]
        refine ⟨hi, ?_⟩
        rw [sweak_kw (by rw [hcd]; omega), h2, h3]
        simp
      exact List.ne_nil_of_mem hmem
    rw [e]
    simp
theorem lastW_sweak {s : ByteArray} {n : Nat} (hn : 0 < n) (h : 0 < s.size % n) : lastW (sweak s n (cnt s.size n)) = wk (pc s (s.size / n) n) := by
  unfold lastW
  rw [sweak_length, cnt_div s.size n hn, if_pos h, Nat.add_sub_cancel]
  simp [sweak, pcs, List.getD_eq_getElem?_getD]
theorem lastM_smarks {s : ByteArray} {n : Nat} {f : ByteArray → ByteArray} (hn : 0 < n) (h : 0 < s.size % n) : lastM ((pcs s n (cnt s.size n)).map f) = f (pc s (s.size / n) n) := by
  unfold lastM
  rw [List.length_map, pcs_length, cnt_div s.size n hn, if_pos h, Nat.add_sub_cancel]
  simp [pcs, List.getD_eq_getElem?_getD]
/-- And what Tail answers, under a book that knows more. -/
theorem tail_law {s t : ByteArray} {n : Nat} {L M : List ByteArray} (hn : 0 < n) (hM : M.length < 1125899906842624) (hk : ∀ y ∈ pcs s n (cnt s.size n), y ∈ M ∧ (Bk.ideal M).mark y = (Bk.ideal L).mark y) :
    tl (sweak s n (cnt s.size n)) ((pcs s n (cnt s.size n)).map (Bk.ideal L).mark) n s.size (.ideal M) t = decide (0 < s.size % n ∧ t = s.extract (s.size - s.size % n) s.size) := by
  unfold tl
  by_cases h : 0 < s.size % n
  · have hN : s.size / n < cnt s.size n := by rw [cnt_div s.size n hn, if_pos h]; omega
    rw [lastW_sweak hn h, lastM_smarks hn h]
    obtain ⟨h1, h2⟩ := hk _ (pcs_mem hN)
    rw [← h2]
    apply decide_eq_decide.2
    rw [← pc_last hn]
    constructor
    · rintro ⟨_, _, _, h4⟩
      exact ⟨h, ((ideal_mark_eq h1 hM).1 h4.symm).symm⟩
    · rintro ⟨_, rfl⟩
      exact ⟨h, pc_last_size hn, rfl, rfl⟩
  · rw [decide_eq_false (fun hh => h hh.1), decide_eq_false (fun hh => h hh.1)]
end Go.Proofs.Ytblhbbgkkijkfaa
