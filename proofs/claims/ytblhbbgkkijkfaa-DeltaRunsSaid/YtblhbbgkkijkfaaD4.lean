/- barqueref05.Sign, walked. -/
import Derived.Test.YtblhbbgkkijkfaaD3
namespace Go.Proofs.Ytblhbbgkkijkfaa
open Go.RowKit Go.Maps
theorem at_of {v : Value} {g n c H : Nat} (h : v.ownBlock = some g ∨ H ≤ g) : ∀ j, (Value.slice (some ⟨g, 0, none⟩) n c).ownBlock = some j → v.ownBlock = some j ∨ H ≤ j := by
  intro j hj
  obtain rfl : g = j := by simpa [Value.ownBlock] using hj
  exact h
/-- Two values lie in different blocks. -/
def Dj (v u : Value) : Prop := ∀ k, v.ownBlock = some k → u.ownBlock ≠ some k
theorem Dj.fresh {w : World} {v nv u : Value} {base e size n H : Nat} {xs : List Value} (h : Dj v u) (hu : w.ownsRow base e size u n xs) (hH : w.heap.size ≤ H) (hp : ∀ k, nv.ownBlock = some k → v.ownBlock = some k ∨ H ≤ k) : Dj nv u := by
  intro k hk hu'
  rcases hp k hk with hp | hp
  · exact h k hp hu'
  · have := (hu.lt k hu').2; omega
theorem Dj.symm {v u : Value} (h : Dj v u) : Dj u v := fun k hk hv => h k hv hk
structure SignAtR (base b : Nat) (v lv : Value) (B : Bk) (s : ByteArray) (n : Nat) (w wr : World) (i k : Nat) (wv sv rv : Value) : Prop where
  g : wr.heap[w.heap.size + 1]? = some (.cells #[.int .i64 n, .int .i64 s.size, wv, sv] 31 (0, 0))
  res : wr.heap[w.heap.size]? = some (.cells #[.int .i64 0, .int .i64 0, .slice none 0 0, .slice none 0 0] 31 (0, 0))
  weak : wr.ownsRow w.heap.size 3 1 wv i (ints (sweak s n i))
  strong : wr.ownsRow w.heap.size 9 1 sv k (strs (smarks B s n k))
  list : wr.ownsRow w.heap.size 9 1 lv (cnt s.size n) (strs (pcs s n (cnt s.size n)))
  book : IsRef wr base b rv (B.adds (pcs s n k))
  mods : Mods (RB b v) w wr
  d1 : Dj rv sv
  d2 : Dj rv lv
  d3 : Dj sv lv
  prov : ∀ k, rv.ownBlock = some k → v.ownBlock = some k ∨ w.heap.size ≤ k
section
variable {base b : Nat} {v lv : Value} {B : Bk} {s : ByteArray} {n : Nat} {w wr wx : World} {i k : Nat} {wv sv rv : Value}
theorem SignAtR.nope (h : SignAtR base b v lv B s n w wr i k wv sv rv) (hm : Mods Nope wr wx) : SignAtR base b v lv B s n w wx i k wv sv rv :=
  ⟨hm.row h.g (fun h => h), hm.row h.res (fun h => h), hm.owns h.weak (fun _ _ h => h), hm.owns h.strong (fun _ _ h => h), hm.owns h.list (fun _ _ h => h), h.book.nope hm, h.mods.then hm (fun _ _ h => h.elim), h.d1, h.d2, h.d3, h.prov⟩
theorem SignAtR.addWeak {w3 : World} {nv : Value} (h : SignAtR base b v lv B s n w wr i k wv sv rv) (hlt : b < w.heap.size)
    (hm : Mods Nope wr wx) (hg : wx.grownBy w3 wv.ownBlock) (hown : w3.ownsRow w.heap.size 3 1 nv (i + 1) (ints (sweak s n i) ++ [.int .i64 (wk (pc s i n))])) :
    SignAtR base b v lv B s n w (w3.setCell ⟨w.heap.size + 1, 2, none⟩ nv) (i + 1) k nv sv rv := by
  have h' := h.nope hm
  have hG := grown_row hg h'.g (own_ne_row h'.weak h'.g (by decide))
  have hM : Mods (fun j => wv.ownBlock = some j ∨ j = w.heap.size + 1) wx (w3.setCell ⟨w.heap.size + 1, 2, none⟩ nv) :=
    ((Mods.refl _ _).grown hg (fun j hj _ => .inl hj)).setCell _ (fun _ => .inr rfl) _
  have hwb : ∀ j, wv.ownBlock = some j → w.heap.size ≤ j := fun j hj => (h'.weak.lt j hj).1
  refine ⟨row_set hG 2 nv, ?_, ?_, ?_, ?_, ?_, ?_, h.d1, h.d2, h.d3, h.prov⟩
  · refine hM.row h'.res ?_
    rintro (hj | hj)
    · exact own_ne_row h'.weak h'.res (by decide) _ hj rfl
    · omega
  · rw [sweak_snoc, ints_append]
    have hne := own_ne_row hown hG (by decide)
    exact ((Mods.refl (fun j => j = w.heap.size + 1) w3).setCell ⟨w.heap.size + 1, 2, none⟩ (fun _ => rfl) nv).owns hown (fun j hj e => hne j hj e)
  · refine hM.owns h'.strong ?_
    rintro j hj (hw | rfl)
    · exact own_ne_own h'.strong h'.weak (by decide) j hj hw
    · exact own_ne_row h'.strong h'.g (by decide) _ hj rfl
  · refine hM.owns h'.list ?_
    rintro j hj (hw | rfl)
    · exact own_ne_own h'.list h'.weak (by decide) j hj hw
    · exact own_ne_row h'.list h'.g (by decide) _ hj rfl
  · refine h'.book.mods hM ?_ ?_
    · rintro (hj | hj)
      · have := hwb _ hj; omega
      · omega
    · obtain ⟨_, _, ho⟩ := h'.book.owns
      rintro j hj (hw | rfl)
      · exact own_ne_own ho h'.weak (by decide) j hj hw
      · exact own_ne_row ho h'.g (by decide) _ hj rfl
  · refine h'.mods.then hM ?_
    rintro j hj (hw | rfl)
    · have := hwb _ hw; omega
    · omega
theorem SignAtR.marked {w4 : World} {rv' : Value} (h : SignAtR base b v lv B s n w wr i k wv sv rv) (hlt : b < w.heap.size)
    (hm : Mods (RB b rv) wr w4) (hp : ∀ j, rv'.ownBlock = some j → rv.ownBlock = some j ∨ wr.heap.size ≤ j) :
    w4.heap[w.heap.size + 1]? = some (.cells #[.int .i64 n, .int .i64 s.size, wv, sv] 31 (0, 0)) ∧
    w4.heap[w.heap.size]? = some (.cells #[.int .i64 0, .int .i64 0, .slice none 0 0, .slice none 0 0] 31 (0, 0)) ∧
    w4.ownsRow w.heap.size 3 1 wv i (ints (sweak s n i)) ∧ w4.ownsRow w.heap.size 9 1 sv k (strs (smarks B s n k)) ∧
    w4.ownsRow w.heap.size 9 1 lv (cnt s.size n) (strs (pcs s n (cnt s.size n))) ∧ Mods (RB b v) w w4 ∧ Dj rv' sv ∧ Dj rv' lv ∧ (∀ j, rv'.ownBlock = some j → v.ownBlock = some j ∨ w.heap.size ≤ j) := by
  have hz := h.mods.size
  have hnr : ∀ j e cs fr, wr.heap[j]? = some (.cells cs e fr) → e ≠ 9 → j ≠ b → ¬ RB b rv j := by
    rintro j e cs fr hj he hjb (rfl | hr)
    · exact hjb rfl
    · obtain ⟨_, _, ho⟩ := h.book.owns
      exact own_ne_row ho hj (fun e' => he e'.symm) j hr rfl
  have hno : ∀ u e n' xs, wr.ownsRow w.heap.size e 1 u n' xs → Dj rv u → ∀ j, u.ownBlock = some j → ¬ RB b rv j := by
    rintro u e n' xs hu hd j hj (rfl | hr)
    · have := (hu.lt _ hj).1; omega
    · exact hd j hr hj
  have hdw : Dj rv wv := by
    intro j hj hw
    obtain ⟨_, _, ho⟩ := h.book.owns
    exact own_ne_own ho h.weak (by decide) j hj hw
  refine ⟨hm.row h.g (hnr _ _ _ _ h.g (by decide) (by omega)), hm.row h.res (hnr _ _ _ _ h.res (by decide) (by omega)), hm.owns h.weak (hno _ _ _ _ h.weak hdw), hm.owns h.strong (hno _ _ _ _ h.strong h.d1), hm.owns h.list (hno _ _ _ _ h.list h.d2), ?_, ?_, ?_, ?_⟩
  · refine h.mods.then hm ?_
    rintro j hj (rfl | hr)
    · exact .inl rfl
    · rcases h.prov j hr with hp | hp
      · exact .inr hp
      · omega
  · exact h.d1.fresh h.strong (Nat.le_refl _) hp
  · exact h.d2.fresh h.list (Nat.le_refl _) hp
  · intro j hj
    rcases hp j hj with hp | hp
    · exact h.prov j hp
    · exact .inr (by omega)
theorem SignAtR.addStrong {w4 wy w3 : World} {rv' nv : Value} (h : SignAtR base b v lv B s n w wr i k wv sv rv) (hlt : b < w.heap.size)
    (hm : Mods (RB b rv) wr w4) (hbk : IsRef w4 base b rv' ((B.adds (pcs s n k)).add (pc s k n))) (hp : ∀ j, rv'.ownBlock = some j → rv.ownBlock = some j ∨ wr.heap.size ≤ j)
    (hy : Mods Nope w4 wy) (hg : wy.grownBy w3 sv.ownBlock) (hown : w3.ownsRow w.heap.size 9 1 nv (k + 1) (strs (smarks B s n k) ++ [.string ((B.adds (pcs s n k)).mark (pc s k n))]))
    (hat : ∀ j, nv.ownBlock = some j → sv.ownBlock = some j ∨ wy.heap.size ≤ j) :
    SignAtR base b v lv B s n w (w3.setCell ⟨w.heap.size + 1, 3, none⟩ nv) i (k + 1) wv nv rv' := by
  obtain ⟨g4, r4, k4, s4, l4, m4, e1, e2, pr⟩ := h.marked hlt hm hp
  have hG1 := hy.row g4 (fun h => h)
  have hR1 := hy.row r4 (fun h => h)
  have hW1 := hy.owns k4 (fun _ _ h => h)
  have hS1 := hy.owns s4 (fun _ _ h => h)
  have hL1 := hy.owns l4 (fun _ _ h => h)
  have hB1 := hbk.nope hy
  have hG := grown_row hg hG1 (own_ne_row hS1 hG1 (by decide))
  have hM : Mods (fun j => sv.ownBlock = some j ∨ j = w.heap.size + 1) wy (w3.setCell ⟨w.heap.size + 1, 3, none⟩ nv) :=
    ((Mods.refl _ _).grown hg (fun j hj _ => .inl hj)).setCell _ (fun _ => .inr rfl) _
  have hwb : ∀ j, sv.ownBlock = some j → w.heap.size ≤ j := fun j hj => (hS1.lt j hj).1
  obtain ⟨_, _, ho⟩ := hB1.owns
  refine ⟨row_set hG 3 nv, ?_, ?_, ?_, ?_, ?_, ?_, ?_, e2, ?_, pr⟩
  · refine hM.row hR1 ?_
    rintro (hj | hj)
    · exact own_ne_row hS1 hR1 (by decide) _ hj rfl
    · omega
  · refine hM.owns hW1 ?_
    rintro j hj (hw | rfl)
    · exact own_ne_own hW1 hS1 (by decide) j hj hw
    · exact own_ne_row hW1 hG1 (by decide) _ hj rfl
  · rw [smarks_snoc, strs_append]
    have hne := own_ne_row hown hG (by decide)
    exact ((Mods.refl (fun j => j = w.heap.size + 1) w3).setCell ⟨w.heap.size + 1, 3, none⟩ (fun _ => rfl) nv).owns hown (fun j hj e => hne j hj e)
  · refine hM.owns hL1 ?_
    rintro j hj (hw | rfl)
    · exact h.d3 j hw hj
    · exact own_ne_row hL1 hG1 (by decide) _ hj rfl
  · rw [pcs_snoc, Bk.adds_snoc]
    refine hB1.mods hM ?_ ?_
    · rintro (hj | hj)
      · have := hwb _ hj; omega
      · omega
    · rintro j hj (hw | rfl)
      · exact e1 j hj hw
      · exact own_ne_row ho hG1 (by decide) _ hj rfl
  · refine (m4.then hy (fun _ _ h => h.elim)).then hM ?_
    rintro j hj (hw | rfl)
    · have := hwb _ hw; omega
    · omega
  · exact (e1.symm.fresh ho (Nat.le_refl _) hat).symm
  · exact h.d3.fresh hL1 (Nat.le_refl _) hat
end

set_option maxRecDepth 100000 in
set_option maxHeartbeats 2000000 in
theorem f31_ok (base b : Nat) (v : Value) (B : Bk) (s : ByteArray) (n : Nat) (w : World) (hb : IsRef w base b v B) (hL : B.len + 524288 < 4398046511104) (hs : s.size ≤ 524288) (h1 : 16 ≤ n) (h2 : n ≤ 1024) :
    Calls Try.prog 31 #[.pointer (some ⟨b, 0, none⟩), .string s, .int .i64 n] w fun e w' => ∃ wv sv rv,
      e = .returned (.tuple #[sigV n s.size wv sv, .int .i64 0]) ∧
      w'.ownsRow w.heap.size 3 1 wv (cnt s.size n) (ints (sweak s n (cnt s.size n))) ∧
      w'.ownsRow w.heap.size 9 1 sv (cnt s.size n) (strs (smarks B s n (cnt s.size n))) ∧
      IsRef w' base b rv (B.adds (pcs s n (cnt s.size n))) ∧ Mods (RB b v) w w' ∧ Dj rv sv ∧ (∀ k, rv.ownBlock = some k → v.ownBlock = some k ∨ w.heap.size ≤ k) := by
  have HL := Lib.hid hL
  have HLT := Lib.hid hb.lt
  have hcl : cnt s.size n ≤ 524288 := Nat.le_trans (cnt_le s.size n (by omega)) hs
  have HB := Lib.hid hb
  clear hb hL
  go_enter Try.func31, Try.ntmps31
  go_wp2_with fail
  refine (f33_calls s n _ hs h1 h2).mono ?_; rintro e w1 ⟨lv, rfl, hl, hm⟩
  have hr0 := heap_alloc_new w (.cells #[.int .i64 0, .int .i64 0, .slice none 0 0, .slice none 0 0] 31)
  have hr1 := heap_alloc_new (w.alloc (.cells #[.int .i64 0, .int .i64 0, .slice none 0 0, .slice none 0 0] 31)) (.cells #[.int .i64 n, .int .i64 s.size, .slice none 0 0, .slice none 0 0] 31)
  have hz : (w.alloc (.cells #[.int .i64 0, .int .i64 0, .slice none 0 0, .slice none 0 0] 31)).heap.size = w.heap.size + 1 := by simp
  rw [hz] at hr1
  have hS0 : SignAtR base b v lv B s n w w1 0 0 (.slice none 0 0) (.slice none 0 0) v := by
    refine ⟨hm.row hr1 (fun h => h), hm.row (row_alloc hr0 _) (fun h => h), World.ownsRow_nil _ _ _ _, World.ownsRow_nil _ _ _ _, own_base hl (by simp; omega), ?_, ?_, ?_, ?_, ?_, fun k hk => .inl hk⟩
    · exact HB.out.nope ((((Mods.refl _ _).alloc _).alloc _).trans hm)
    · exact (((Mods.refl _ _).alloc _).alloc _).then hm (fun _ _ h => h.elim)
    · intro k hk h; simp [Value.ownBlock] at h
    · intro k hk h
      have := (HB.out.own_lt k hk).2
      have := (hl.lt k h).1
      simp at this
      omega
    · intro k hk; simp [Value.ownBlock] at hk
  have HS0 := Lib.hid hS0
  clear hS0 hl hm hr0 hr1 hz
  obtain ⟨A, c, rfl, _, _, _, _⟩ := Rd.of_owns HS0.out.list
  go_wp2_with fail
  go_loopg [10] (cnt s.size n) (fun gk i wr => ∃ k wv sv rv, k ≤ cnt s.size n ∧ gk = cnt s.size n - k ∧ i = .int .i64 (k : Nat) ∧ SignAtR base b v (.slice A (cnt s.size n) c) B s n w wr k k wv sv rv)
  case atStart => exact ⟨0, _, _, _, by omega, by omega, rfl, HS0.out⟩
  case round =>
    obtain ⟨k, wv, sv, rv, hk, rfl, rfl, hS⟩ := hrel
    by_cases hlt : k < cnt s.size n
    · have hps2 : (pc s k n).size ≤ 524288 := by have := pc_size s k n; omega
      have HS := Lib.hid hS
      have HK : Hid (k < cnt s.size n) := hlt
      obtain ⟨lb, cap, hA, hlb1, hlb2⟩ := hS.list.form (by omega)
      injection hA with hA _ hcc
      subst hA
      clear hcc
      have hci : (k : Int) < (cnt s.size n : Int) := by omega
      have hlc : wr.cell? ⟨lb, k, none⟩ = some (.string (pc s k n)) := by
        rw [hS.list.cellAt k (by omega)]
        simp [strs, pcs, hlt]
      have hc2 : wr.cell? ⟨w.heap.size + 1, 2, none⟩ = some wv := by rw [row_cell hS.g]; rfl
      have ha2 : ∀ o, (wr.alloc o).cell? ⟨w.heap.size + 1, 2, none⟩ = some wv := fun o => ((Mods.refl Nope _).alloc o).cell hc2 (fun h => h)
      clear hS
      go_upto_region 10 with fail
      go_cut [] (fun wx => ∃ wv', SignAtR base b v (.slice (some ⟨lb, 0, none⟩) (cnt s.size n) c) B s n w wx (k + 1) k wv' sv rv)
      case first =>
        have HWL := Lib.hid (show (ints (sweak s n k)).length = k by rw [ints_length, sweak_length])
        have HW := Lib.hid (show wr.ownsRow w.heap.size 3 1 wv (ints (sweak s n k)).length (ints (sweak s n k)) by rw [HWL.out]; exact HS.out.weak)
        have hwz : w.heap.size ≤ wr.heap.size := HS.out.mods.size
        go_region_law (first
          | (refine step_app1 _ rfl _ _ 28 3 (.int .i64 0) 8 rfl Try.underlying28 info3 rfl (by decide) wv (ints (sweak s n k)) (.int .i64 (wk (pc s k n))) _ rfl rfl (by simp) rfl w.heap.size (by exact HW.out.alloc _) (by simp; omega) (by rw [HWL.out]; omega) ?_; intro g cap w3 hown3 hg3 hat3
             have HG : Hid (w3.heap[w.heap.size + 1]? = some (.cells #[.int .i64 n, .int .i64 s.size, wv, sv] 31 (0, 0))) := grown_row hg3 (row_alloc HS.out.g _) (own_ne_row HW.out HS.out.g (by decide))
             have hcc : w3.cell? ⟨w.heap.size + 1, 2, none⟩ = some wv := by rw [row_cell HG.out]; rfl
             have hff : w3.frozen? ⟨w.heap.size + 1, 2, none⟩ = false := row_frozen HG.out 2
             rw [HWL.out] at hown3 ⊢
             have HA := Lib.hid (HS.out.addWeak HLT.out (((Mods.refl Nope wr).alloc _).drew) hg3 hown3))
          | (go_simp; go_at_call 59; refine (f59_calls _ _ hps2).mono ?_; rintro e w4 ⟨rfl, rfl⟩))
        all_goals (go_wp2_with fail; go_meet; exact ⟨_, HA.out⟩)
      case rest =>
        obtain ⟨wv', hS1⟩ := hcut
        have hlc1 : wc.cell? ⟨lb, k, none⟩ = some (.string (pc s k n)) := by
          rw [hS1.list.cellAt k (by have := HK.out; omega)]
          simp [strs, pcs, HK.out]
        have HS1 := Lib.hid hS1
        clear hS1 hlc hc2 ha2
        go_wp2_with fail
        have HWL := Lib.hid (show (strs (smarks B s n k)).length = k by rw [strs_length, smarks_length])
        have hwz : w.heap.size ≤ wc.heap.size := HS1.out.mods.size
        have hc2 : wc.cell? ⟨w.heap.size + 1, 3, none⟩ = some sv := by rw [row_cell HS1.out.g]; rfl
        have HLEN : Hid ((B.adds (pcs s n k)).len < 4398046511104) := by unfold Hid; have := B.len_adds (pcs s n k); have := HL.out; have := HK.out; rw [pcs_length] at *; omega
        have HPS : Hid ((pc s k n).size ≤ 140737488351232) := by unfold Hid; omega
        go_region_law (first
          | (refine step_app1 _ rfl _ _ 29 9 (.string ⟨#[]⟩) 16 rfl Try.underlying29 info9 rfl (by decide) sv (strs (smarks B s n k)) (.string ((B.adds (pcs s n k)).mark (pc s k n))) _ rfl rfl (by simp) rfl w.heap.size (by exact HSO.out.alloc _) (by simp; omega) (by rw [HWL.out]; omega) ?_; intro g cap w3 hown3 hg3 hat3
             have HG : Hid (w3.heap[w.heap.size + 1]? = some (.cells #[.int .i64 n, .int .i64 s.size, wv', sv] 31 (0, 0))) := grown_row hg3 (row_alloc HGG.out _) (own_ne_row HSO.out HGG.out (by decide))
             have hcc : w3.cell? ⟨w.heap.size + 1, 3, none⟩ = some sv := by rw [row_cell HG.out]; rfl
             have hff : w3.frozen? ⟨w.heap.size + 1, 3, none⟩ = false := row_frozen HG.out 3
             rw [HWL.out] at hown3 ⊢
             have HA := Lib.hid (HS1.out.addStrong HLT.out HM4.out HB4.out HP4.out (((Mods.refl Nope w4).alloc _)) hg3 hown3 (at_of hat3)))
          | (go_simp; go_at_call 79; refine (f79_calls base b rv (B.adds (pcs s n k)) _ _ (by exact HS1.out.book) HLEN.out HPS.out).mono ?_; rintro e w4 ⟨rfl, rv', hb4, hm4, hp4⟩
             have HB4 := Lib.hid hb4
             have HM4 : Hid (Mods (RB b rv) wc w4) := ((Mods.refl _ wc).drew).trans hm4
             have HP4 : Hid (∀ j, rv'.ownBlock = some j → rv.ownBlock = some j ∨ wc.heap.size ≤ j) := hp4
             have HMM := Lib.hid (HS1.out.marked HLT.out HM4.out hp4)
             have HGG := Lib.hid HMM.out.1
             have HSO : Hid (w4.ownsRow w.heap.size 9 1 sv (strs (smarks B s n k)).length (strs (smarks B s n k))) := by rw [HWL.out]; exact HMM.out.2.2.2.1
             have hz4 : w.heap.size ≤ w4.heap.size := Nat.le_trans hwz HM4.out.size
             have hc4 : w4.cell? ⟨w.heap.size + 1, 3, none⟩ = some sv := by rw [row_cell HGG.out]; rfl
             have ha4 : ∀ o, (w4.alloc o).cell? ⟨w.heap.size + 1, 3, none⟩ = some sv := fun o => ((Mods.refl Nope _).alloc o).cell hc4 (fun h => h)
             clear hb4 hm4 hp4))
        all_goals
          go_wp2_with fail
          go_roundg (cnt s.size n - (k + 1))
          case measure => have := HK.out; omega
          case rel => exact ⟨k + 1, wv', _, _, HK.out, rfl, by go_num, HA.out⟩
    · obtain rfl : k = cnt s.size n := by omega
      obtain ⟨A1, c1, hA1, _, _, hrd, _⟩ := Rd.of_owns hS.weak
      obtain ⟨A', c', hA', _, _, hrd', _⟩ := Rd.of_owns hS.strong
      subst hA1
      subst hA'
      have g0 : wr.cell? ⟨w.heap.size + 1, 0, none⟩ = some (.int .i64 n) := by rw [row_cell hS.g]; rfl
      have g1 : wr.cell? ⟨w.heap.size + 1, 1, none⟩ = some (.int .i64 s.size) := by rw [row_cell hS.g]; rfl
      have g2 : wr.cell? ⟨w.heap.size + 1, 2, none⟩ = some (.slice A1 (cnt s.size n) c1) := by rw [row_cell hS.g]; rfl
      have g3 : wr.cell? ⟨w.heap.size + 1, 3, none⟩ = some (.slice A' (cnt s.size n) c') := by rw [row_cell hS.g]; rfl
      have r0 : wr.cell? ⟨w.heap.size, 0, none⟩ = some (.int .i64 0) := by rw [row_cell hS.res]; rfl
      have r1 : wr.cell? ⟨w.heap.size, 1, none⟩ = some (.int .i64 0) := by rw [row_cell hS.res]; rfl
      have r2 : wr.cell? ⟨w.heap.size, 2, none⟩ = some (.slice none 0 0) := by rw [row_cell hS.res]; rfl
      have r3 : wr.cell? ⟨w.heap.size, 3, none⟩ = some (.slice none 0 0) := by rw [row_cell hS.res]; rfl
      have f0 : ∀ j, wr.frozen? ⟨w.heap.size, j, none⟩ = false := fun j => row_frozen hS.res j
      have HS := Lib.hid hS
      clear hS hrd hrd'
      go_wp2
      refine bodyPost_ret (v := .tuple #[sigV n s.size (.slice A1 (cnt s.size n) c1) (.slice A' (cnt s.size n) c'), .int .i64 0]) (by simp [results, Try.results31, go_sem, r0, r1, r2, r3, sigV]) rfl ⟨_, _, rv, rfl, ?_⟩
      have hM := Lib.hid (((((Mods.refl (fun j => j = w.heap.size) wr).setCell ⟨w.heap.size, 0, none⟩ (fun _ => rfl) (.int .i64 n)).setCell ⟨w.heap.size, 1, none⟩ (fun _ => rfl) (.int .i64 s.size)).setCell ⟨w.heap.size, 2, none⟩ (fun _ => rfl) (.slice A1 (cnt s.size n) c1)).setCell ⟨w.heap.size, 3, none⟩ (fun _ => rfl) (.slice A' (cnt s.size n) c'))
      obtain ⟨_, _, ho⟩ := HS.out.book.owns
      refine ⟨hM.out.owns HS.out.weak ?_, hM.out.owns HS.out.strong ?_, HS.out.book.mods hM.out ?_ ?_, HS.out.mods.then hM.out (fun j hj e => by omega), HS.out.d1, HS.out.prov⟩
      · exact own_ne_row HS.out.weak HS.out.res (by decide)
      · exact own_ne_row HS.out.strong HS.out.res (by decide)
      · have := HLT.out; omega
      · exact own_ne_row ho HS.out.res (by decide)
end Go.Proofs.Ytblhbbgkkijkfaa
