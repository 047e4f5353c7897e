/- slices.Clone at lists of numbers and of strings, walked. slices.BinarySearch at []int, (*sign.Table).Find, Size, Block, walked. sign.NewTable, walked. Plain words: the blocks of a weak sum, rising. (*sign.Table).Find, Size, Block; barqueref05.Find, walked. barqueref05.Find, walked. -/
import Derived.Test.YtblhbbgkkijkfaaSB
import Derived.Test.YtblhbbgkkijkfaaT7
import Derived.Deep.RegionHeld3
namespace Go.Proofs.Ytblhbbgkkijkfaa
open Go.RowKit Go.Maps
set_option maxHeartbeats 1000000 in
theorem f102_calls (A : Option Addr) (n c : Nat) (ws : List Int) (w : World) (hl : ws.length = n) (hR : Rd w A (ints ws)) (hn : n ≤ 1000000) :
    Calls Try.prog 102 #[.slice A n c] w fun e w' => ∃ v, e = .returned v ∧ w'.ownsRow w.heap.size 3 1 v n (ints ws) ∧ Mods Nope w w' := by
  have HR := Lib.hid hR
  have HL := Lib.hid hl
  cases A with
  | none =>
    obtain rfl : ws = [] := by
      cases ws with
      | nil => rfl
      | cons x ws => obtain ⟨_, _, h, _⟩ := hR.int 0 (by simp); cases h
    simp at hl
    subst hl
    clear hR HR HL
    have heq := fun (w : World) => Lib.run_eql_slice_nil (P := Try.prog) w 28 3 none 0 c 0 0 Try.underlying28
    go_enter Try.func102, Try.ntmps102
    go_wp2
    go_ret
    exact ⟨_, rfl, World.ownsRow_nil _ _ _ _, Mods.refl _ _⟩
  | some ad =>
    clear hR hl
    have heq := fun (w : World) => Lib.run_eql_slice_nil (P := Try.prog) w 28 3 (some ad) n c 0 0 Try.underlying28
    go_enter Try.func102, Try.ntmps102
    go_upto_region 3 with fail
    go_wp2_with (at_builtin; refine wpList_appN _ rfl _ _ 28 3 (.int .i64 0) 8 rfl Try.underlying28 info3 rfl (by decide) _ [] (some ad) n c (ints ws) rfl rfl (by rw [ints_length]; exact HL.out) (by exact HR.out.alloc _) ?q1 w.heap.size ?q2 (by simp) (by simp; omega) ?_)
    case q1 =>
      intro u hu
      simp only [ints, List.mem_map] at hu
      obtain ⟨x, _, rfl⟩ := hu
      rfl
    case q2 => exact ⟨rfl, .inr ⟨_, _, _, rfl, Nat.le_refl _, heap_alloc_new _ _, Nat.le_refl _, by simp [maxLen], rfl, rfl⟩⟩
    intro v w1 hown hg
    have HO : Hid (w1.ownsRow w.heap.size 3 1 v n (ints ws)) := by unfold Hid; simpa using hown
    have HM : Hid (Mods Nope w w1) := ((Mods.refl Nope w).alloc _).grown hg (fun k hk hlt => by simp [Value.ownBlock] at hk; omega)
    clear hown hg heq
    go_wp2
    go_ret
    exact ⟨_, rfl, HO.out, HM.out⟩
set_option maxHeartbeats 1000000 in
theorem f103_calls (A : Option Addr) (n c : Nat) (ws : List ByteArray) (w : World) (hl : ws.length = n) (hR : Rd w A (strs ws)) (hn : n ≤ 1000000) :
    Calls Try.prog 103 #[.slice A n c] w fun e w' => ∃ v, e = .returned v ∧ w'.ownsRow w.heap.size 9 1 v n (strs ws) ∧ Mods Nope w w' := by
  have HR := Lib.hid hR
  have HL := Lib.hid hl
  cases A with
  | none =>
    obtain rfl : ws = [] := by
      cases ws with
      | nil => rfl
      | cons x ws => obtain ⟨_, _, h, _⟩ := hR.str 0 (by simp); cases h
    simp at hl
    subst hl
    clear hR HR HL
    have heq := fun (w : World) => Lib.run_eql_slice_nil (P := Try.prog) w 29 9 none 0 c 0 0 Try.underlying29
    go_enter Try.func103, Try.ntmps103
    go_wp2
    go_ret
    exact ⟨_, rfl, World.ownsRow_nil _ _ _ _, Mods.refl _ _⟩
  | some ad =>
    clear hR hl
    have heq := fun (w : World) => Lib.run_eql_slice_nil (P := Try.prog) w 29 9 (some ad) n c 0 0 Try.underlying29
    go_enter Try.func103, Try.ntmps103
    go_upto_region 3 with fail
    go_wp2_with (at_builtin; refine wpList_appN _ rfl _ _ 29 9 (.string ⟨#[]⟩) 16 rfl Try.underlying29 info9 rfl (by decide) _ [] (some ad) n c (strs ws) rfl rfl (by rw [strs_length]; exact HL.out) (by exact HR.out.alloc _) ?q1 w.heap.size ?q2 (by simp) (by simp; omega) ?_)
    case q1 =>
      intro u hu
      simp only [strs, List.mem_map] at hu
      obtain ⟨x, _, rfl⟩ := hu
      rfl
    case q2 => exact ⟨rfl, .inr ⟨_, _, _, rfl, Nat.le_refl _, heap_alloc_new _ _, Nat.le_refl _, by simp [maxLen], rfl, rfl⟩⟩
    intro v w1 hown hg
    have HO : Hid (w1.ownsRow w.heap.size 9 1 v n (strs ws)) := by unfold Hid; simpa using hown
    have HM : Hid (Mods Nope w w1) := ((Mods.refl Nope w).alloc _).grown hg (fun k hk hlt => by simp [Value.ownBlock] at hk; omega)
    clear hown hg heq
    go_wp2
    go_ret
    exact ⟨_, rfl, HO.out, HM.out⟩
end Go.Proofs.Ytblhbbgkkijkfaa
namespace Go.Proofs.Ytblhbbgkkijkfaa
open Go.RowKit Go.Maps
theorem f146_calls (x : Int) (w : World) : Calls Try.prog 146 #[.int .i64 x] w fun e w' => e = .returned (.bool false) ∧ w' = w := by
  have h : (x != x) = false := by simp
  go_enter Try.func146, Try.ntmps146
  go_wp2
  go_ret
  exact ⟨rfl, rfl⟩
theorem f127_calls (x : Int) (w : World) : Calls Try.prog 127 #[.int .i64 x] w fun e w' => e = .returned (.bool false) ∧ w' = w := by
  have h : (x != x) = false := by simp
  go_enter Try.func127, Try.ntmps127
  go_wp2
  go_ret
  exact ⟨rfl, rfl⟩
theorem f126_calls (x y : Int) (w : World) : Calls Try.prog 126 #[.int .i64 x, .int .i64 y] w fun e w' => e = .returned (.bool (decide (x < y))) ∧ w' = w := by
  go_enter Try.func126, Try.ntmps126
  go_wp2_with fail
  refine (f146_calls x _).mono ?_; rintro e w1 ⟨rfl, rfl⟩
  go_wp2
  go_ret
  exact ⟨rfl, rfl⟩
/-- All ahead of a place are less; none from it on. -/
def Lo (ws : List Int) (x : Int) (k : Nat) : Prop := ∀ t, t < k → ws.getD t 0 < x
def Hi (ws : List Int) (x : Int) (k : Nat) : Prop := ∀ t, k ≤ t → t < ws.length → ¬ ws.getD t 0 < x
def BsPost (n : Nat) (ws : List Int) (x : Int) (w : World) (e : Ending) (w' : World) : Prop :=
  ∃ (at_ : Nat) (f : Bool), e = .returned (.tuple #[.int .i64 (at_ : Nat), .bool f]) ∧ at_ ≤ n ∧ Lo ws x at_ ∧ Hi ws x at_ ∧ w' = w
set_option maxRecDepth 100000 in
set_option maxHeartbeats 2000000 in
theorem f87_calls (A : Option Addr) (n c : Nat) (ws : List Int) (x : Int) (w : World) (hl : ws.length = n) (hR : Rd w A (ints ws)) (hs : ∀ s t, s ≤ t → t < ws.length → ws.getD s 0 ≤ ws.getD t 0) (hn : n ≤ 1000000) :
    Calls Try.prog 87 #[.slice A n c, .int .i64 x] w (BsPost n ws x w) := by
  have HR := Lib.hid hR
  have HL := Lib.hid hl
  have HS := Lib.hid hs
  clear hR hl hs
  go_enter Try.func87, Try.ntmps87
  go_wp2_with fail
  go_loop [7, 8] (fun i j => ∃ s t : Nat, s ≤ t ∧ t ≤ n ∧ i = .int .i64 (s : Nat) ∧ j = .int .i64 (t : Nat) ∧ Lo ws x s ∧ Hi ws x t) (fun i j => (intOf j - intOf i).toNat)
  case atStart => exact ⟨0, n, by omega, by omega, rfl, rfl, fun k hk => by omega, fun k h1 h2 => by have := HL.out; omega⟩
  case round =>
    obtain ⟨s, t, hst, htn, rfl, rfl, h1, h2⟩ := hrel
    have H1 := Lib.hid h1
    have H2 := Lib.hid h2
    clear h1 h2
    by_cases hlt : s < t
    · obtain ⟨h, hh⟩ : ∃ h, h = (s + t) / 2 := ⟨_, rfl⟩
      have HE : Hid (((s : Int) + (t : Int)) / 2 = (h : Nat)) := by unfold Hid; omega
      have hs1 : s ≤ h := by omega
      have hs2 : h < t := by omega
      have hhl : h < ws.length := by have := HL.out; omega
      obtain ⟨bb, off, hA, hc⟩ := HR.out.int h hhl
      have hv : ws[h] = ws.getD h 0 := by simp [List.getD_eq_getElem?_getD, hhl]
      rw [hv] at hc
      have HLo : Hid (∀ k, k ≤ h → ws.getD k 0 ≤ ws.getD h 0) := fun k hk => HS.out k h hk hhl
      have HHi : Hid (∀ k, h ≤ k → k < ws.length → ws.getD h 0 ≤ ws.getD k 0) := fun k hk hkl => HS.out h k hk hkl
      have hhi : (h : Int) < (n : Int) := by omega
      subst hA
      clear hh hv hhl
      generalize ws.getD h 0 = y at *
      go_upto_region 5 with fail
      rw [HE.out]
      by_cases hy : y < x
      · have H1' : Hid (Lo ws x (h + 1)) := fun k hk => by have := HLo.out k (by omega); omega
        have hd : decide (y < x) = true := decide_eq_true hy
        go_wp2_with fail
        refine (f126_calls y x _).mono ?_; rintro e w1 ⟨rfl, rfl⟩
        go_wp2_with fail
        go_round
        case rel => exact ⟨h + 1, t, by omega, htn, by go_num, rfl, H1'.out, H2.out⟩
        case measure => simp [intOf]; omega
      · have H2' : Hid (Hi ws x h) := fun k hk hkl => by have := HHi.out k hk hkl; omega
        have hd : decide (y < x) = false := decide_eq_false hy
        go_wp2_with fail
        refine (f126_calls y x _).mono ?_; rintro e w1 ⟨rfl, rfl⟩
        go_wp2_with fail
        go_round
        case rel => exact ⟨s, h, hs1, by omega, rfl, rfl, H1.out, H2'.out⟩
        case measure => simp [intOf]; omega
    · obtain rfl : s = t := by omega
      by_cases hsn : s < n
      · have hhl : s < ws.length := by have := HL.out; omega
        obtain ⟨bb, off, hA, hc⟩ := HR.out.int s hhl
        have hhi : (s : Int) < (n : Int) := by omega
        subst hA
        by_cases hy : ws[s] = x
        · have hb : (ws[s] == x) = true := by simp [hy]
          generalize ws[s] = y at *
          clear hy
          go_wp2
          go_ret2
          exact ⟨s, true, rfl, htn, H1.out, H2.out, rfl⟩
        · have hb : (ws[s] == x) = false := by simpa using hy
          generalize ws[s] = y at *
          clear hy
          go_wp2_with fail
          refine (f127_calls y _).mono ?_; rintro e w1 ⟨rfl, rfl⟩
          go_wp2
          go_ret2
          exact ⟨s, false, rfl, htn, H1.out, H2.out, rfl⟩
      · have hhi : ¬ (s : Int) < (n : Int) := by omega
        go_wp2
        go_ret2
        exact ⟨s, false, rfl, htn, H1.out, H2.out, rfl⟩
end Go.Proofs.Ytblhbbgkkijkfaa
namespace Go.Proofs.Ytblhbbgkkijkfaa
open Go.RowKit Go.Maps
/-- A table: block T; its signature's lists, the weak sums in order, the blocks beside them. -/
structure Tbl (w : World) (B T : Nat) (blk size : Int) (ws : List Int) (ms : List ByteArray) (bs : List Int) (wv sv kv bv : Value) : Prop where
  base : B ≤ T
  row : w.heap[T]? = some (.cells #[.int .i64 blk, .int .i64 size, wv, sv, kv, bv] 113 (0, 0))
  weak : w.ownsRow B 3 1 wv ws.length (ints ws)
  strong : w.ownsRow B 9 1 sv ms.length (strs ms)
  keys : w.ownsRow B 3 1 kv bs.length (ints (bs.map (kw ws)))
  blocks : w.ownsRow B 3 1 bv bs.length (ints bs)
/-- A table that is being made; G: the signature that came in, as the comparison sees it. -/
structure TbAt (B T G : Nat) (A : Option Addr) (c : Nat) (blk size : Int) (ws : List Int) (ms : List ByteArray) (wv sv kv bv : Value) (ks bs : List Int) (w1 wr : World) : Prop where
  ord : B ≤ T ∧ B ≤ G ∧ G ≠ T
  row : wr.heap[T]? = some (.cells #[.int .i64 blk, .int .i64 size, wv, sv, kv, bv] 113 (0, 0))
  sig : ∃ x, wr.heap[G]? = some (.cells #[.int .i64 blk, .int .i64 size, .slice A ws.length c, x] 31 (0, 0))
  weak : wr.ownsRow B 3 1 wv ws.length (ints ws)
  strong : wr.ownsRow B 9 1 sv ms.length (strs ms)
  keys : wr.ownsRow B 3 1 kv ks.length (ints ks)
  blocks : wr.ownsRow B 3 1 bv bs.length (ints bs)
  d1 : Dj bv wv
  d2 : Dj kv wv
  d3 : Dj kv bv
  mods : Mods (fun j => B ≤ j) w1 wr
section
variable {B T G : Nat} {A : Option Addr} {c : Nat} {blk size : Int} {ws : List Int} {ms : List ByteArray} {wv sv kv bv nv : Value} {ks bs : List Int} {w1 wr wx w3 : World} {x : Int} {n : Nat}
theorem TbAt.nope (h : TbAt B T G A c blk size ws ms wv sv kv bv ks bs w1 wr) (hm : Mods Nope wr wx) : TbAt B T G A c blk size ws ms wv sv kv bv ks bs w1 wx := by
  obtain ⟨x, hx⟩ := h.sig
  exact ⟨h.ord, hm.row h.row (fun h => h), ⟨x, hm.row hx (fun h => h)⟩, hm.owns h.weak (fun _ _ h => h), hm.owns h.strong (fun _ _ h => h), hm.owns h.keys (fun _ _ h => h), hm.owns h.blocks (fun _ _ h => h), h.d1, h.d2, h.d3, h.mods.then hm (fun _ _ h => h.elim)⟩
theorem TbAt.addBlock (h : TbAt B T G A c blk size ws ms wv sv kv bv ks bs w1 wr) (hn : bs.length = n) (hm : Mods Nope wr wx) (hg : wx.grownBy w3 bv.ownBlock)
    (hown : w3.ownsRow B 3 1 nv (n + 1) (ints bs ++ [.int .i64 x])) (hat : ∀ j, nv.ownBlock = some j → bv.ownBlock = some j ∨ wx.heap.size ≤ j) :
    TbAt B T G A c blk size ws ms wv sv kv nv ks (bs ++ [x]) w1 (w3.setCell ⟨T, 5, none⟩ nv) := by
  subst hn
  have ho := h.ord
  have h' := h.nope hm
  obtain ⟨y, hy⟩ := h'.sig
  have hT := grown_row hg h'.row (own_ne_row h'.blocks h'.row (by decide))
  have hM : Mods (fun j => bv.ownBlock = some j ∨ j = T) wx (w3.setCell ⟨T, 5, none⟩ nv) :=
    ((Mods.refl _ _).grown hg (fun j hj _ => .inl hj)).setCell _ (fun _ => .inr rfl) _
  have hown2 : (w3.setCell ⟨T, 5, none⟩ nv).ownsRow B 3 1 nv (bs.length + 1) (ints bs ++ [.int .i64 x]) := ((Mods.refl (fun j => j = T) w3).setCell ⟨T, 5, none⟩ (fun _ => rfl) nv).owns hown (fun j hj e => own_ne_row hown hT (by decide) j hj e)
  refine ⟨h.ord, row_set hT 5 nv, ⟨y, hM.row hy ?_⟩, hM.owns h'.weak ?_, hM.owns h'.strong ?_, hM.owns h'.keys ?_, by rw [ints_append, List.length_append]; exact hown2, ?_, h.d2, ?_, ?_⟩
  · rintro (hj | hj)
    · exact own_ne_row h'.blocks hy (by decide) _ hj rfl
    · omega
  · rintro j hj (hw | rfl)
    · exact h.d1 j hw hj
    · exact own_ne_row h'.weak h'.row (by decide) _ hj rfl
  · rintro j hj (hw | rfl)
    · exact own_ne_own h'.strong h'.blocks (by decide) j hj hw
    · exact own_ne_row h'.strong h'.row (by decide) _ hj rfl
  · rintro j hj (hw | rfl)
    · exact h.d3 j hj hw
    · exact own_ne_row h'.keys h'.row (by decide) _ hj rfl
  · exact h.d1.fresh h'.weak (Nat.le_refl _) hat
  · exact (h.d3.symm.fresh h'.keys (Nat.le_refl _) hat).symm
  · refine h'.mods.then hM ?_
    rintro j hj (hw | rfl)
    · exact (h'.blocks.lt _ hw).1
    · exact ho.1
theorem TbAt.addKey (h : TbAt B T G A c blk size ws ms wv sv kv bv ks bs w1 wr) (hn : ks.length = n) (hm : Mods Nope wr wx) (hg : wx.grownBy w3 kv.ownBlock)
    (hown : w3.ownsRow B 3 1 nv (n + 1) (ints ks ++ [.int .i64 x])) (hat : ∀ j, nv.ownBlock = some j → kv.ownBlock = some j ∨ wx.heap.size ≤ j) :
    TbAt B T G A c blk size ws ms wv sv nv bv (ks ++ [x]) bs w1 (w3.setCell ⟨T, 4, none⟩ nv) := by
  subst hn
  have ho := h.ord
  have h' := h.nope hm
  obtain ⟨y, hy⟩ := h'.sig
  have hT := grown_row hg h'.row (own_ne_row h'.keys h'.row (by decide))
  have hM : Mods (fun j => kv.ownBlock = some j ∨ j = T) wx (w3.setCell ⟨T, 4, none⟩ nv) :=
    ((Mods.refl _ _).grown hg (fun j hj _ => .inl hj)).setCell _ (fun _ => .inr rfl) _
  have hown2 : (w3.setCell ⟨T, 4, none⟩ nv).ownsRow B 3 1 nv (ks.length + 1) (ints ks ++ [.int .i64 x]) := ((Mods.refl (fun j => j = T) w3).setCell ⟨T, 4, none⟩ (fun _ => rfl) nv).owns hown (fun j hj e => own_ne_row hown hT (by decide) j hj e)
  refine ⟨h.ord, row_set hT 4 nv, ⟨y, hM.row hy ?_⟩, hM.owns h'.weak ?_, hM.owns h'.strong ?_, by rw [ints_append, List.length_append]; exact hown2, hM.owns h'.blocks ?_, h.d1, ?_, ?_, ?_⟩
  · rintro (hj | hj)
    · exact own_ne_row h'.keys hy (by decide) _ hj rfl
    · omega
  · rintro j hj (hw | rfl)
    · exact h.d2 j hw hj
    · exact own_ne_row h'.weak h'.row (by decide) _ hj rfl
  · rintro j hj (hw | rfl)
    · exact own_ne_own h'.strong h'.keys (by decide) j hj hw
    · exact own_ne_row h'.strong h'.row (by decide) _ hj rfl
  · rintro j hj (hw | rfl)
    · exact h.d3 j hw hj
    · exact own_ne_row h'.blocks h'.row (by decide) _ hj rfl
  · exact h.d2.fresh h'.weak (Nat.le_refl _) hat
  · exact h.d3.fresh h'.blocks (Nat.le_refl _) hat
  · refine h'.mods.then hM ?_
    rintro j hj (hw | rfl)
    · exact (h'.keys.lt _ hw).1
    · exact ho.1
/-- The blocks in another order. -/
theorem TbAt.sorted {g cap : Nat} {s : List Int} (h : TbAt B T G A c blk size ws ms wv sv kv bv ks bs w1 wr) (hb : bv = .slice (some ⟨g, 0, none⟩) bs.length cap) (hp : s.Perm bs) (hA : Arr wx g cap s) (hm : Mods (fun j => j = g) wr wx) :
    TbAt B T G A c blk size ws ms wv sv kv bv ks s w1 wx := by
  have ho := h.ord
  have hbg : bv.ownBlock = some g := by rw [hb]; rfl
  have hBg := (h.blocks.lt g hbg).1
  obtain ⟨y, hy⟩ := h.sig
  refine ⟨h.ord, hm.row h.row ?_, ⟨y, hm.row hy ?_⟩, hm.owns h.weak ?_, hm.owns h.strong ?_, hm.owns h.keys ?_, ?_, h.d1, h.d2, h.d3, ?_⟩
  · exact fun e => own_ne_row h.blocks h.row (by decide) g hbg e.symm
  · exact fun e => own_ne_row h.blocks hy (by decide) g hbg e.symm
  · rintro j hj rfl; exact h.d1 j hbg hj
  · rintro j hj rfl; exact own_ne_own h.strong h.blocks (by decide) j hj hbg
  · rintro j hj rfl; exact h.d3 j hj hbg
  · have hl := hp.length_eq
    rw [hb, ← hl]
    unfold Arr at hA
    refine ⟨hA.1, ?_⟩
    rcases hA.2 with ⟨e, _⟩ | ⟨g', cap', cur, e, _, rest⟩
    · cases e
    · refine .inr ⟨g', cap', cur, e, ?_, rest⟩
      injection e with e _ _
      injection e with e
      injection e with e _
      subst e
      exact hBg
  · exact h.mods.then hm (fun j hj e => by omega)
end
theorem own_arr {w : World} {B : Nat} {v : Value} {xs : List Int} (h : w.ownsRow B 3 1 v xs.length (ints xs)) : (v = .slice none 0 0 ∧ xs = []) ∨ ∃ g cap, v = .slice (some ⟨g, 0, none⟩) xs.length cap ∧ B ≤ g ∧ Arr w g cap xs := by
  rcases h.2 with ⟨rfl, h0⟩ | ⟨g, cap, cur, rfl, hb, rest⟩
  · exact .inl ⟨rfl, List.eq_nil_of_length_eq_zero h0⟩
  · exact .inr ⟨g, cap, rfl, hb, h.1, .inr ⟨g, cap, cur, rfl, Nat.zero_le _, rest⟩⟩
/-- The first blocks. -/
def rng (k : Nat) : List Int := (List.range k).map fun (i : Nat) => (i : Int)
theorem rng_length (k : Nat) : (rng k).length = k := by simp [rng]
theorem rng_snoc (k : Nat) : rng (k + 1) = rng k ++ [(k : Int)] := by simp [rng, List.range_succ]
theorem rng_lt (k : Nat) : (rng k).Pairwise (· < ·) := by
  unfold rng
  rw [List.pairwise_map]
  exact List.pairwise_lt_range.imp (fun h => by omega)
theorem rng_mem {k : Nat} {x : Int} (h : x ∈ rng k) : 0 ≤ x ∧ x < k := by
  simp only [rng, List.mem_map, List.mem_range] at h
  obtain ⟨i, hi, rfl⟩ := h
  omega
theorem div_le_cnt (n b : Nat) (hb : 0 < b) : n / b ≤ cnt n b := by
  unfold cnt
  exact Nat.div_le_div_right (by omega)
theorem rd_far {M : Nat → Prop} {w w' : World} {A : Option Addr} {ws : List Int} (h : Rd w A (ints ws)) (hm : Mods M w w') (hA : 0 < ws.length → ∀ a, A = some a → ¬ M a.block) : Rd w' A (ints ws) := by
  by_cases h0 : 0 < ws.length
  · exact h.mods hm (hA h0)
  · obtain rfl : ws = [] := List.eq_nil_of_length_eq_zero (by omega)
    exact Rd.nil _ _
theorem cells4 {w : World} {g e : Nat} {a b c d : Value} (h : w.heap[g]? = some (.cells #[a, b, c, d] e (0, 0))) :
    w.cell? ⟨g, 0, none⟩ = some a ∧ w.cell? ⟨g, 1, none⟩ = some b ∧ w.cell? ⟨g, 2, none⟩ = some c ∧ w.cell? ⟨g, 3, none⟩ = some d :=
  ⟨by rw [row_cell h]; rfl, by rw [row_cell h]; rfl, by rw [row_cell h]; rfl, by rw [row_cell h]; rfl⟩
theorem cells6 {w : World} {g e : Nat} {a b c d x y : Value} (h : w.heap[g]? = some (.cells #[a, b, c, d, x, y] e (0, 0))) :
    w.cell? ⟨g, 0, none⟩ = some a ∧ w.cell? ⟨g, 1, none⟩ = some b ∧ w.cell? ⟨g, 2, none⟩ = some c ∧ w.cell? ⟨g, 3, none⟩ = some d ∧ w.cell? ⟨g, 4, none⟩ = some x ∧ w.cell? ⟨g, 5, none⟩ = some y ∧ (∀ j, w.frozen? ⟨g, j, none⟩ = false) :=
  ⟨by rw [row_cell h]; rfl, by rw [row_cell h]; rfl, by rw [row_cell h]; rfl, by rw [row_cell h]; rfl, by rw [row_cell h]; rfl, by rw [row_cell h]; rfl, fun j => row_frozen h j⟩
set_option maxRecDepth 100000 in
set_option maxHeartbeats 4000000 in
theorem f57_bad (blk size : Int) (A A' : Option Addr) (c c' l m : Nat) (ws : List Int) (ms : List ByteArray) (w : World) (hl : ws.length = l) (hm : ms.length = m) (hw : Rd w A (ints ws)) (hs : Rd w A' (strs ms)) (hz : ∀ m ∈ ms, m.size ≤ maxLen) (hok : sigB blk size ws ms = false) :
    Calls Try.prog 57 #[.agg #[.int .i64 blk, .int .i64 size, .slice A l c, .slice A' m c']] w fun e w' => e = .returned (.tuple #[.pointer none, .int .i64 1]) ∧ Mods Nope w w' := by
  go_enter Try.func57, Try.ntmps57
  go_wp2_with fail
  refine (f35_at _ _ A A' c c' _ _ _ _ _ hl hm (hw.alloc _) (hs.alloc _) hz).mono ?_; rintro e w1 ⟨rfl, h1⟩
  rw [hok]
  have H := Lib.hid (((Mods.refl Nope w).alloc _).trans h1)
  clear h1
  go_wp2
  go_ret2
  exact ⟨rfl, H.out⟩
set_option maxRecDepth 100000 in
set_option maxHeartbeats 4000000 in
theorem f57_ok (blk size : Int) (A A' : Option Addr) (c c' l m : Nat) (ws : List Int) (ms : List ByteArray) (w : World) (hl : ws.length = l) (hm : ms.length = m) (hw : Rd w A (ints ws)) (hs : Rd w A' (strs ms)) (hz : ∀ m ∈ ms, m.size ≤ maxLen) (hok : SigOK blk size ws ms) :
    Calls Try.prog 57 #[.agg #[.int .i64 blk, .int .i64 size, .slice A l c, .slice A' m c']] w fun e w' => ∃ T wv sv kv bv bs, e = .returned (.tuple #[.pointer (some ⟨T, 0, none⟩), .int .i64 0]) ∧ Tbl w' w.heap.size T blk size ws ms bs wv sv kv bv ∧ bs.Perm (rng (size.toNat / blk.toNat)) ∧ bs.Pairwise (Rl ws) ∧ Mods Nope w w' := by
  have hsb := sigB_true.2 hok
  obtain ⟨b, rfl⟩ := Int.eq_ofNat_of_zero_le (show 0 ≤ blk by have := hok.1; omega)
  obtain ⟨n, rfl⟩ := Int.eq_ofNat_of_zero_le hok.2.2.1
  have hb16 : 16 ≤ b := by have := hok.1; omega
  subst hl
  subst hm
  have hAB : 0 < ws.length → ∀ a, A = some a → a.block < w.heap.size := by
    intro h0 a e
    obtain ⟨b', off, e', hc⟩ := hw.int 0 h0
    rw [e] at e'
    injection e' with e'
    subst e'
    exact lt_of_cell hc
  go_enter Try.func57, Try.ntmps57
  go_wp2_with fail
  refine (f35_at _ _ A A' c c' _ _ _ _ _ rfl rfl (hw.alloc _) (hs.alloc _) hz).mono ?_; rintro e w1 ⟨rfl, h1⟩
  rw [hsb]
  have HOK := Lib.hid hok
  have hG := h1.row (heap_alloc_new w (.cells #[.int .i64 b, .int .i64 n, .slice A ws.length c, .slice A' ms.length c'] 31)) (fun h => h)
  have HG := Lib.hid hG
  have HM1 := Lib.hid (((Mods.refl Nope w).alloc _).trans h1)
  have HW := Lib.hid (hw.below HM1.out)
  have HS := Lib.hid (hs.below HM1.out)
  have hl2 : ws.length ≤ 524288 := by
    have := hok.2.2.2.2.1
    have h2 := cnt_le n b (by omega)
    have := hok.2.2.2.1
    simp only [Int.toNat_natCast] at *
    omega
  have hml : ms.length = ws.length := by exact hok.2.2.2.2.2.1
  have hm2 : ms.length ≤ 524288 := by omega
  have HAB := Lib.hid hAB
  have hz1 : w.heap.size ≤ w1.heap.size := HM1.out.size
  have k0 : w1.cell? ⟨w.heap.size, 0, none⟩ = some (.int .i64 b) := by rw [row_cell hG]; rfl
  have k1 : w1.cell? ⟨w.heap.size, 1, none⟩ = some (.int .i64 n) := by rw [row_cell hG]; rfl
  have k2 : w1.cell? ⟨w.heap.size, 2, none⟩ = some (.slice A ws.length c) := by rw [row_cell hG]; rfl
  have k3 : w1.cell? ⟨w.heap.size, 3, none⟩ = some (.slice A' ms.length c') := by rw [row_cell hG]; rfl
  clear hw hs hz hok h1 hG hsb hAB hml
  go_upto_region 3 with fail
  go_cut [4] (fun p wx => ∃ T wv sv, p = .pointer (some ⟨T, 0, none⟩) ∧ w.heap.size ≤ T ∧ wx.heap[T]? = some (.cells #[.int .i64 b, .int .i64 n, wv, sv, .slice none 0 0, .slice none 0 0] 113 (0, 0)) ∧ wx.ownsRow w.heap.size 3 1 wv ws.length (ints ws) ∧ wx.ownsRow w.heap.size 9 1 sv ms.length (strs ms) ∧ Mods Nope w1 wx)
  case first =>
    go_region_held3 (fun w' => w'.cell? ⟨w.heap.size, 0, none⟩ = some (.int .i64 b) ∧ w'.cell? ⟨w.heap.size, 1, none⟩ = some (.int .i64 n) ∧ w'.cell? ⟨w.heap.size, 2, none⟩ = some (.slice A ws.length c) ∧ w'.cell? ⟨w.heap.size, 3, none⟩ = some (.slice A' ms.length c')) (go_keep)
      (first
        | (go_at_call 102; refine (f102_calls A ws.length c ws _ rfl (HW.out.below (by repeat (with_reducible first | exact HMX.out | exact Mods.refl _ _ | apply Mods.drew | apply Mods.drewN))) (by omega)).mono ?_; rintro e w2 ⟨v1, rfl, ho1, hm1⟩
           obtain ⟨A1, c1, rfl, _⟩ := Rd.of_owns ho1
           have HMX : Hid (Mods Nope w1 w2) := Mods.trans (by repeat (with_reducible first | exact HMX.out | exact Mods.refl _ _ | apply Mods.drew | apply Mods.drewN)) hm1
           have HO1 : Hid (w2.ownsRow w.heap.size 3 1 (.slice A1 ws.length c1) ws.length (ints ws)) := own_base ho1 (Nat.le_trans hz1 (Mods.size (M := Nope) (by repeat (with_reducible first | exact HMX.out | exact Mods.refl _ _ | apply Mods.drew | apply Mods.drewN))))
           obtain ⟨k0, k1, k2, k3⟩ := cells4 (HMX.out.row HG.out (fun h => h))
           clear ho1 hm1)
        | (go_at_call 103; refine (f103_calls A' ms.length c' ms _ rfl (HS.out.below (by repeat (with_reducible first | exact HMX.out | exact Mods.refl _ _ | apply Mods.drew | apply Mods.drewN))) (by omega)).mono ?_; rintro e w3 ⟨v2, rfl, ho2, hm2⟩
           obtain ⟨A2, c2, rfl, _⟩ := Rd.of_owns ho2
           have HO2 : Hid (w3.ownsRow w.heap.size 9 1 (.slice A2 ms.length c2) ms.length (strs ms)) := own_base ho2 (Nat.le_trans hz1 (Mods.size (M := Nope) (by repeat (with_reducible first | exact HMX.out | exact Mods.refl _ _ | apply Mods.drew | apply Mods.drewN))))
           have HO1 : Hid (w3.ownsRow w.heap.size 3 1 (.slice A1 ws.length c1) ws.length (ints ws)) := hm2.owns HO1.out (fun _ _ h => h)
           have HMX : Hid (Mods Nope w1 w3) := Mods.trans (by repeat (with_reducible first | exact HMX.out | exact Mods.refl _ _ | apply Mods.drew | apply Mods.drewN)) hm2
           obtain ⟨k0, k1, k2, k3⟩ := cells4 (HMX.out.row HG.out (fun h => h))
           clear ho2 hm2))
    all_goals
      go_wp2_with fail
      go_meet
      refine ⟨_, .slice A1 ws.length c1, .slice A2 ms.length c2, rfl, ?_, heap_alloc_new _ _, ?_, ?_, ?_⟩
      · exact Nat.le_trans hz1 HMX.out.size
      · exact HO1.out.alloc _
      · exact HO2.out.alloc _
      · exact HMX.out.alloc _
  case rest =>
    obtain ⟨T, wv, sv, rfl, hBT, hT, how, hos, hmx⟩ := hcut
    have hG := hmx.row HG.out (fun h => h)
    have hTG : w.heap.size ≠ T := by rintro rfl; rw [hG] at hT; cases hT
    have HT : Hid (TbAt w.heap.size T w.heap.size A c b n ws ms wv sv (.slice none 0 0) (.slice none 0 0) [] [] w1 wc) := by
      refine ⟨⟨hBT, Nat.le_refl _, hTG⟩, hT, ⟨_, hG⟩, how, hos, World.ownsRow_nil _ _ _ _, World.ownsRow_nil _ _ _ _, ?_, ?_, ?_, hmx.any _⟩ <;> (intro k hk; simp [Value.ownBlock] at hk)
    clear k0 k1 k2 k3
    obtain ⟨k0, k1, k2, k3⟩ := cells4 hG
    have HNQ : Hid ((n : Int) / (b : Int) = ((n / b : Nat) : Int)) := by unfold Hid; exact (Int.natCast_ediv n b).symm
    have hNQ : n / b ≤ ws.length := by
      have h := HOK.out.2.2.2.2.1
      simp only [Int.toNat_natCast] at h
      rw [h]
      exact div_le_cnt n b (by omega)
    have hnb : (n : Int) ≤ 524288 := HOK.out.2.2.2.1
    have hdv : 0 ≤ (n : Int) / (b : Int) ∧ (n : Int) / (b : Int) ≤ 524288 := by rw [HNQ.out]; exact ⟨Int.natCast_nonneg _, Int.le_trans (Int.ofNat_le.2 (Nat.div_le_self n b)) hnb⟩
    obtain ⟨hdv1, hdv2⟩ := hdv
    clear hBT hT how hos hmx hG hTG
    go_wp2_with fail
    rw [HNQ.out]
    obtain ⟨Q, hQ⟩ : ∃ Q, Q = n / b := ⟨_, rfl⟩
    rw [← hQ] at hNQ ⊢
    have HQ := Lib.hid hQ
    clear hQ k0 k1 k2 k3 hdv1 hdv2
    go_loopg [29] Q (fun gk i wr => ∃ k bv, k ≤ Q ∧ gk = Q - k ∧ i = .int .i64 (k : Nat) ∧ (k = 0 → bv = .slice none 0 0) ∧ TbAt w.heap.size T w.heap.size A c b n ws ms wv sv (.slice none 0 0) bv [] (rng k) w1 wr)
    case atStart => exact ⟨0, .slice none 0 0, by omega, by omega, rfl, fun _ => rfl, HT.out⟩
    case round =>
      obtain ⟨k, bv, hk, rfl, rfl, hk0, hTb⟩ := hrel
      have HK0 := Lib.hid hk0
      clear hk0
      have HT1 := Lib.hid hTb
      by_cases hlt : k < Q
      · have HLT := Lib.hid hlt
        obtain ⟨_, _, _, _, _, d5, df⟩ := cells6 hTb.row
        have HWI := Lib.hid (show (ints (rng k)).length = k by rw [ints_length, rng_length])
        have HO := Lib.hid (show wr.ownsRow w.heap.size 3 1 bv (ints (rng k)).length (ints (rng k)) by rw [ints_length]; exact hTb.blocks)
        have hz2 : w.heap.size ≤ wr.heap.size := Nat.le_trans hz1 hTb.mods.size
        clear hTb
        go_wp2_with (at_builtin; refine wpList_app1 _ rfl _ _ 28 3 (.int .i64 0) 8 rfl Try.underlying28 info3 rfl (by decide) _ (ints (rng k)) (.int .i64 (k : Int)) _ rfl rfl (by simp) rfl w.heap.size (by exact HO.out.alloc _) (by simp; omega) (by rw [HWI.out]; omega) ?_)
        intro g cap w3 hown3 hg3 hat3
        rw [HWI.out] at hown3 ⊢
        have HA3 := Lib.hid (HT1.out.addBlock (rng_length k) ((Mods.refl Nope wr).alloc _) hg3 hown3 (at_of (by simpa using hat3)))
        have hT3 := grown_row hg3 (row_alloc HT1.out.row _) (own_ne_row HT1.out.blocks HT1.out.row (by decide))
        obtain ⟨_, _, _, _, _, x5, xf⟩ := cells6 hT3
        clear hown3 hg3 hat3 hT3 d5 df
        go_wp2_with fail
        go_roundg (Q - (k + 1))
        case measure => have := HLT.out; omega
        case rel => exact ⟨k + 1, _, HLT.out, rfl, by go_num, fun h => absurd h (Nat.succ_ne_zero k), by rw [rng_snoc]; exact HA3.out⟩
      · obtain rfl : k = Q := by omega
        obtain ⟨_, _, _, _, _, d5, df⟩ := cells6 hTb.row
        have HKS : Hid (KS wr w.heap.size A c ws) := by
          obtain ⟨y, hy⟩ := hTb.sig
          refine ⟨⟨_, _, _, hy⟩, rd_far HW.out hTb.mods (fun h0 a e => by have := HAB.out h0 a e; omega), HOK.out.2.2.2.2.2.2.1, hl2⟩
        have HIN : Hid (InR ws (rng k)) := fun x hx => by have := rng_mem hx; omega
        have hmf : ∀ (fn : Fn) (first cap : Array Value) (w : World), (Instr.makeFunc fn first cap).run Try.prog w = .ok (.func fn first cap) w := fun _ _ _ _ => rfl
        have hoa := own_arr hTb.blocks
        have hGg := hTb.sig
        have HDW := Lib.hid (fun g cap (h : bv = .slice (some ⟨g, 0, none⟩) (rng k).length cap) => show g ≠ w.heap.size by
          rintro rfl
          obtain ⟨y, hy⟩ := hTb.sig
          exact own_ne_row hTb.blocks hy (by decide) _ (by rw [h]; rfl) rfl)
        have HQ1 := Lib.hid (rng_length k)
        clear hTb hGg
        go_upto_region 9 with fail
        go_cut [] (fun wx => ∃ s, s.Perm (rng k) ∧ s.Pairwise (Rl ws) ∧ TbAt w.heap.size T w.heap.size A c b n ws ms wv sv (.slice none 0 0) bv [] s w1 wx)
        case first =>
          rcases hoa with ⟨hbv, hr0⟩ | ⟨g, cap, hbv, hBg, hArr⟩
          · subst hbv
            go_wp2_with fail
            refine (f104_nil _ _).mono ?_; rintro e w2 ⟨rfl, rfl⟩
            go_wp2_with fail
            go_meet
            exact ⟨rng k, List.Perm.refl _, by rw [hr0]; exact .nil, HT1.out⟩
          · have HA := Lib.hid hArr
            have HBV := Lib.hid hbv
            have HGW := Lib.hid (HDW.out g cap hbv)
            have HC := Lib.hid (f104_calls g cap (rng k).length w.heap.size A c ws (rng k) wr hArr rfl HKS.out HGW.out (fun ad e => by have := HAB.out (by have := HK0.out; rcases Nat.eq_zero_or_pos k with h | h; (have := this h; rw [hbv] at this; cases this); omega) ad e; omega) HIN.out (rng_lt k) (by rw [rng_length]; omega))
            clear hArr hBg
            unfold cmpV at HC
            rw [hbv] at d5
            clear hbv
            go_wp2_with fail
            refine HC.out.mono ?_; rintro e w2 ⟨rfl, s, hp, hs, hA2, hm2⟩
            have H2 := Lib.hid (HT1.out.sorted HBV.out hp hA2 hm2)
            have HP := Lib.hid hp
            have HSO := Lib.hid hs
            clear hp hs hA2 hm2
            go_wp2_with fail
            go_meet
            exact ⟨s, HP.out, HSO.out, H2.out⟩
        case rest =>
          obtain ⟨s, hp, hso, hT2⟩ := hcut
          have HP := Lib.hid hp
          have HSO := Lib.hid hso
          have HT2 := Lib.hid hT2
          have hsl : s.length = k := by rw [hp.length_eq, rng_length]
          have HSL := Lib.hid hsl
          have HSM : Hid (∀ x ∈ s, 0 ≤ x ∧ x < k) := fun x hx => rng_mem (hp.subset hx)
          obtain ⟨Ab, cb, hbv, hcb, _, hrb, _⟩ := Rd.of_owns hT2.blocks
          subst hbv
          obtain ⟨_, _, _, _, _, y5, yf⟩ := cells6 hT2.row
          have hsk : s.length ≤ 524288 := by omega
          clear hp hso hT2 hsl hrb d5 df hoa HDW
          go_wp2_with fail
          go_loopg [54] s.length (fun gk i wr => ∃ (j : Nat) (kv : Value), j ≤ s.length ∧ gk = s.length - j ∧ i = .int .i64 (j : Nat) ∧ TbAt w.heap.size T w.heap.size A c b n ws ms wv sv kv (.slice Ab s.length cb) ((s.take j).map (kw ws)) s w1 wr)
          case atStart => exact ⟨0, _, by omega, by omega, rfl, HT2.out⟩
          case round =>
            obtain ⟨j, kv, hj, rfl, rfl, hTb⟩ := hrel
            have HT3 := Lib.hid hTb
            by_cases hlt2 : j < s.length
            · have HLT := Lib.hid hlt2
              obtain ⟨_, _, _, _, y4, y5, yf⟩ := cells6 hTb.row
              obtain ⟨y, hy⟩ := hTb.sig
              obtain ⟨_, _, z2, _⟩ := cells4 hy
              obtain ⟨_, _, hAb, _, _, hrb, _⟩ := Rd.of_owns hTb.blocks
              injection hAb with hAb _ hcc
              subst hAb
              clear hcc
              obtain ⟨bb, bo, hAb, hcell⟩ := hrb.int j hlt2
              subst hAb
              have HTK0 : Hid (s.take (j + 1) = s.take j ++ [s[j]]) := List.take_succ_eq_append_getElem hlt2
              have hxm : s[j] ∈ s := List.getElem_mem hlt2
              generalize s[j] = x at hcell HTK0 hxm
              have hx := HSM.out x hxm
              obtain ⟨xi, rfl⟩ := Int.eq_ofNat_of_zero_le hx.1
              have hxl : xi < ws.length := by omega
              have hrw := rd_far HW.out hTb.mods (fun h0 a e => by have := HAB.out h0 a e; omega)
              obtain ⟨ab, ao, hAa, hca⟩ := hrw.int xi hxl
              have hkw : ws[xi] = kw ws (xi : Int) := by simp [kw, hxl]
              rw [hkw] at hca
              have hxil : (xi : Int) < (ws.length : Int) := by omega
              have hji : (j : Int) < (s.length : Int) := by omega
              have HWI := Lib.hid (show (ints ((s.take j).map (kw ws))).length = j by rw [ints_length, List.length_map, List.length_take]; omega)
              have HO := Lib.hid (show wr.ownsRow w.heap.size 3 1 kv (ints ((s.take j).map (kw ws))).length (ints ((s.take j).map (kw ws))) by rw [ints_length]; exact hTb.keys)
              have hz2 : w.heap.size ≤ wr.heap.size := Nat.le_trans hz1 hTb.mods.size
              have HTK : Hid ((s.take (j + 1)).map (kw ws) = (s.take j).map (kw ws) ++ [kw ws (xi : Int)]) := by unfold Hid; rw [HTK0.out]; simp
              have HLN : Hid (((s.take j).map (kw ws)).length = j) := by unfold Hid; rw [List.length_map, List.length_take]; omega
              subst hAa
              generalize kw ws (xi : Int) = kx at *
              have ya4 : ∀ o, (wr.alloc o).cell? ⟨T, 4, none⟩ = some kv := fun o => ((Mods.refl Nope _).alloc o).cell y4 (fun h => h)
              clear hTb hy hrb hx hxm hkw hrw hxl HTK0
              go_upto_region 13 with fail
              go_region_law (
                refine step_app1 _ rfl _ _ 28 3 (.int .i64 0) 8 rfl Try.underlying28 info3 rfl (by decide) kv (ints ((s.take j).map (kw ws))) (.int .i64 kx) _ rfl rfl (by simp) rfl w.heap.size (by exact HO.out.alloc _) (by simp; omega) (by rw [HWI.out]; omega) ?_; intro g cap w3 hown3 hg3 hat3
                have HG3 : Hid (w3.heap[T]? = some (.cells #[.int .i64 b, .int .i64 n, wv, sv, kv, .slice (some ⟨bb, bo, none⟩) s.length cb] 113 (0, 0))) := grown_row hg3 (row_alloc HT3.out.row _) (own_ne_row HT3.out.keys HT3.out.row (by decide))
                obtain ⟨_, _, _, _, x4, _, xf⟩ := cells6 HG3.out
                rw [HWI.out] at hown3 ⊢
                have HA := Lib.hid (HT3.out.addKey HLN.out (((Mods.refl Nope wr).alloc _).drew) hg3 hown3 (at_of (by simpa using hat3))))
              all_goals
                go_wp2_with fail
                go_roundg (s.length - (j + 1))
                case measure => have := HLT.out; omega
                case rel => exact ⟨j + 1, _, HLT.out, rfl, by go_num, by rw [HTK.out]; exact HA.out⟩
            · obtain rfl : j = s.length := by omega
              have HF : Hid (Tbl wr w.heap.size T b n ws ms s wv sv kv (.slice Ab s.length cb)) := by
                have h := HT3.out
                rw [List.take_length] at h
                exact ⟨h.ord.1, h.row, h.weak, h.strong, by have := h.keys; rwa [List.length_map] at this, h.blocks⟩
              have HMF : Hid (Mods Nope w wr) := HM1.out.then HT3.out.mods (fun i hi e => by omega)
              have HPF : Hid (s.Perm (rng ((n : Int).toNat / (b : Int).toNat))) := by
                unfold Hid
                simp only [Int.toNat_natCast]
                rw [← HQ.out]
                exact HP.out
              clear hTb
              go_wp2
              go_ret2
              exact ⟨T, wv, sv, kv, _, s, rfl, HF.out, HPF.out, HSO.out, HMF.out⟩
end Go.Proofs.Ytblhbbgkkijkfaa
namespace Go.Proofs.Ytblhbbgkkijkfaa
open Go
/-- The whole blocks of a weak sum. -/
def fnd (ws : List Int) (Q : Nat) (x : Int) : List Int := (rng Q).filter fun i => kw ws i == x
theorem fnd_snoc (ws : List Int) (k : Nat) (x : Int) : fnd ws (k + 1) x = fnd ws k x ++ (if kw ws (k : Int) = x then [(k : Int)] else []) := by
  unfold fnd
  rw [rng_snoc, List.filter_append]
  congr 1
  by_cases h : kw ws (k : Int) = x
  · rw [if_pos h]; simp [h]
  · rw [if_neg h]; simp [h]
theorem fnd_len (ws : List Int) (Q : Nat) (x : Int) : (fnd ws Q x).length ≤ Q := by
  have := List.length_filter_le (fun i => kw ws i == x) (rng Q)
  rw [rng_length] at this
  exact this
theorem fnd_mem {ws : List Int} {Q : Nat} {x i : Int} (h : i ∈ fnd ws Q x) : 0 ≤ i ∧ i < Q ∧ kw ws i = x := by
  unfold fnd at h
  rw [List.mem_filter] at h
  have := rng_mem h.1
  exact ⟨this.1, this.2, by simpa using h.2⟩
theorem filter_sorted {ws bs : List Int} {Q : Nat} {x : Int} (hp : bs.Perm (rng Q)) (hs : bs.Pairwise (Rl ws)) : (bs.filter fun i => kw ws i == x) = fnd ws Q x := by
  have h1 : (bs.filter fun i => kw ws i == x).Pairwise (· < ·) := by
    have h := hs.filter (fun i => kw ws i == x)
    refine (List.pairwise_iff_getElem.2 fun i j hi hj hij => ?_)
    have hr := List.pairwise_iff_getElem.1 h i j hi hj hij
    have e1 := (List.mem_filter.1 (List.getElem_mem hi)).2
    have e2 := (List.mem_filter.1 (List.getElem_mem hj)).2
    simp only [beq_iff_eq] at e1 e2
    unfold Rl at hr
    omega
  have h2 : (fnd ws Q x).Pairwise (· < ·) := (rng_lt Q).filter _
  refine List.Perm.eq_of_pairwise ?_ h1 h2 (hp.filter _)
  intro a b _ _ h1 h2
  omega
theorem keys_mono {ws bs : List Int} (hs : bs.Pairwise (Rl ws)) : ∀ s t, s ≤ t → t < (bs.map (kw ws)).length → (bs.map (kw ws)).getD s 0 ≤ (bs.map (kw ws)).getD t 0 := by
  intro s t hst ht
  rw [List.length_map] at ht
  have := Rl.mono hs hst ht
  simp only [List.getD_eq_getElem?_getD, List.getElem?_map, List.getElem?_eq_getElem ht, List.getElem?_eq_getElem (show s < bs.length by omega), Option.map_some, Option.getD_some] at this ⊢
  exact this
theorem keys_at {ws bs : List Int} {t : Nat} (ht : t < bs.length) : (bs.map (kw ws)).getD t 0 = kw ws (bs.getD t 0) := by
  simp [List.getD_eq_getElem?_getD, ht]
/-- What stands between the first key not below and the first above. -/
theorem find_law {ws bs : List Int} {Q a k : Nat} {x : Int} (hp : bs.Perm (rng Q)) (hs : bs.Pairwise (Rl ws)) (hak : a ≤ k)
    (hlo : ∀ t, t < a → kw ws (bs.getD t 0) < x) (hmid : ∀ t, a ≤ t → t < k → kw ws (bs.getD t 0) = x) (hhi : ∀ t, k ≤ t → t < bs.length → x < kw ws (bs.getD t 0)) : (bs.drop a).take (k - a) = fnd ws Q x := by
  rw [← filter_sorted hp hs]
  have e : bs = bs.take a ++ ((bs.drop a).take (k - a) ++ bs.drop k) := by
    have h1 : bs.drop k = (bs.drop a).drop (k - a) := by rw [List.drop_drop]; congr 1; omega
    rw [h1, List.take_append_drop, List.take_append_drop]
  conv => rhs; rw [e]
  rw [List.filter_append, List.filter_append]
  have f1 : (bs.take a).filter (fun i => kw ws i == x) = [] := by
    rw [List.filter_eq_nil_iff]
    intro y hy
    obtain ⟨i, hi, _, rfl⟩ := mem_take_getD hy
    have := hlo i hi
    intro h
    rw [beq_iff_eq] at h
    omega
  have f3 : (bs.drop k).filter (fun i => kw ws i == x) = [] := by
    rw [List.filter_eq_nil_iff]
    intro y hy
    obtain ⟨i, hi, hl, rfl⟩ := mem_drop_getD hy
    have := hhi i hi hl
    intro h
    rw [beq_iff_eq] at h
    omega
  have f2 : ((bs.drop a).take (k - a)).filter (fun i => kw ws i == x) = (bs.drop a).take (k - a) := by
    rw [List.filter_eq_self]
    intro y hy
    obtain ⟨i, hi, hl, rfl⟩ := mem_take_getD hy
    rw [List.length_drop] at hl
    have := hmid (a + i) (by omega) (by omega)
    have e2 : (bs.drop a).getD i 0 = bs.getD (a + i) 0 := by simp [List.getD_eq_getElem?_getD, List.getElem?_drop]
    rw [e2]
    simpa using this
  rw [f1, f2, f3]
  simp
end Go.Proofs.Ytblhbbgkkijkfaa
namespace Go.Proofs.Ytblhbbgkkijkfaa
open Go.RowKit Go.Maps
theorem f43_calls (B T : Nat) (blk size : Int) (ws : List Int) (ms : List ByteArray) (bs : List Int) (wv sv kv bv : Value) (w : World) (h : Tbl w B T blk size ws ms bs wv sv kv bv) :
    Calls Try.prog 43 #[.pointer (some ⟨T, 0, none⟩)] w fun e w' => e = .returned (.int .i64 size) ∧ w' = w := by
  obtain ⟨c0, c1, _⟩ := cells6 h.row
  clear h
  go_enter Try.func43, Try.ntmps43
  go_wp2
  go_ret
  exact ⟨rfl, rfl⟩
theorem f44_calls (B T : Nat) (blk size : Int) (ws : List Int) (ms : List ByteArray) (bs : List Int) (wv sv kv bv : Value) (w : World) (h : Tbl w B T blk size ws ms bs wv sv kv bv) :
    Calls Try.prog 44 #[.pointer (some ⟨T, 0, none⟩)] w fun e w' => e = .returned (.int .i64 blk) ∧ w' = w := by
  obtain ⟨c0, c1, _⟩ := cells6 h.row
  clear h
  go_enter Try.func44, Try.ntmps44
  go_wp2
  go_ret
  exact ⟨rfl, rfl⟩
theorem Tbl.nope {B T : Nat} {blk size : Int} {ws : List Int} {ms : List ByteArray} {bs : List Int} {wv sv kv bv : Value} {w w' : World} (h : Tbl w B T blk size ws ms bs wv sv kv bv) (hm : Mods Nope w w') : Tbl w' B T blk size ws ms bs wv sv kv bv :=
  ⟨h.base, hm.row h.row (fun h => h), hm.owns h.weak (fun _ _ h => h), hm.owns h.strong (fun _ _ h => h), hm.owns h.keys (fun _ _ h => h), hm.owns h.blocks (fun _ _ h => h)⟩
/-- A list that a call has made of numbers. -/
def IntsPost (xs : List Int) (w : World) (e : Ending) (w' : World) : Prop := ∃ v, e = .returned v ∧ w'.ownsRow w.heap.size 3 1 v xs.length (ints xs) ∧ Mods Nope w w'
theorem getD_int {l : List Int} {i : Nat} (h : i < l.length) : l.getD i 0 = l[i] := by simp [List.getD_eq_getElem?_getD, h]
set_option maxRecDepth 100000 in
set_option maxHeartbeats 4000000 in
theorem f40_calls (B T Q : Nat) (blk size : Int) (ws : List Int) (ms : List ByteArray) (bs : List Int) (wv sv kv bv : Value) (x : Int) (w : World) (h : Tbl w B T blk size ws ms bs wv sv kv bv) (hp : bs.Perm (rng Q)) (hs : bs.Pairwise (Rl ws)) (hQ : Q ≤ 524288) :
    Calls Try.prog 40 #[.pointer (some ⟨T, 0, none⟩), .int .i64 x] w (IntsPost (fnd ws Q x) w) := by
  have hbl : bs.length ≤ 524288 := by rw [hp.length_eq, rng_length]; exact hQ
  obtain ⟨Ak, ck, hkv, _, _, hrk, _⟩ := Rd.of_owns h.keys
  obtain ⟨Ab, cb, hbv, _, _, hrb, _⟩ := Rd.of_owns h.blocks
  subst hkv
  subst hbv
  obtain ⟨_, _, _, _, c4, c5, _⟩ := cells6 h.row
  have HP := Lib.hid hp
  have HS := Lib.hid hs
  have HT := Lib.hid h
  have HRK := Lib.hid hrk
  have HRB := Lib.hid hrb
  clear h hp hs hrk hrb
  go_enter Try.func40, Try.ntmps40
  go_wp2_with fail
  refine (f87_calls Ak bs.length ck (bs.map (kw ws)) x _ (List.length_map _) HRK.out (keys_mono HS.out) (by omega)).mono ?_; rintro e w1 ⟨a, f, rfl, hab, hlo, hhi, rfl⟩
  have HLO : Hid (∀ t, t < a → kw ws (bs.getD t 0) < x) := fun t ht => by have := hlo t ht; rwa [keys_at (by omega)] at this
  have HHI : Hid (∀ t, a ≤ t → t < bs.length → x ≤ kw ws (bs.getD t 0)) := fun t h1 h2 => by have := hhi t h1 (by rw [List.length_map]; exact h2); rw [keys_at h2] at this; omega
  clear hlo hhi
  go_wp2_with fail
  go_loopg [5, 7] (bs.length - a) (fun gk i v wr => ∃ k : Nat, a ≤ k ∧ k ≤ bs.length ∧ gk = bs.length - k ∧ i = .int .i64 (k : Nat) ∧ wr.ownsRow w1.heap.size 3 1 v (k - a) (ints ((bs.drop a).take (k - a))) ∧ (∀ t, a ≤ t → t < k → kw ws (bs.getD t 0) = x) ∧ Mods Nope w1 wr)
  case atStart => exact ⟨a, Nat.le_refl _, hab, rfl, rfl, by simp only [Nat.sub_self, List.take_zero]; exact World.ownsRow_nil _ _ _ _, fun t h1 h2 => by omega, Mods.refl _ _⟩
  case round =>
    obtain ⟨k, hak, hkb, rfl, rfl, hown, hmid, hM⟩ := hrel
    have HM := Lib.hid hM
    have HMID := Lib.hid hmid
    have HOW := Lib.hid hown
    have hT := HT.out.nope hM
    obtain ⟨_, _, _, _, d4, d5, _⟩ := cells6 hT.row
    have hrk := HRK.out.below hM
    have hrb := HRB.out.below hM
    have hz : w1.heap.size ≤ wr.heap.size := hM.size
    clear hM hmid hown hT
    by_cases hlt : k < bs.length
    · obtain ⟨g1, o1, hA1, hc1⟩ := hrk.int k (by rw [List.length_map]; exact hlt)
      obtain ⟨g2, o2, hA2, hc2⟩ := hrb.int k hlt
      rw [List.getElem_map] at hc1
      have HBK : Hid (bs.getD k 0 = bs[k]) := getD_int hlt
      have HTK : Hid ((bs.drop a).take (k + 1 - a) = (bs.drop a).take (k - a) ++ [bs[k]]) := by
        unfold Hid
        rw [show k + 1 - a = (k - a) + 1 by omega, List.take_succ_eq_append_getElem (by rw [List.length_drop]; omega)]
        congr 2
        rw [List.getElem_drop]
        congr 1
        omega
      have HX := Lib.hid (HHI.out k hak hlt)
      subst hA1
      subst hA2
      clear hrk hrb
      generalize bs[k] = y at *
      have hki : (k : Int) < (bs.length : Int) := by omega
      by_cases he : kw ws y = x
      · have hb : (kw ws y == x) = true := by simp [he]
        have HMID' : Hid (∀ t, a ≤ t → t < k + 1 → kw ws (bs.getD t 0) = x) := by
          intro t h1 h2
          rcases Nat.lt_or_ge t k with h3 | h3
          · exact HMID.out t h1 h3
          · obtain rfl : t = k := by omega
            rw [HBK.out]; exact he
        have HWI := Lib.hid (show (ints ((bs.drop a).take (k - a))).length = k - a by rw [ints_length, List.length_take, List.length_drop]; omega)
        have HO := Lib.hid (show wr.ownsRow w1.heap.size 3 1 u7 (ints ((bs.drop a).take (k - a))).length (ints ((bs.drop a).take (k - a))) by rw [HWI.out]; exact HOW.out)
        generalize kw ws y = z at *
        clear he
        go_wp2_with (at_builtin; refine wpList_app1 _ rfl _ _ 28 3 (.int .i64 0) 8 rfl Try.underlying28 info3 rfl (by decide) _ (ints ((bs.drop a).take (k - a))) (.int .i64 y) _ rfl rfl (by simp) rfl w1.heap.size (by exact HO.out.alloc _) (by simp; omega) (by rw [HWI.out]; omega) ?_)
        intro g cap w3 hown3 hg3 _
        rw [HWI.out] at hown3 ⊢
        have HO3 : Hid (w3.ownsRow w1.heap.size 3 1 (.slice (some ⟨g, 0, none⟩) (k - a + 1) cap) (k + 1 - a) (ints ((bs.drop a).take (k + 1 - a)))) := by
          unfold Hid
          rw [HTK.out, ints_append, show k + 1 - a = k - a + 1 by omega]
          exact hown3
        have HM3 : Hid (Mods Nope w1 w3) := (HM.out.alloc _).grown hg3 (fun j hj hl => by have := (HO.out.lt j hj).1; omega)
        clear hown3 hg3
        go_wp2_with fail
        go_roundg (bs.length - (k + 1))
        case measure => omega
        case rel => exact ⟨k + 1, by omega, hlt, rfl, by go_num, HO3.out, HMID'.out, HM3.out⟩
      · have hb : (kw ws y == x) = false := by simpa using he
        have HF : Hid ((bs.drop a).take (k - a) = fnd ws Q x) := by
          refine find_law HP.out HS.out hak HLO.out HMID.out (fun t h1 h2 => ?_)
          have h3 := Rl.mono HS.out h1 h2
          have h4 := HX.out
          rw [HBK.out] at h3 h4
          omega
        have HL : Hid ((fnd ws Q x).length = k - a) := by unfold Hid; rw [← HF.out, List.length_take, List.length_drop]; omega
        have HO : Hid (wr.ownsRow w1.heap.size 3 1 u7 (fnd ws Q x).length (ints (fnd ws Q x))) := by unfold Hid; rw [HL.out, ← HF.out]; exact HOW.out
        generalize kw ws y = z at *
        clear he
        go_wp2
        go_ret
        exact ⟨_, rfl, HO.out, HM.out⟩
    · obtain rfl : k = bs.length := by omega
      have HF : Hid ((bs.drop a).take (bs.length - a) = fnd ws Q x) := find_law HP.out HS.out hak HLO.out HMID.out (fun t h1 h2 => by omega)
      have HL : Hid ((fnd ws Q x).length = bs.length - a) := by unfold Hid; rw [← HF.out, List.length_take, List.length_drop]; omega
      have HO : Hid (wr.ownsRow w1.heap.size 3 1 u7 (fnd ws Q x).length (ints (fnd ws Q x))) := by unfold Hid; rw [HL.out, ← HF.out]; exact HOW.out
      clear hrk hrb
      go_wp2
      go_ret
      exact ⟨_, rfl, HO.out, HM.out⟩
end Go.Proofs.Ytblhbbgkkijkfaa
namespace Go.Proofs.Ytblhbbgkkijkfaa
open Go.RowKit Go.Maps
set_option maxRecDepth 100000 in
set_option maxHeartbeats 4000000 in
theorem f58_calls (b n : Nat) (A A' : Option Addr) (c c' l m : Nat) (ws : List Int) (x : Int) (w : World) (hl : ws.length = l) (hw : Rd w A (ints ws)) (hb : 16 ≤ b) (hn : n ≤ 524288) (hQ : n / b ≤ l) :
    Calls Try.prog 58 #[.agg #[.int .i64 b, .int .i64 n, .slice A l c, .slice A' m c'], .int .i64 x] w (IntsPost (fnd ws (n / b) x) w) := by
  have HW := Lib.hid hw
  have HNQ : Hid ((n : Int) / (b : Int) = ((n / b : Nat) : Int)) := by unfold Hid; exact (Int.natCast_ediv n b).symm
  have hdv1 : 0 ≤ (n : Int) / (b : Int) := by rw [HNQ.out]; exact Int.natCast_nonneg _
  have hdv2 : (n : Int) / (b : Int) ≤ 524288 := by rw [HNQ.out]; exact Int.le_trans (Int.ofNat_le.2 (Nat.div_le_self n b)) (by omega)
  have hq2 : n / b ≤ 524288 := Nat.le_trans (Nat.div_le_self n b) hn
  subst hl
  clear hw
  go_enter Try.func58, Try.ntmps58
  go_wp2_with fail
  have hr0 := heap_alloc_new w (.cells #[.int .i64 b, .int .i64 n, .slice A ws.length c, .slice A' m c'] 31)
  have HG := Lib.hid hr0
  have HMX : Hid (Mods Nope w (w.alloc (.cells #[.int .i64 b, .int .i64 n, .slice A ws.length c, .slice A' m c'] 31))) := (Mods.refl _ _).alloc _
  clear hr0
  obtain ⟨Q, hQ'⟩ : ∃ Q, Q = n / b := ⟨_, rfl⟩
  rw [← hQ'] at hQ hq2 ⊢
  have HQ := Lib.hid hQ'
  clear hQ'
  go_loopg [5, 6] Q (fun gk v i wr => ∃ k : Nat, k ≤ Q ∧ gk = Q - k ∧ i = .int .i64 (k : Nat) ∧ wr.ownsRow w.heap.size 3 1 v (fnd ws k x).length (ints (fnd ws k x)) ∧ wr.heap[w.heap.size]? = some (.cells #[.int .i64 b, .int .i64 n, .slice A ws.length c, .slice A' m c'] 31 (0, 0)) ∧ Mods Nope w wr)
  case atStart => exact ⟨0, by omega, by omega, rfl, World.ownsRow_nil _ _ _ _, HG.out, HMX.out⟩
  case round =>
    obtain ⟨k, hk, rfl, rfl, hown, hg, hM⟩ := hrel
    have HM := Lib.hid hM
    have HG1 := Lib.hid hg
    have HOW := Lib.hid hown
    obtain ⟨g0, g1, g2, g3⟩ := cells4 hg
    have hrw := HW.out.below hM
    have hz : w.heap.size ≤ wr.heap.size := hM.size
    have hfl := fnd_len ws k x
    clear hM hg hown
    by_cases hlt : k < Q
    · have HLT := Lib.hid hlt
      have hki : (k : Int) < (n : Int) / (b : Int) := by rw [HNQ.out, ← HQ.out]; omega
      obtain ⟨g', o', hA1, hc1⟩ := hrw.int k (by omega)
      have hkl : (k : Int) < (ws.length : Int) := by omega
      have hkw : ws[k] = kw ws (k : Int) := by
        have : k < ws.length := by omega
        simp [kw, this]
      rw [hkw] at hc1
      subst hA1
      have HSN := Lib.hid (fnd_snoc ws k x)
      clear hrw hkw
      by_cases he : kw ws (k : Int) = x
      · have hb2 : (kw ws (k : Int) == x) = true := by simp [he]
        have HF : Hid (fnd ws (k + 1) x = fnd ws k x ++ [(k : Int)]) := by unfold Hid; rw [HSN.out, if_pos he]
        have HWI := Lib.hid (ints_length (fnd ws k x))
        have HO := Lib.hid (show wr.ownsRow w.heap.size 3 1 u5 (ints (fnd ws k x)).length (ints (fnd ws k x)) by rw [ints_length]; exact HOW.out)
        generalize kw ws (k : Int) = z at *
        clear he
        go_wp2_with (at_builtin; refine wpList_app1 _ rfl _ _ 28 3 (.int .i64 0) 8 rfl Try.underlying28 info3 rfl (by decide) _ (ints (fnd ws k x)) (.int .i64 (k : Int)) _ rfl rfl (by simp) rfl w.heap.size (by exact HO.out.alloc _) (by simp; omega) (by rw [HWI.out]; omega) ?_)
        intro g cap w3 hown3 hg3 _
        have HO3 : Hid (w3.ownsRow w.heap.size 3 1 (.slice (some ⟨g, 0, none⟩) ((fnd ws k x).length + 1) cap) (fnd ws (k + 1) x).length (ints (fnd ws (k + 1) x))) := by
          unfold Hid
          rw [HF.out, ints_append, List.length_append]
          rw [HWI.out] at hown3
          exact hown3
        have HG3 := Lib.hid (grown_row hg3 (row_alloc HG1.out _) (own_ne_row HO.out HG1.out (by decide)))
        have HM3 : Hid (Mods Nope w w3) := (HM.out.alloc _).grown hg3 (fun j hj hl => by have := (HO.out.lt j hj).1; omega)
        rw [HWI.out]
        clear hown3 hg3
        go_wp2_with fail
        go_roundg (Q - (k + 1))
        case measure => have := HLT.out; omega
        case rel => exact ⟨k + 1, HLT.out, rfl, by go_num, HO3.out, HG3.out, HM3.out⟩
      · have hb2 : (kw ws (k : Int) == x) = false := by simpa using he
        have HF : Hid (fnd ws (k + 1) x = fnd ws k x) := by unfold Hid; rw [HSN.out, if_neg he, List.append_nil]
        generalize kw ws (k : Int) = z at *
        clear he
        go_wp2_with fail
        go_roundg (Q - (k + 1))
        case measure => have := HLT.out; omega
        case rel => exact ⟨k + 1, HLT.out, rfl, by go_num, by rw [HF.out]; exact HOW.out, HG1.out, HM.out⟩
    · obtain rfl : k = Q := by omega
      have hki : ¬ (k : Int) < (n : Int) / (b : Int) := by rw [HNQ.out, ← HQ.out]; omega
      clear hrw
      go_wp2
      go_ret
      refine ⟨_, rfl, ?_, HM.out⟩
      rw [← HQ.out]
      exact HOW.out
end Go.Proofs.Ytblhbbgkkijkfaa
