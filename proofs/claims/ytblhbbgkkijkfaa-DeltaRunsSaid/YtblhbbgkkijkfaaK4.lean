/- (*delta.maker).flush, walked. -/
import Derived.Test.YtblhbbgkkijkfaaK2
import Derived.Test.YtblhbbgkkijkfaaK3
import Derived.Laws.BytesArg
namespace Go.Proofs.Ytblhbbgkkijkfaa
open Go.RowKit Go.Maps
/-- A step, and how it lies. -/
structure Stp where
  pos : Int
  len : Int
  text : ByteArray
deriving DecidableEq
def Stp.cells (x : Stp) : List Value := [.int .i64 x.pos, .int .i64 x.len, .string x.text]
def stps (l : List Stp) : List Value := l.flatMap Stp.cells
theorem stps_length (l : List Stp) : (stps l).length = l.length * 3 := by
  induction l with
  | nil => rfl
  | cons x l ih =>
    have : stps (x :: l) = x.cells ++ stps l := rfl
    rw [this, List.length_append, ih]
    simp [Stp.cells]; omega
theorem stps_append (l m : List Stp) : stps (l ++ m) = stps l ++ stps m := by simp [stps]
/-- Bytes as steps of at most 4096 each. -/
def chunksN : Nat → ByteArray → List Stp
  | 0, _ => []
  | n + 1, s => if s.size = 0 then [] else ⟨0, 0, s.extract 0 (min s.size 4096)⟩ :: chunksN n (s.extract (min s.size 4096) s.size)
def chunks (s : ByteArray) : List Stp := chunksN s.size s
theorem chunksN_eq : ∀ (n : Nat) (s : ByteArray), s.size ≤ n → chunksN n s = chunks s := by
  intro n
  induction n using Nat.strongRecOn with
  | ind n ih =>
    intro s hs
    unfold chunks
    rcases n with _ | n
    · rw [show s.size = 0 by omega]
    · rcases hz : s.size with _ | m
      · simp [chunksN, hz]
      · have h1 : (s.extract (min s.size 4096) s.size).size ≤ m := by rw [ByteArray.size_extract]; omega
        rw [chunksN, chunksN]
        rw [if_neg (by omega), if_neg (by omega)]
        rw [ih n (by omega) _ (by omega), ih m (by omega) _ h1]
theorem chunks_step {s : ByteArray} (h : 0 < s.size) : chunks s = ⟨0, 0, s.extract 0 (min s.size 4096)⟩ :: chunks (s.extract (min s.size 4096) s.size) := by
  conv => lhs; unfold chunks
  rcases hz : s.size with _ | m
  · omega
  · rw [chunksN, if_neg (by omega), chunksN_eq m _ (by rw [ByteArray.size_extract]; omega), hz]
theorem chunks_nil {s : ByteArray} (h : s.size = 0) : chunks s = [] := by unfold chunks; rw [h]; rfl
/-- What a maker holds. -/
structure MakerAt (w : World) (B m : Nat) (l : List Stp) (t : ByteArray) (sv tv : Value) : Prop where
  base : B ≤ w.heap.size
  row : w.heap[m]? = some (.cells #[sv, tv] 133 (0, 0))
  steps : w.ownsRow B 117 3 sv l.length (stps l)
  text : OwnsAt w B 5 tv (Lib.strCells t)
theorem MakerAt.mods {w w' : World} {M : Nat → Prop} {B m : Nat} {l : List Stp} {t : ByteArray} {sv tv : Value} (h : MakerAt w B m l t sv tv) (hm : Mods M w w') (hn : ∀ k, B ≤ k ∨ k = m → k < w.heap.size → ¬ M k) : MakerAt w' B m l t sv tv :=
  ⟨Nat.le_trans h.base hm.size, hm.row h.row (hn m (.inr rfl) (row_lt h.row)), hm.owns h.steps (fun k hk => hn k (.inl (h.steps.lt k hk).1) (h.steps.lt k hk).2), h.text.mods hm (fun k hk => hn k (.inl (h.text.lt k hk).1) (h.text.lt k hk).2)⟩
theorem MakerAt.sep {w : World} {B m : Nat} {l : List Stp} {t : ByteArray} {sv tv : Value} (h : MakerAt w B m l t sv tv) : ∀ k, tv.ownBlock = some k → sv.ownBlock ≠ some k := by
  intro k hk hk2
  rcases h.steps.2 with ⟨rfl, _⟩ | ⟨g, cap, cur, rfl, _, hg, _⟩
  · simp [Value.ownBlock] at hk2
  · obtain rfl : g = k := by simpa [Value.ownBlock] using hk2
    exact h.text.ne_row hg (by decide) g hk rfl
theorem MakerAt.ne {w : World} {B m : Nat} {l : List Stp} {t : ByteArray} {sv tv : Value} (h : MakerAt w B m l t sv tv) : sv.ownBlock ≠ some m ∧ tv.ownBlock ≠ some m :=
  ⟨fun e => own_ne_row h.steps h.row (by decide) m e rfl, fun e => h.text.ne_row h.row (by decide) m e rfl⟩
/-- One step more. -/
theorem MakerAt.addStep {w w3 : World} {B m g cap : Nat} {l : List Stp} {t : ByteArray} {sv tv : Value} (h : MakerAt w B m l t sv tv) (x : Stp) {wa : World} (ha : Mods Nope w wa)
    (hown : w3.ownsRow B 117 3 (.slice (some ⟨g, 0, none⟩) (l.length + 1) cap) (l.length + 1) (stps l ++ x.cells)) (hg : wa.grownBy w3 sv.ownBlock) :
    MakerAt (w3.setCell ⟨m, 0, none⟩ (.slice (some ⟨g, 0, none⟩) (l.length + 1) cap)) B m (l ++ [x]) t (.slice (some ⟨g, 0, none⟩) (l.length + 1) cap) tv ∧
    w3.heap[m]? = some (.cells #[sv, tv] 133 (0, 0)) ∧ Mods (fun j => B ≤ j ∨ j = m) w (w3.setCell ⟨m, 0, none⟩ (.slice (some ⟨g, 0, none⟩) (l.length + 1) cap)) := by
  have h3 : Mods (fun j => sv.ownBlock = some j) w w3 := (ha.any _).grown hg (fun k e _ => e)
  have hr3 := h3.row h.row h.ne.1
  have hs := (Mods.refl (fun j => j = m) w3).setCell ⟨m, 0, none⟩ (fun _ => rfl) (.slice (some ⟨g, 0, none⟩) (l.length + 1) cap)
  have hgm : g ≠ m := fun e => own_ne_row hown hr3 (by decide) g rfl e
  refine ⟨⟨Nat.le_trans h.base (Nat.le_trans h3.size hs.size), row_set hr3 0 _, ?_, ?_⟩, hr3, (h3.mono (fun k hk e => .inl (h.steps.lt k e).1)).then hs (fun k hk e => .inr e)⟩
  · rw [List.length_append, stps_append]
    have : stps [x] = x.cells := by simp [stps]
    rw [this]
    exact hs.owns hown (fun k hk e => hgm (by simpa [Value.ownBlock] using hk.trans (congrArg some e)))
  · exact (h.text.mods h3 (fun k hk e => h.sep k hk e)).mods hs (fun k hk e => h.ne.2 (by rw [← e]; exact hk))
theorem add_at (g o j : Nat) : (⟨g, o, none⟩ : Addr).add j = ⟨g, o + j, none⟩ := by unfold Addr.add; split <;> simp_all
theorem strCells_drop (t : ByteArray) (q : Nat) : (Lib.strCells t).drop q = Lib.strCells (t.extract q t.size) := by
  have hz : t.data.toList.length = t.size := by rw [Array.length_toList]; rfl
  have hx : (t.extract q t.size).data.toList = t.data.toList.drop q := by
    simp only [ByteArray.data_extract, Array.toList_extract, List.extract]
    rw [List.take_of_length_le (by rw [List.length_drop]; omega)]
  simp only [Lib.strCells]
  rw [hx, List.map_drop]
/-- The gathered bytes cut ahead. -/
theorem MakerAt.cutText {w : World} {B m : Nat} {l : List Stp} {t : ByteArray} {sv : Value} {A : Option Addr} {c q : Nat} (h : MakerAt w B m l t sv (.slice A t.size c)) (hq : q ≤ t.size) (h0 : 0 < t.size) :
    MakerAt (w.setCell ⟨m, 1, none⟩ (.slice (if c = q then A else A.map (·.add q)) (t.size - q) (c - q))) B m l (t.extract q t.size) sv (.slice (if c = q then A else A.map (·.add q)) (t.size - q) (c - q)) ∧
    Mods (fun j => j = m) w (w.setCell ⟨m, 1, none⟩ (.slice (if c = q then A else A.map (·.add q)) (t.size - q) (c - q))) := by
  have hsl := Lib.strCells_length t
  have hs := (Mods.refl (fun j => j = m) w).setCell ⟨m, 1, none⟩ (fun _ => rfl) (.slice (if c = q then A else A.map (·.add q)) (t.size - q) (c - q))
  have ht := h.text
  rw [← hsl] at ht
  have hd := ht.drop (n := q) (by omega) (by omega)
  rw [hsl, strCells_drop] at hd
  refine ⟨⟨Nat.le_trans h.base hs.size, row_set h.row 1 _, hs.owns h.steps (fun k hk e => h.ne.1 (by rw [← e]; exact hk)), hd.mods hs (fun k hk e => ?_)⟩, hs⟩
  exact hd.ne_row h.row (by decide) k hk e
theorem cells2 {w : World} {g e : Nat} {a b : Value} (h : w.heap[g]? = some (.cells #[a, b] e (0, 0))) :
    w.cell? ⟨g, 0, none⟩ = some a ∧ w.cell? ⟨g, 1, none⟩ = some b ∧ (∀ j, w.frozen? ⟨g, j, none⟩ = false) :=
  ⟨by rw [row_cell h]; rfl, by rw [row_cell h]; rfl, fun j => row_frozen h j⟩
/-- string(b[:n]). -/
theorem conv_at {w : World} {b off : Nat} {t : ByteArray} (h : Rd w (some ⟨b, off, none⟩) (Lib.strCells t)) {n : Nat} (hn : n ≤ t.size) (c : Nat) :
    (convert 89 9 (.slice (some ⟨b, off, none⟩) n c)).run Try.prog w = .ok (.string (t.extract 0 n)) w := by
  have hz : t.data.toList.length = t.size := by rw [Array.length_toList]; rfl
  have hx : (t.extract 0 n).data.toList = t.data.toList.take n := by
    simp [ByteArray.data_extract, Array.toList_extract, List.extract]
  have hs : Lib.strCells t = t.data.toList.map fun b => Value.int .u8 b.toNat := rfl
  rw [hs] at h
  generalize t.data.toList = D at *
  have h1 := run_convert_bytes_arg (P := Try.prog) w 89 5 Try.underlying89 Try.underlying5 b off n c ((D.take n).map fun x => (x.toNat : Int)) (by rw [List.length_map, List.length_take]; omega) (fun i hi => by
    have hi' : i < D.length := by omega
    obtain ⟨b', off', e, hc⟩ := h i (.int .u8 D[i].toNat) (by rw [List.getElem?_map, List.getElem?_eq_getElem hi']; rfl)
    cases e
    rw [hc]
    simp only [List.getD_eq_getElem?_getD, List.getElem?_map, List.getElem?_take, if_pos hi, List.getElem?_eq_getElem hi', Option.map_some, Option.getD_some]) 9 Try.underlying9
  rw [h1]
  have h2 : strOfNums ((D.take n).map fun x => (x.toNat : Int)) = t.extract 0 n := by
    apply ByteArray.ext
    apply Array.ext'
    rw [strOfNums_data, hx, List.map_map]
    conv => rhs; rw [← List.map_id (List.take n D)]
    apply List.map_congr_left
    intro u _
    simp
  rw [h2]
set_option maxRecDepth 100000 in
set_option maxHeartbeats 4000000 in
theorem f138_calls (B m : Nat) (l : List Stp) (t : ByteArray) (sv tv : Value) (w : World) (h : MakerAt w B m l t sv tv) (hb : l.length + t.size ≤ 2000000) :
    Calls Try.prog 138 #[.pointer (some ⟨m, 0, none⟩)] w fun e w' => ∃ sv' tv', e = .returned (.tuple #[]) ∧ MakerAt w' B m (l ++ chunks t) ⟨#[]⟩ sv' tv' ∧ Mods (fun j => B ≤ j ∨ j = m) w w' := by
  have HH := Lib.hid h
  clear h
  go_enter Try.func138, Try.ntmps138
  go_wp2_with fail
  go_loopg [] t.size (fun gk wr => ∃ l' t' sv' tv', gk = t'.size ∧ MakerAt wr B m l' t' sv' tv' ∧ l' ++ chunks t' = l ++ chunks t ∧ l'.length + t'.size ≤ 2000000 ∧ Mods (fun j => B ≤ j ∨ j = m) w wr)
  case atStart => exact ⟨l, t, sv, tv, rfl, HH.out, rfl, hb, Mods.refl _ _⟩
  case round =>
    obtain ⟨l', t', sv', tv', hgk, hM, hc, hl, hm⟩ := hrel
    subst hgk
    have HM := Lib.hid hM
    have HC := Lib.hid hc
    have HMM := Lib.hid hm
    clear hM hc hm
    obtain ⟨A, c, hA, hc1, hc2, hrd, _⟩ := HM.out.text.rd
    have hsl := Lib.strCells_length t'
    rw [hsl] at hA hc1
    subst hA
    obtain ⟨m0, m1, mf⟩ := cells2 HM.out.row
    by_cases h0 : 0 < t'.size
    · obtain ⟨q, hq⟩ : ∃ q, q = min t'.size 4096 := ⟨_, rfl⟩
      have hqi : min (t'.size : Int) 4096 = (q : Int) := by omega
      have hqs : q ≤ t'.size := by omega
      have hq0 : 0 < q := by omega
      have HQ := Lib.hid hq
      obtain ⟨g, off, hA, _⟩ := hrd 0 ((Lib.strCells t')[0]'(by omega)) (List.getElem?_eq_getElem _)
      subst hA
      have hcv := conv_at hrd hqs c
      have hcd : (convert 89 9 (.slice (some ⟨g, off, none⟩) q c)).run Try.prog wr.drew = .ok (.string (t'.extract 0 q)) wr.drew := conv_at (hrd.below ((Mods.refl _ _).drew)) hqs c
      have HO : Hid (wr.ownsRow B 117 3 sv' l'.length (stps l')) := HM.out.steps
      have hBw := HM.out.base
      have ha0 : ∀ o, (wr.alloc o).cell? ⟨m, 0, none⟩ = some sv' := fun o => ((Mods.refl Nope _).alloc o).cell m0 (fun h => h)
      have hc0 : ¬ c = 0 := by omega
      have hqc : q ≤ c := by omega
      clear hq
      have hm64 : min (t'.size : Int) 4096 ≤ 4096 := by omega
      rw [hqi] at hm64
      go_upto_region 2 with fail
      generalize HX : t'.extract 0 q = x at hcd hcv
      have HX := Lib.hid HX
      go_region_law (first
        | (refine step_app3 _ rfl _ _ 54 117 (.agg #[.int .i64 0, .int .i64 0, .string ⟨#[]⟩]) 32 rfl Try.underlying54 info117 rfl sv' l'.length (stps l') (.int .i64 0) (.int .i64 0) (.string x) _ rfl rfl (by simp) (by simp) (by simp) rfl rfl rfl B (by exact (((Mods.refl Nope wr).alloc _).drew).owns HO.out (fun _ _ h => h)) (by simp; omega) (by omega) (by unfold maxLen; omega) ?_; intro g3 cap3 w3 hown3 hg3 hat3
           have HADD := Lib.hid (HM.out.addStep ⟨0, 0, x⟩ (((Mods.refl Nope wr).alloc _).drew) hown3 hg3)
           have hcc : w3.cell? ⟨m, 0, none⟩ = some sv' := by rw [row_cell HADD.out.2.1]; rfl
           have hff : w3.frozen? ⟨m, 0, none⟩ = false := row_frozen HADD.out.2.1 0
           clear hown3 hg3 hat3))
      all_goals
        go_upto_region 3 with fail
        obtain ⟨hM4, _, hm4⟩ := HADD.out
        have HM4 := Lib.hid hM4
        have HMM4 := Lib.hid (HMM.out.trans hm4)
        clear hM4 hm4 HADD hcc hff m0 m1 ha0 mf hcd hcv HM HMM HO
        generalize w3.setCell ⟨m, 0, none⟩ (.slice (some ⟨g3, 0, none⟩) (l'.length + 1) cap3) = w4 at *
        obtain ⟨m0, m1, mf⟩ := cells2 HM4.out.row
        have HDR := Lib.hid (HM4.out.cutText hqs h0)
        have HCC : Hid ((l' ++ [⟨0, 0, x⟩]) ++ chunks (t'.extract q t'.size) = l ++ chunks t) := by
          unfold Hid
          rw [← HC.out, chunks_step h0, ← HQ.out, HX.out]
          simp
        by_cases hcq : c = q
        · rw [if_pos hcq, show c - q = 0 by omega] at HDR
          go_wp2_with fail
          go_roundg (t'.extract q t'.size).size
          case measure => rw [ByteArray.size_extract]; omega
          case rel =>
            refine ⟨_, _, _, _, rfl, HDR.out.1, HCC.out, ?_, HMM4.out.trans (HDR.out.2.mono (fun i _ e => Or.inr e))⟩
            rw [ByteArray.size_extract, List.length_append, List.length_singleton]
            omega
        · rw [if_neg hcq, Option.map_some, add_at] at HDR
          go_wp2_with fail
          go_roundg (t'.extract q t'.size).size
          case measure => rw [ByteArray.size_extract]; omega
          case rel =>
            refine ⟨_, _, _, _, rfl, HDR.out.1, HCC.out, ?_, HMM4.out.trans (HDR.out.2.mono (fun i _ e => Or.inr e))⟩
            rw [ByteArray.size_extract, List.length_append, List.length_singleton]
            omega
    · have ht0 : t' = ⟨#[]⟩ := ByteArray.ext (Array.eq_empty_of_size_eq_zero (by have : t'.data.size = t'.size := rfl; omega))
      have HN := Lib.hid (chunks_nil (s := t') (by omega))
      go_wp2
      go_end0
      refine ⟨sv', .slice A t'.size c, rfl, ?_, HMM.out⟩
      rw [← HC.out, HN.out, List.append_nil, ← ht0]
      exact HM.out
end Go.Proofs.Ytblhbbgkkijkfaa
