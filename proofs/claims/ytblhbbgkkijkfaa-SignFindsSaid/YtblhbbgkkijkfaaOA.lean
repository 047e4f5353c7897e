/- What the readers of signatures hold: the result's block, the reader's, the signature's, and its two lists. -/
import Derived.Test.YtblhbbgkkijkfaaRG
import Derived.Test.YtblhbbgkkijkfaaOP
import Derived.Test.YtblhbbgkkijkfaaC4
namespace Go.Proofs.Ytblhbbgkkijkfaa
open Go.RowKit Go.Maps
def IsRd (T : Nat) (w : World) (r : Nat) (s : ByteArray) (at_ : Nat) (e : Int) : Prop := w.heap[r]? = some (.cells #[.string s, .int .i64 at_, .int .i64 e] T (0, 0))
structure OfAt (T B R G : Nat) (s : ByteArray) (w wr : World) (blk size : Int) (ws : List Int) (ms : List ByteArray) (wv sv : Value) (A : Nat) (e1 : Int) : Prop where
  ord : B < R ∧ B < G ∧ R ≠ G
  res : wr.heap[B]? = some (.cells #[.int .i64 0, .int .i64 0, .slice none 0 0, .slice none 0 0] 31 (0, 0))
  g : wr.heap[G]? = some (.cells #[.int .i64 blk, .int .i64 size, wv, sv] 31 (0, 0))
  weak : wr.ownsRow B 3 1 wv ws.length (ints ws)
  strong : wr.ownsRow B 9 1 sv ms.length (strs ms)
  rd : IsRd T wr R s A e1
  mods : Mods Nope w wr
section
variable {T B R G : Nat} {s : ByteArray} {w wr wx w1 w3 : World} {blk size : Int} {ws : List Int} {ms : List ByteArray} {wv sv nv : Value} {A A' : Nat} {e1 e1' : Int}
theorem OfAt.nope (h : OfAt T B R G s w wr blk size ws ms wv sv A e1) (hm : Mods Nope wr wx) : OfAt T B R G s w wx blk size ws ms wv sv A e1 :=
  ⟨h.ord, hm.row h.res (fun h => h), hm.row h.g (fun h => h), hm.owns h.weak (fun _ _ h => h), hm.owns h.strong (fun _ _ h => h), hm.row h.rd (fun h => h), h.mods.trans hm⟩
theorem OfAt.read (h : OfAt T B R G s w wr blk size ws ms wv sv A e1) (hT : T ≠ 3 ∧ T ≠ 9) (hB : w.heap.size = B) (hm : Mods (fun j => j = R) wr w1) (hr : IsRd T w1 R s A' e1') : OfAt T B R G s w w1 blk size ws ms wv sv A' e1' := by
  have ho := h.ord
  refine ⟨h.ord, hm.row h.res (by omega), hm.row h.g (by omega), hm.owns h.weak ?_, hm.owns h.strong ?_, hr, h.mods.then hm (fun i hi e => by omega)⟩
  · exact own_ne_row h.weak h.rd (fun e => hT.1 e.symm)
  · exact own_ne_row h.strong h.rd (fun e => hT.2 e.symm)
theorem OfAt.addWeak {x : Int} {n : Nat} (h : OfAt T B R G s w wr blk size ws ms wv sv A e1) (hT : T ≠ 3 ∧ T ≠ 9) (hB : w.heap.size = B) (hn : ws.length = n)
    (hm : Mods Nope wr wx) (hg : wx.grownBy w3 wv.ownBlock) (hown : w3.ownsRow B 3 1 nv (n + 1) (ints ws ++ [.int .i64 x])) :
    OfAt T B R G s w (w3.setCell ⟨G, 2, none⟩ nv) blk size (ws ++ [x]) ms nv sv A e1 := by
  subst hn
  have ho := h.ord
  have h' := h.nope hm
  have hG := grown_row hg h'.g (own_ne_row h'.weak h'.g (by decide))
  have hM : Mods (fun j => wv.ownBlock = some j ∨ j = G) wx (w3.setCell ⟨G, 2, none⟩ nv) :=
    ((Mods.refl _ _).grown hg (fun j hj _ => .inl hj)).setCell _ (fun _ => .inr rfl) _
  refine ⟨h.ord, ?_, row_set hG 2 nv, ?_, ?_, ?_, ?_⟩
  · refine hM.row h'.res ?_
    rintro (hj | hj)
    · exact own_ne_row h'.weak h'.res (by decide) _ hj rfl
    · omega
  · rw [ints_append, List.length_append]
    exact ((Mods.refl (fun j => j = G) w3).setCell ⟨G, 2, none⟩ (fun _ => rfl) nv).owns hown (fun j hj e => own_ne_row hown hG (by decide) j hj e)
  · refine hM.owns h'.strong ?_
    rintro j hj (hw | rfl)
    · exact own_ne_own h'.strong h'.weak (by decide) j hj hw
    · exact own_ne_row h'.strong h'.g (by decide) _ hj rfl
  · refine hM.row h'.rd ?_
    rintro (hj | hj)
    · exact own_ne_row h'.weak h'.rd (fun e => hT.1 e.symm) _ hj rfl
    · omega
  · refine h'.mods.then hM ?_
    rintro j hj (hw | rfl)
    · have := (h'.weak.lt _ hw).1; omega
    · omega
theorem OfAt.addStrong {x : ByteArray} {n : Nat} (h : OfAt T B R G s w wr blk size ws ms wv sv A e1) (hT : T ≠ 3 ∧ T ≠ 9) (hB : w.heap.size = B) (hn : ms.length = n)
    (hm : Mods Nope wr wx) (hg : wx.grownBy w3 sv.ownBlock) (hown : w3.ownsRow B 9 1 nv (n + 1) (strs ms ++ [.string x])) :
    OfAt T B R G s w (w3.setCell ⟨G, 3, none⟩ nv) blk size ws (ms ++ [x]) wv nv A e1 := by
  subst hn
  have ho := h.ord
  have h' := h.nope hm
  have hG := grown_row hg h'.g (own_ne_row h'.strong h'.g (by decide))
  have hM : Mods (fun j => sv.ownBlock = some j ∨ j = G) wx (w3.setCell ⟨G, 3, none⟩ nv) :=
    ((Mods.refl _ _).grown hg (fun j hj _ => .inl hj)).setCell _ (fun _ => .inr rfl) _
  refine ⟨h.ord, ?_, row_set hG 3 nv, ?_, ?_, ?_, ?_⟩
  · refine hM.row h'.res ?_
    rintro (hj | hj)
    · exact own_ne_row h'.strong h'.res (by decide) _ hj rfl
    · omega
  · refine hM.owns h'.weak ?_
    rintro j hj (hw | rfl)
    · exact own_ne_own h'.weak h'.strong (by decide) j hj hw
    · exact own_ne_row h'.weak h'.g (by decide) _ hj rfl
  · rw [strs_append, List.length_append]
    exact ((Mods.refl (fun j => j = G) w3).setCell ⟨G, 3, none⟩ (fun _ => rfl) nv).owns hown (fun j hj e => own_ne_row hown hG (by decide) j hj e)
  · refine hM.row h'.rd ?_
    rintro (hj | hj)
    · exact own_ne_row h'.strong h'.rd (fun e => hT.2 e.symm) _ hj rfl
    · omega
  · refine h'.mods.then hM ?_
    rintro j hj (hw | rfl)
    · have := (h'.strong.lt _ hw).1; omega
    · omega
theorem OfAt.gc (h : OfAt T B R G s w wr blk size ws ms wv sv A e1) : wr.cell? ⟨G, 0, none⟩ = some (.int .i64 blk) ∧ wr.cell? ⟨G, 1, none⟩ = some (.int .i64 size) ∧ wr.cell? ⟨G, 2, none⟩ = some wv ∧ wr.cell? ⟨G, 3, none⟩ = some sv :=
  ⟨by rw [row_cell h.g]; rfl, by rw [row_cell h.g]; rfl, by rw [row_cell h.g]; rfl, by rw [row_cell h.g]; rfl⟩
theorem OfAt.rcell (h : OfAt T B R G s w wr blk size ws ms wv sv A e1) : wr.cell? ⟨B, 0, none⟩ = some (.int .i64 0) ∧ wr.cell? ⟨B, 1, none⟩ = some (.int .i64 0) ∧ wr.cell? ⟨B, 2, none⟩ = some (.slice none 0 0) ∧ wr.cell? ⟨B, 3, none⟩ = some (.slice none 0 0) ∧ (∀ j, wr.frozen? ⟨B, j, none⟩ = false) :=
  ⟨by rw [row_cell h.res]; rfl, by rw [row_cell h.res]; rfl, by rw [row_cell h.res]; rfl, by rw [row_cell h.res]; rfl, fun j => row_frozen h.res j⟩
end
/-- What a reader of signatures leaves. -/
def OfPost (X : OfR) (w : World) (e : Ending) (w' : World) : Prop :=
  ∃ wv sv, e = .returned (.tuple #[sigV X.blk X.size wv sv, .int .i64 X.err]) ∧ w'.ownsRow w.heap.size 3 1 wv X.ws.length (ints X.ws) ∧ w'.ownsRow w.heap.size 9 1 sv X.ms.length (strs X.ms) ∧ Mods Nope w w'
theorem OfPost.bad {X : OfR} {w w' : World} {e : Int} (hX : X = .bad e) (hm : Mods Nope w w') : OfPost X w (.returned (.tuple #[sigV 0 0 (.slice none 0 0) (.slice none 0 0), .int .i64 e])) w' := by
  subst hX
  exact ⟨_, _, rfl, World.ownsRow_nil _ _ _ _, World.ownsRow_nil _ _ _ _, hm⟩
end Go.Proofs.Ytblhbbgkkijkfaa
