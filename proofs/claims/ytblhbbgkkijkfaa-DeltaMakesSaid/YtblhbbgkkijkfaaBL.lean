/- strings.Builder at this program: a builder's own block and row; WriteString walked, String of a builder that holds a byte, walked. -/
import Derived.Test.YtblhbbgkkijkfaaB0
import Derived.Shelf.Strings.Builder1
namespace Go.Proofs.Ytblhbbgkkijkfaa
open Go.RowKit Go.Maps
theorem sizeBuilder : (Try.prog.info? 104).map (·.size) = some 2 := by kernel_rfl
theorem liesBuilder : liesAt Try.prog Try.prog.depth 104 (2 / Try.prog.cellsOf 104) 0 104 1 = true := by kernel_rfl
theorem cellsByte : Try.prog.cellsOf 5 = 1 := by kernel_rfl
theorem infoB : ∃ j, Try.prog.info? 104 = some j ∧ j.size = 2 := by
  obtain ⟨j, hj, h⟩ := Option.map_eq_some_iff.1 sizeBuilder
  exact ⟨j, hj, h⟩
/-- A builder: its block b, what its slice is, the bytes in it. -/
structure Bld (w : World) (B b : Nat) (v : Value) (bs : List Value) : Prop where
  base : B ≤ b
  row : ∃ p, (p = .pointer none ∨ p = .pointer (some ⟨b, 0, none⟩)) ∧ w.heap[b]? = some (.cells #[p, v] 104 (0, 0))
  own : w.ownsRow B 5 1 v bs.length bs
theorem Bld.ne {w : World} {B b : Nat} {v : Value} {bs : List Value} (h : Bld w B b v bs) : v.ownBlock ≠ some b := by
  obtain ⟨p, _, hr⟩ := h.row
  exact fun e => own_ne_row h.own hr (by decide) b e rfl
theorem Bld.mods {M : Nat → Prop} {w w' : World} {B b : Nat} {v : Value} {bs : List Value} (h : Bld w B b v bs) (hm : Mods M w w') (h1 : ¬ M b) (h2 : ∀ k, v.ownBlock = some k → ¬ M k) : Bld w' B b v bs := by
  obtain ⟨p, hp, hr⟩ := h.row
  exact ⟨h.base, ⟨p, hp, hm.row hr h1⟩, hm.owns h.own h2⟩
theorem Bld.nope {w w' : World} {B b : Nat} {v : Value} {bs : List Value} (h : Bld w B b v bs) (hm : Mods Nope w w') : Bld w' B b v bs := h.mods hm (fun h => h) (fun _ _ h => h)
theorem Bld.lt {w : World} {B b : Nat} {v : Value} {bs : List Value} (h : Bld w B b v bs) : b < w.heap.size := by
  obtain ⟨p, _, hr⟩ := h.row
  exact row_lt hr
set_option maxHeartbeats 2000000 in
set_option maxRecDepth 100000 in
theorem f124_calls (B b : Nat) (v : Value) (bs : List Value) (w : World) (h : Bld w B b v bs) :
    Calls Try.prog 124 #[.pointer (some ⟨b, 0, none⟩)] w fun e w' => e = .returned (.tuple #[]) ∧ w'.heap[b]? = some (.cells #[.pointer (some ⟨b, 0, none⟩), v] 104 (0, 0)) ∧ Mods (fun j => j = b) w w' := by
  obtain ⟨j, hj, hjs⟩ := infoB
  obtain ⟨p, hp, hr⟩ := h.row
  rcases hp with rfl | rfl
  · have h0 : w.cell? ⟨b, 0, none⟩ = some (.pointer none) := by rw [row_cell hr]; rfl
    have hfz : w.frozen? ⟨b, 0, none⟩ = false := row_frozen hr 0
    have hsh : w.shape? b = some (104, 2) := by simp [World.shape?, hr]
    go_enter Try.func124, Try.ntmps124
    go_wp2
    rw [Lib.run_to_unsafe w ⟨b, 0, none⟩ Try.underlying102 Try.underlying165 hj (by rw [hjs]; decide) hsh (Nat.zero_lt_succ 1)]
    simp only [Result.andThen]
    rw [Oper.upon_value]
    go_wp2
    rw [run_callFunc_extern Try.func145 (by kernel_rfl) (by kernel_rfl) (by kernel_rfl) (e := Extern.AbiNoEscape.same) (by kernel_rfl)]
    rw [Lib.run_noEscape]
    simp only [Result.andThen]
    rw [Oper.upon_value]
    go_wp2
    rw [Lib.run_from_unsafe w ⟨b, 0, none⟩ Try.underlying165 Try.underlying102 hj hsh liesBuilder]
    simp only [Result.andThen]
    rw [Oper.upon_value]
    go_wp2
    go_end0
    exact ⟨rfl, by rw [row_set hr]; rfl, (Mods.refl (fun j => j = b) w).setCell ⟨b, 0, none⟩ (fun _ => rfl) _⟩
  · have h0 : w.cell? ⟨b, 0, none⟩ = some (.pointer (some ⟨b, 0, none⟩)) := by rw [row_cell hr]; rfl
    go_enter Try.func124, Try.ntmps124
    go_wp2
    rw [Lib.run_neq_ptr_same w _ Try.underlying102 hj]
    go_wp2
    go_end0
    exact ⟨rfl, hr, Mods.refl _ _⟩
set_option maxHeartbeats 2000000 in
set_option maxRecDepth 100000 in
theorem f84_calls (B b : Nat) (v : Value) (l : List UInt8) (s : ByteArray) (w : World) (h : Bld w B b v (Lib.byteCells l)) (hlen : l.length + s.size ≤ 140737488355328) (hBw : B ≤ w.heap.size) :
    Calls Try.prog 84 #[.pointer (some ⟨b, 0, none⟩), .string s] w fun e w' => ∃ v', e = .returned (.tuple #[.int .i64 s.size, .nilIface]) ∧ Bld w' B b v' (Lib.byteCells (l ++ s.data.toList)) ∧ Mods (fun j => j = b ∨ v.ownBlock = some j) w w' := by
  obtain ⟨i0, hi, hz⟩ := Option.map_eq_some_iff.1 info5
  simp only [Prod.mk.injEq] at hz
  obtain ⟨hz0, hz1, hz2⟩ := hz
  go_enter Try.func84, Try.ntmps84
  go_wp2_with fail
  refine (f124_calls B b v _ _ h).mono ?_; rintro e w1 ⟨rfl, hr, hm⟩
  have hown := hm.owns h.own (fun k hk e => h.ne (by rw [hk, e]))
  rw [Lib.byteCells_length] at hown
  have c1 : w1.cell? ⟨b, 1, none⟩ = some v := by rw [row_cell hr]; rfl
  have hsz := hm.size
  go_wp2_with (at_builtin; refine Lib.wpList_append_own_string _ rfl _ _ 89 9 rfl B 5 i0 Try.underlying89 Try.underlying9 hi hz0 hz1 hz2 _ _ _ rfl hown s rfl ?c3 ?c4 ?c5 ?_)
  case c3 => unfold maxLen; omega
  case c4 => omega
  case c5 => omega
  intro v' w2 hown' hgrow _
  have hne := h.ne
  have hb2 := (Mods.refl (fun j => v.ownBlock = some j) w1).grown hgrow (fun k hk _ => hk)
  have hr2 := hb2.row hr hne
  have d1 : w2.cell? ⟨b, 1, none⟩ = some v := by rw [row_cell hr2]; rfl
  have f1 : w2.frozen? ⟨b, 1, none⟩ = false := row_frozen hr2 1
  obtain ⟨A, c, rfl, _, _, _, _⟩ := Rd.of_owns hown'
  go_wp2
  go_ret2
  refine ⟨_, rfl, ⟨h.base, ⟨_, .inr rfl, by rw [row_set hr2]; rfl⟩, ?_⟩, ?_⟩
  · have hx : Lib.byteCells (l ++ s.data.toList) = Lib.byteCells l ++ Lib.strCells s := by simp [Lib.byteCells, Lib.strCells]
    rw [hx]
    have := ((Mods.refl (fun j => j = b) w2).setCell ⟨b, 1, none⟩ (fun _ => rfl) (.slice A (l.length + s.size) c)).owns hown' (fun k hk e => own_ne_row hown' hr2 (by decide) k hk e)
    rw [show (Lib.byteCells l ++ Lib.strCells s).length = l.length + s.size by rw [List.length_append, Lib.byteCells_length, Lib.strCells_length]]
    exact this
  · refine ((hm.mono (fun _ _ e => .inl e)).then hb2 ?_).setCell ⟨b, 1, none⟩ (fun _ => .inl rfl) _
    exact fun _ _ e => .inr e
set_option maxHeartbeats 1000000 in
set_option maxRecDepth 100000 in
theorem f85_calls (B b : Nat) (v : Value) (l : List UInt8) (w : World) (h : Bld w B b v (Lib.byteCells l)) (h0 : l ≠ []) :
    Calls Try.prog 85 #[.pointer (some ⟨b, 0, none⟩)] w fun e w' => e = .returned (.string ⟨l.toArray⟩) ∧ Below B w w' := by
  obtain ⟨p, hp, hbk⟩ := h.row
  have hown := h.own
  have hl0 : l.length ≠ 0 := by simpa using h0
  rw [Lib.byteCells_length] at hown
  obtain ⟨g, cap, cur, rfl, hbg, hg, hnc, hcm, hcs, htake⟩ : ∃ g cap cur, v = .slice (some ⟨g, 0, none⟩) l.length cap ∧ B ≤ g ∧ w.heap[g]? = some (.cells cur 5 (0, 0)) ∧ l.length ≤ cap ∧ cap ≤ maxLen ∧ cur.size = cap * 1 ∧ cur.toList.take (l.length * 1) = Lib.byteCells l := by
    rcases hown.2 with ⟨_, hz⟩ | ⟨g, cap, cur, hv, r⟩
    · exact absurd hz hl0
    · exact ⟨g, cap, cur, hv, r⟩
  have c1 : w.drew.cell? ⟨b, 1, none⟩ = some (.slice (some ⟨g, 0, none⟩) l.length cap) := by
    have : w.drew.heap[b]? = some (.cells #[p, .slice (some ⟨g, 0, none⟩) l.length cap] 104 (0, 0)) := hbk
    rw [Lib.cell_of_heap this]; rfl
  have hSD : (Builtin.unsafeSliceData_ #[89] 147 #[.slice (some ⟨g, 0, none⟩) l.length cap]).run Try.prog w.drew = .ok (.pointer (some ⟨g, 0, none⟩)) w.drew :=
    Lib.run_unsafeSliceData_row _ _ _ _ _ _ (by omega)
  have hUS : (Builtin.unsafeString_ #[147, 3] 9 #[.pointer (some ⟨g, 0, none⟩), .int .i64 l.length]).run Try.prog w.drew = .ok (.string ⟨l.toArray⟩) (w.drew.freeze ⟨g, 0, none⟩ l.length) := by
    refine Lib.run_unsafeString_row w.drew 147 3 9 5 Try.underlying147 cellsByte g cur.size (by have hg' : w.drew.heap[g]? = some (.cells cur 5 (0, 0)) := hg; simp [World.shape?, hg']) l h0 (by omega) (by unfold maxLen at hcm; omega) ?_
    intro j x hx
    have := hown.cells (g := g) rfl j (.int .u8 x.toNat) (by simp [Lib.byteCells, hx])
    exact this
  go_enter Try.func85, Try.ntmps85
  go_wp2
  go_region
  all_goals (go_wp2; go_ret; exact ⟨rfl, Lib.below_freeze (Below.drew (Below.refl B w)) (p := ⟨g, 0, none⟩) hbg _⟩)
end Go.Proofs.Ytblhbbgkkijkfaa
