/- Steps and deltas that come in as parameters: what they are made of. -/
import Derived.Test.YtblhbbgkkijkfaaK4
import Derived.Test.YtblhbbgkkijkfaaU5
import Derived.Test.YtblhbbgkkijkfaaSO
import Derived.Deep.Slices
import Derived.Deep.Fields
import Derived.ChangeSame
namespace Go.Proofs.Ytblhbbgkkijkfaa
open Go.RowKit Go.ChangeShapes Go.WideShapes Go.Joins Go.Deep
section
variable {H : Type} {enc : TypeId × Value → H} {P : Program} {w : World} {base : Nat} {spare : Nat → Bool} {held : Bool}
/-- A slice of structs, field by field. -/
theorem open_slice_fields {t e : TypeId} {fs : Array Field} {fuel : Nat} {cs : List Value} {x : DataW H × List MemPlace} (ht : P.underlying t = some (.slice e)) (he : P.underlying e = some (.struct fs))
    (hone : oneCellFields P fs = true) (hC : P.cellsOf e = fs.size) (h : DataW.trod enc P w base spare held fuel t cs = some x) :
    (cs = [.slice none 0 0]) ∨
    ∃ (a : Addr) (len cap m : Nat), cs = [.slice (some a) len cap] ∧ len ≤ cap ∧ cap ≤ maxLen ∧ m = (if spare a.block then cap else len) ∧
      ∀ i, i < m → ∃ n, ∀ (j : Nat) (f : Field), fs[j]? = some f → ∃ (v : Value) (y : DataW H × List MemPlace), w.cell? (a.add (i * fs.size + j)) = some v ∧ DataW.trod enc P w base spare held n f.type [v] = some y := by
  rcases open_slice ht h with h0 | ⟨a, len, cap, m, n, D, Pl, hcs, hb, hl, hm, hmm, hx, hi⟩
  · exact .inl h0.1
  · refine .inr ⟨a, len, cap, m, hcs, hl, hm, hmm, fun i him => ?_⟩
    obtain ⟨cs', hc, ht'⟩ := hi i him
    rw [hC] at hc
    obtain ⟨ys, n', hn', hy, hlen, hyl, hf⟩ := DataW.trod_struct he ht'
    obtain ⟨_, hcl, hat⟩ := World.cells?_some hc
    refine ⟨n', fun j f hj => ?_⟩
    obtain ⟨ho, hk⟩ := hone_of hone j f hj
    have hjl : j < fs.size := (Array.getElem?_eq_some_iff.1 hj).1
    have hcell := hat j hjl
    have hv : cs'[j]? = some (cs'[j]'(by omega)) := List.getElem?_eq_getElem (by omega)
    have h1 := hf j f hj
    rw [ho, hk] at h1
    have hone' : (cs'.drop j).take 1 = [cs'[j]'(by omega)] := by
      rw [List.drop_eq_getElem_cons (by omega)]
      rfl
    rw [hone'] at h1
    have hys : ys[j]? = some (ys[j]'(by omega)) := List.getElem?_eq_getElem (by omega)
    refine ⟨_, _, ?_, h1.trans hys⟩
    rw [← Go.Deep.add_add, hcell, hv]
end
instance : Inhabited Stp := ⟨⟨0, 0, ⟨#[]⟩⟩⟩
theorem stps_at (l : List Stp) {i k : Nat} (hi : i < l.length) (hk : k < 3) : (stps l)[i * 3 + k]? = l[i].cells[k]? := by
  have hd : l = l.take i ++ l[i] :: l.drop (i + 1) := by rw [← List.drop_eq_getElem_cons hi, List.take_append_drop]
  have h1 : stps l = stps (l.take i) ++ (l[i].cells ++ stps (l.drop (i + 1))) := by
    conv => lhs; rw [hd]
    rw [stps_append]
    rfl
  have h2 : (stps (l.take i)).length = i * 3 := by rw [stps_length, List.length_take, Nat.min_eq_left (by omega)]
  rw [h1, List.getElem?_append_right (by omega), h2, Nat.add_sub_cancel_left, List.getElem?_append_left (by simp [Stp.cells]; omega)]
theorem under54 : Try.prog.underlying 54 = some (.slice 117) := by kernel_rfl
theorem one117 : oneCellFields Try.prog (Try.prog.fieldsOf 117) = true := by kernel_rfl
theorem size117 : (Try.prog.fieldsOf 117).size = 3 := by kernel_rfl
theorem cells117 : Try.prog.cellsOf 117 = (Try.prog.fieldsOf 117).size := by kernel_rfl
theorem field117 (j : Nat) (hj : j < 3) : ∃ f, (Try.prog.fieldsOf 117)[j]? = some f ∧ f.type = [3, 3, 9].getD j 0 := by
  have hs := size117
  have hf := fields117
  have hl : j < (Try.prog.fieldsOf 117).size := by omega
  refine ⟨(Try.prog.fieldsOf 117)[j], Array.getElem?_eq_getElem hl, ?_⟩
  have h1 := congrArg (fun l => (l[j]?).map (fun x => x.2.1)) hf
  simp only [List.getElem?_map, Array.getElem?_toList, Array.getElem?_eq_getElem hl, Option.map_some] at h1
  have : j = 0 ∨ j = 1 ∨ j = 2 := by omega
  rcases this with rfl | rfl | rfl <;> simpa using h1
/-- Steps that come in. -/
theorem open_steps {H : Type} {enc : TypeId × Value → H} {w : World} {base fuel : Nat} {cs : List Value} {x : DataW H × List MemPlace} (h : DataW.trod enc Try.prog w base (fun _ => true) true fuel 54 cs = some x) :
    ∃ (A : Option Addr) (n c : Nat) (l : List Stp), cs = [.slice A n c] ∧ l.length = n ∧ Rd w A (stps l) ∧ (∀ x ∈ l, x.text.size ≤ maxLen) ∧ n ≤ c ∧ c ≤ maxLen := by
  rcases open_slice_fields under54 under117 one117 cells117 h with rfl | ⟨a, len, cap, m, rfl, hl, hm, hmm, hi⟩
  · exact ⟨none, 0, 0, [], rfl, rfl, Rd.nil _ _, fun x hx => by simp at hx, Nat.le_refl _, by simp [maxLen]⟩
  · rw [if_pos rfl] at hmm
    subst hmm
    rw [size117] at hi
    have hx : ∀ i, i < len → ∃ y : Stp, w.cell? (a.add (i * 3)) = some (.int .i64 y.pos) ∧ w.cell? (a.add (i * 3 + 1)) = some (.int .i64 y.len) ∧ w.cell? (a.add (i * 3 + 2)) = some (.string y.text) ∧ y.text.size ≤ maxLen := by
      intro i hil
      obtain ⟨n, hf⟩ := hi i (by omega)
      obtain ⟨f0, g0, e0⟩ := field117 0 (by omega)
      obtain ⟨f1, g1, e1⟩ := field117 1 (by omega)
      obtain ⟨f2, g2, e2⟩ := field117 2 (by omega)
      obtain ⟨v0, y0, c0, t0⟩ := hf 0 f0 g0
      obtain ⟨v1, y1, c1, t1⟩ := hf 1 f1 g1
      obtain ⟨v2, y2, c2, t2⟩ := hf 2 f2 g2
      rw [e0] at t0
      rw [e1] at t1
      rw [e2] at t2
      obtain ⟨p, ep, _, _⟩ := DataW.trod_int Try.underlying3 t0
      obtain ⟨q, eq, _, _⟩ := DataW.trod_int Try.underlying3 t1
      obtain ⟨s, es, _, hs⟩ := DataW.trod_string Try.underlying9 t2
      injection ep with ep
      injection eq with eq
      injection es with es
      subst ep
      subst eq
      subst es
      exact ⟨⟨p, q, s⟩, by simpa using c0, c1, c2, hs⟩
    obtain ⟨F, hF⟩ := choose_lt hx
    have hlen : ((List.range len).map F).length = len := by simp
    refine ⟨some a, len, m, (List.range len).map F, rfl, hlen, rd_of_row (fun i hil => ?_), ?_, hl, hm⟩
    · rw [stps_length, hlen] at hil
      have hik : i / 3 < len := by omega
      have hj : i = i / 3 * 3 + i % 3 := by omega
      have hat := stps_at ((List.range len).map F) (i := i / 3) (k := i % 3) (by rw [hlen]; exact hik) (by omega)
      rw [← hj] at hat
      rw [hat]
      have hg : ((List.range len).map F)[i / 3]'(by rw [hlen]; exact hik) = F (i / 3) := by simp
      rw [hg]
      obtain ⟨c0, c1, c2, _⟩ := hF (i / 3) hik
      have h3 : i % 3 = 0 ∨ i % 3 = 1 ∨ i % 3 = 2 := by omega
      rcases h3 with h3 | h3 | h3 <;> rw [h3] at hj ⊢ <;> rw [congrArg a.add hj]
      · simpa [Stp.cells] using c0
      · simpa [Stp.cells] using c1
      · simpa [Stp.cells] using c2
    · intro y hy
      rw [List.mem_map] at hy
      obtain ⟨i, hi2, rfl⟩ := hy
      exact (hF i (List.mem_range.1 hi2)).2.2.2
set_option maxRecDepth 100000 in
set_option linter.all false in
theorem open_steps_arg {H : Type} {enc : TypeId × Value → H} {w : World} {base : Nat} {r : Reach} {b0 : Nat} {v : Value} {d : DataW H} {p : List MemPlace}
    (hv : Value.okWide Try.prog w r b0 54 v) (h : DataW.Trod enc Try.prog w base (fun _ => true) true 54 v d p) :
    ∃ (A : Option Addr) (n c : Nat) (l : List Stp), v = .slice A n c ∧ l.length = n ∧ Rd w A (stps l) ∧ (∀ x ∈ l, x.text.size ≤ maxLen) ∧ n ≤ c ∧ c ≤ maxLen := by
  obtain ⟨a, len, cap, rfl⟩ := okWide_slice under54 hv
  obtain ⟨fuel, hf⟩ := h
  obtain ⟨A, n, c, l, e, h1, h2, h3, h4, h5⟩ := open_steps hf
  have e2 : (Value.slice a len cap) = .slice A n c := by simpa [Value.cells] using e
  exact ⟨A, n, c, l, e2, h1, h2, h3, h4, h5⟩
theorem under56 : Try.prog.underlying 56 = some (.struct (Try.prog.fieldsOf 56)) := by kernel_rfl
theorem fields56 : ((Try.prog.fieldsOf 56).toList.map fun f => (f.name, f.type, f.offset)) = [("Basis", 9, 0), ("Mark", 9, 1), ("Size", 3, 2), ("Steps", 54, 3)] := by kernel_rfl
set_option maxRecDepth 100000 in
set_option linter.all false in
/-- A delta that comes in. -/
theorem open_dlt {H : Type} {enc : TypeId × Value → H} {w : World} {base : Nat} {r : Reach} {b0 : Nat} {v : Value} {d : DataW H} {p : List MemPlace}
    (hv : Value.okWide Try.prog w r b0 56 v) (h : DataW.Trod enc Try.prog w base (fun _ => true) true 56 v d p) :
    ∃ (x y : ByteArray) (size : Int) (A : Option Addr) (n c : Nat) (l : List Stp), v = .agg #[.string x, .string y, .int .i64 size, .slice A n c] ∧
      x.size ≤ maxLen ∧ y.size ≤ maxLen ∧ (Lit.int .i64 size).wf = true ∧ l.length = n ∧ Rd w A (stps l) ∧ (∀ x ∈ l, x.text.size ≤ maxLen) ∧ n ≤ c ∧ c ≤ maxLen := by
  obtain ⟨v0, v1, v2, v3, y0, y1, y2, y3, n, rfl, rfl, rfl, t0, t1, t2, t3⟩ := open_agg4 Try.underlying56 (by kernel_rfl) (by kernel_rfl) hv h
  obtain ⟨x, e0, _, w0⟩ := DataW.trod_string Try.underlying9 t0
  obtain ⟨y, e1, _, w1⟩ := DataW.trod_string Try.underlying9 t1
  obtain ⟨size, e2, _, w2⟩ := DataW.trod_int Try.underlying3 t2
  obtain ⟨A, k, c, l, e3, hl, hr, hs, hkc, hc⟩ := open_steps t3
  injection e0 with e0; subst e0
  injection e1 with e1; subst e1
  injection e2 with e2; subst e2
  injection e3 with e3; subst e3
  exact ⟨x, y, size, A, k, c, l, rfl, w0, w1, w2, hl, hr, hs, hkc, hc⟩
end Go.Proofs.Ytblhbbgkkijkfaa
