/- A signature that comes in as a parameter: what it is made of. -/
import Derived.Test.YtblhbbgkkijkfaaB0
import Derived.Lib.SmallJoins
import Derived.SliceStrings
import Derived.ChangeSlices
import Derived.ChangeArms
namespace Go.Proofs.Ytblhbbgkkijkfaa
open Go.RowKit Go.ChangeShapes Go.WideShapes Go.Joins
theorem rd_of_row {w : World} {x : Addr} {vs : List Value} (h : ∀ i, i < vs.length → w.cell? (x.add i) = vs[i]?) : Rd w (some x) vs := by
  intro j u hu
  obtain ⟨hj, rfl⟩ := List.getElem?_eq_some_iff.1 hu
  have hc := h j hj
  rw [List.getElem?_eq_getElem hj] at hc
  obtain ⟨b, off, spot⟩ := x
  have hspot : spot = none := by
    have h0 := h 0 (by omega)
    rw [List.getElem?_eq_getElem (by omega)] at h0
    simpa [Addr.add] using World.cell?_spot h0
  subst hspot
  refine ⟨b, off, rfl, ?_⟩
  rw [← hc]
  congr 1
  unfold Addr.add
  split <;> simp_all
set_option maxRecDepth 100000 in
set_option linter.all false in
theorem open_sig {H : Type} {enc : TypeId × Value → H} {w : World} {base : Nat} {r : Reach} {b0 : Nat} {v : Value} {d : DataW H} {p : List MemPlace}
    (hv : Value.okWide Try.prog w r b0 31 v) (h : DataW.Trod enc Try.prog w base (fun _ => true) true 31 v d p) :
    ∃ (blk size : Int) (A A' : Option Addr) (c c' l m : Nat) (ws : List Int) (ms : List ByteArray), v = .agg #[.int .i64 blk, .int .i64 size, .slice A l c, .slice A' m c'] ∧
      (Lit.int .i64 blk).wf = true ∧ (Lit.int .i64 size).wf = true ∧ ws.length = l ∧ ms.length = m ∧ Rd w A (ints ws) ∧ Rd w A' (strs ms) ∧ (∀ x ∈ ws, (Lit.int .i64 x).wf = true) ∧ (∀ x ∈ ms, x.size ≤ maxLen) ∧ l ≤ c ∧ m ≤ c' ∧ c ≤ maxLen ∧ c' ≤ maxLen := by
  obtain ⟨v0, v1, v2, v3, y0, y1, y2, y3, n, rfl, rfl, rfl, t0, t1, t2, t3⟩ := open_agg4 Try.underlying31 (by kernel_rfl) (by kernel_rfl) hv h
  obtain ⟨blk, e0, _, w0⟩ := DataW.trod_int Try.underlying3 t0
  obtain ⟨size, e1, _, w1⟩ := DataW.trod_int Try.underlying3 t1
  injection e0 with e0; subst e0
  injection e1 with e1; subst e1
  obtain ⟨A, l, c, ws, rfl, hl, hw, hwf, hlc, hc⟩ : ∃ (A : Option Addr) (l c : Nat) (ws : List Int), v2 = .slice A l c ∧ ws.length = l ∧ Rd w A (ints ws) ∧ (∀ x ∈ ws, (Lit.int .i64 x).wf = true) ∧ l ≤ c ∧ c ≤ maxLen := by
    rcases open_ints Try.underlying28 Try.underlying3 (by kernel_rfl) t2 with ⟨e, _⟩ | ⟨x, l, c, zs, e, _, h1, h2, h3, _, h5, h6⟩
    · injection e with e; subst e
      exact ⟨none, 0, 0, [], rfl, rfl, Rd.nil _ _, fun x hx => by simp at hx, Nat.le_refl _, Nat.zero_le _⟩
    · injection e with e; subst e
      simp only [if_true] at h3
      refine ⟨some x, l, c, zs.take l, rfl, by rw [List.length_take]; omega, rd_of_row (fun i hi => ?_), fun y hy => h6 y (List.mem_of_mem_take hy), h1, h2⟩
      simp only [ints, List.length_map, List.length_take] at hi
      rw [h5 i (by omega)]
      have hz : i < zs.length := by omega
      have hl : i < l := by omega
      simp [ints, hl, hz]
  obtain ⟨A', m, c', ms, rfl, hm, hs, hz, hmc, hc'⟩ : ∃ (A : Option Addr) (l c : Nat) (ms : List ByteArray), v3 = .slice A l c ∧ ms.length = l ∧ Rd w A (Ytblhbbgkkijkfaa.strs ms) ∧ (∀ x ∈ ms, x.size ≤ maxLen) ∧ l ≤ c ∧ c ≤ maxLen := by
    rcases open_strings Try.underlying29 Try.underlying9 (by kernel_rfl) t3 with ⟨e, _⟩ | ⟨x, l, c, zs, e, _, h1, h2, h3, _, h5, h6⟩
    · injection e with e; subst e
      exact ⟨none, 0, 0, [], rfl, rfl, Rd.nil _ _, fun x hx => by simp at hx, Nat.le_refl _, Nat.zero_le _⟩
    · injection e with e; subst e
      simp only [if_true] at h3
      refine ⟨some x, l, c, zs.take l, rfl, by rw [List.length_take]; omega, rd_of_row (fun i hi => ?_), fun y hy => h6 y (List.mem_of_mem_take hy), h1, h2⟩
      simp only [Ytblhbbgkkijkfaa.strs, List.length_map, List.length_take] at hi
      rw [h5 i (by omega)]
      have hz : i < zs.length := by omega
      have hl : i < l := by omega
      simp [Ytblhbbgkkijkfaa.strs, hl, hz]
  exact ⟨blk, size, A, A', c, c', l, m, ws, ms, rfl, w0, w1, hl, hm, hw, hs, hwf, hz, hlc, hmc, hc, hc'⟩
end Go.Proofs.Ytblhbbgkkijkfaa
