/- (*delta.maker).copy, walked. -/
import Derived.Test.YtblhbbgkkijkfaaK4
namespace Go.Proofs.Ytblhbbgkkijkfaa
open Go.RowKit Go.Maps
/-- A copy behind steps. -/
def cpy (l : List Stp) (a n : Int) : List Stp :=
  match l.getLast? with
  | some x => if 0 < x.len ∧ x.pos + x.len = a then l.dropLast ++ [⟨x.pos, x.len + n, x.text⟩] else l ++ [⟨a, n, ⟨#[]⟩⟩]
  | none => l ++ [⟨a, n, ⟨#[]⟩⟩]
theorem cpy_nil (a n : Int) : cpy [] a n = [⟨a, n, ⟨#[]⟩⟩] := rfl
theorem cpy_snoc (l : List Stp) (x : Stp) (a n : Int) : cpy (l ++ [x]) a n = if 0 < x.len ∧ x.pos + x.len = a then l ++ [⟨x.pos, x.len + n, x.text⟩] else (l ++ [x]) ++ [⟨a, n, ⟨#[]⟩⟩] := by
  unfold cpy
  rw [List.getLast?_concat]
  simp only [List.dropLast_concat]
/-- A step that may be. -/
def StpIn (x : Stp) : Prop := 0 ≤ x.pos ∧ 0 ≤ x.len ∧ x.pos + x.len ≤ 524288
theorem chunksN_in : ∀ (n : Nat) (t : ByteArray), ∀ x ∈ chunksN n t, StpIn x := by
  intro n
  induction n with
  | zero => intro t x hx; simp [chunksN] at hx
  | succ n ih =>
    intro t x hx
    unfold chunksN at hx
    split at hx
    · simp at hx
    · rcases List.mem_cons.1 hx with rfl | h
      · exact ⟨by simp, by simp, by simp⟩
      · exact ih _ x h
theorem chunks_in (t : ByteArray) : ∀ x ∈ chunks t, StpIn x := chunksN_in _ t
theorem chunksN_len : ∀ (n : Nat) (t : ByteArray), (chunksN n t).length ≤ t.size := by
  intro n
  induction n with
  | zero => intro t; simp [chunksN]
  | succ n ih =>
    intro t
    unfold chunksN
    split
    · simp
    · have := ih (t.extract (min t.size 4096) t.size)
      rw [ByteArray.size_extract] at this
      rw [List.length_cons]
      omega
theorem chunks_len (t : ByteArray) : (chunks t).length ≤ t.size := chunksN_len _ t
theorem owns_set {w : World} {base e size n g cap j : Nat} {xs : List Value} (h : w.ownsRow base e size (.slice (some ⟨g, 0, none⟩) n cap) n xs) (u : Value) :
    (w.setCell ⟨g, j, none⟩ u).ownsRow base e size (.slice (some ⟨g, 0, none⟩) n cap) n (xs.set j u) := by
  refine ⟨by rw [List.length_set]; exact h.1, ?_⟩
  rcases h.2 with ⟨hv, _⟩ | ⟨g', cap', cur, hv, hb, hg, h1, h2, h3, h4⟩
  · cases hv
  · injection hv with hA _ hcc
    injection hA with hA
    injection hA with hA _ _
    subst hA
    subst hcc
    refine .inr ⟨g, cap, cur.setIfInBounds j u, rfl, hb, row_set hg j u, h1, h2, by simpa using h3, ?_⟩
    rw [← h4, Array.toList_setIfInBounds, List.take_set]
theorem last_cells (l : List Stp) (x : Stp) (y : Int) : (stps (l ++ [x]))[l.length * 3]? = some (.int .i64 x.pos) ∧ (stps (l ++ [x]))[l.length * 3 + 1]? = some (.int .i64 x.len) ∧ (stps (l ++ [x])).set (l.length * 3 + 1) (.int .i64 y) = stps (l ++ [⟨x.pos, y, x.text⟩]) := by
  have h : ∀ z : Stp, stps (l ++ [z]) = stps l ++ [.int .i64 z.pos, .int .i64 z.len, .string z.text] := fun z => by rw [stps_append]; simp [stps, Stp.cells]
  have hl := stps_length l
  refine ⟨?_, ?_, ?_⟩
  · rw [h, List.getElem?_append_right (by omega), hl, Nat.sub_self]; rfl
  · rw [h, List.getElem?_append_right (by omega), hl, Nat.add_sub_cancel_left]; rfl
  · rw [h, h, List.set_append_right _ _ (by omega), hl, Nat.add_sub_cancel_left]; rfl
/-- The last step is longer. -/
theorem MakerAt.longer {w : World} {B m g cap k K : Nat} {l : List Stp} {x : Stp} {t : ByteArray} {tv : Value} (h : MakerAt w B m (l ++ [x]) t (.slice (some ⟨g, 0, none⟩) K cap) tv) (y : Int) (hk : k = l.length) (hK : K = k + 1) :
    MakerAt (w.setCell ⟨g, k * 3 + 1, none⟩ (.int .i64 y)) B m (l ++ [⟨x.pos, y, x.text⟩]) t (.slice (some ⟨g, 0, none⟩) K cap) tv ∧
    Mods (fun j => B ≤ j ∨ j = m) w (w.setCell ⟨g, k * 3 + 1, none⟩ (.int .i64 y)) := by
  subst hK
  subst hk
  have hs := (Mods.refl (fun j => j = g) w).setCell ⟨g, l.length * 3 + 1, none⟩ (fun _ => rfl) (.int .i64 y)
  have hgB := h.steps.lt g rfl
  refine ⟨⟨Nat.le_trans h.base hs.size, hs.row h.row (fun e => h.ne.1 (by rw [e]; rfl)), ?_, h.text.mods hs (fun k hk e => h.sep k hk (by rw [e]; rfl))⟩, hs.mono (fun k _ e => .inl (e ▸ hgB.1))⟩
  have ho := h.steps
  have hl : (l ++ [x]).length = l.length + 1 := by simp
  rw [hl] at ho
  have h2 := owns_set ho (j := l.length * 3 + 1) (.int .i64 y)
  rw [(last_cells l x y).2.2] at h2
  have hl2 : (l ++ [(⟨x.pos, y, x.text⟩ : Stp)]).length = l.length + 1 := by simp
  rw [hl2]
  exact h2
theorem wpList_app3 {P : Program} {ops : Array Oper} {o : Oper} {a : Act} {Q : Exit → Act → World → Prop} {rest : List Oper} (wa : World) (hgd : o.guard = none) (s x : Operand) (t e : TypeId) (z : Value) (bytes : Nat)
    (ho : o.op = .call { callee := .builtin .append, args := #[s, x], argTypes := #[t, t] })
    (ht : P.underlying t = some (.slice e)) (hinfo : (P.info? e).map (fun i => (i.zero, i.size, i.bytes)) = some (some z, 3, bytes)) (hz : z.cells.size = 3)
    (v : Value) (n : Nat) (xs : List Value) (y0 y1 y2 : Value) (B : Nat) (hs : a.eval s = v) (hx : a.eval x = .slice (some ⟨B, 0, none⟩) 1 1) (hy0 : wa.cell? ⟨B, 0, none⟩ = some y0) (hy1 : wa.cell? ⟨B, 1, none⟩ = some y1) (hy2 : wa.cell? ⟨B, 2, none⟩ = some y2)
    (h0 : y0.oneCell' = true) (h1 : y1.oneCell' = true) (h2 : y2.oneCell' = true)
    (base : Nat) (HO : wa.ownsRow base e 3 v n xs) (hbase : base ≤ wa.heap.size) (hl : (n + 1) * bytes ≤ 140737488355328) (hn : n + 1 ≤ maxLen)
    (h : ∀ g cap w1, w1.ownsRow base e 3 (.slice (some ⟨g, 0, none⟩) (n + 1) cap) (n + 1) (xs ++ [y0, y1, y2]) → wa.grownBy w1 v.ownBlock → (v.ownBlock = some g ∨ wa.heap.size ≤ g) → wpList P ops Q rest (a.put o.dst (.slice (some ⟨g, 0, none⟩) (n + 1) cap)) w1) :
    wpList P ops Q (o :: rest) a wa := by
  refine wpList_step (fun K hK => ?_)
  exact step_app3 (E := K (a.put o.dst undef) wa) wa hgd s x t e z bytes ho ht hinfo hz v n xs y0 y1 y2 B hs hx hy0 hy1 hy2 h0 h1 h2 base HO hbase hl hn (fun g cap w1 h2 h3 h4 => hK _ _ (h g cap w1 h2 h3 h4))
set_option maxRecDepth 100000 in
set_option maxHeartbeats 4000000 in
theorem f111_calls (B m : Nat) (l : List Stp) (t : ByteArray) (sv tv : Value) (a n : Int) (w : World) (h : MakerAt w B m l t sv tv) (hb : l.length + t.size ≤ 1000000) (hin : ∀ x ∈ l, StpIn x) (ha : 0 ≤ a) (hn : 0 ≤ n) (han : a + n ≤ 524288) :
    Calls Try.prog 111 #[.pointer (some ⟨m, 0, none⟩), .int .i64 a, .int .i64 n] w fun e w' => ∃ sv' tv', e = .returned (.tuple #[]) ∧ MakerAt w' B m (cpy (l ++ chunks t) a n) ⟨#[]⟩ sv' tv' ∧ Mods (fun j => B ≤ j ∨ j = m) w w' := by
  have hin' : ∀ x ∈ l ++ chunks t, StpIn x := fun x hx => (List.mem_append.1 hx).elim (hin x) (chunks_in t x)
  have hb' : (l ++ chunks t).length ≤ 1000000 := by rw [List.length_append]; have := chunks_len t; omega
  have HC := Lib.hid (f138_calls B m l t sv tv w h (by omega))
  clear hin h hb
  generalize l ++ chunks t = L at *
  go_enter Try.func111, Try.ntmps111
  go_wp2_with fail
  refine HC.out.mono ?_; rintro e w1 ⟨sv1, tv1, rfl, hM1, hm1⟩
  have HM1 := Lib.hid hM1
  have HMM1 := Lib.hid hm1
  clear hM1 hm1 HC
  obtain ⟨A, c, hA, _, _, hrd, _⟩ := Rd.of_owns HM1.out.steps
  subst hA
  obtain ⟨K, hK⟩ : ∃ K, K = L.length := ⟨_, rfl⟩
  rw [← hK] at HM1 hb'
  obtain ⟨m0, m1, mf⟩ := cells2 HM1.out.row
  have HKL := Lib.hid hK
  clear hK
  rcases List.eq_nil_or_concat L with hL | ⟨L0, x, hL⟩
  · have hK0 : K = 0 := by rw [HKL.out, hL]; rfl
    have hki : (K : Int) - 1 = -1 := by omega
    clear hK0
    have HR : Hid (cpy L a n = L ++ [⟨a, n, ⟨#[]⟩⟩]) := by unfold Hid; rw [hL]; rfl
    clear hL
    go_upto_region 2 with fail
    go_quiet (fail)
    generalize HW2 : w1.drewN nq = w2
    have HNQ : Hid (Mods Nope w1 w2) := by unfold Hid; rw [← HW2]; exact (Mods.refl _ _).drewN _
    have HM2 := Lib.hid (HM1.out.mods HNQ.out (fun _ _ _ h => h))
    have HMM2 := Lib.hid (HMM1.out.trans (HNQ.out.any _))
    clear HW2 m0 m1 mf HM1
    obtain ⟨m0, m1, mf⟩ := cells2 HM2.out.row
    have HO : Hid (w2.ownsRow B 117 3 (.slice A K c) L.length (stps L)) := HM2.out.steps
    have hBw := HM2.out.base
    go_wp2_with (at_builtin; refine wpList_app3 _ rfl _ _ 54 117 (.agg #[.int .i64 0, .int .i64 0, .string ⟨#[]⟩]) 32 rfl Try.underlying54 info117 rfl (.slice A K c) L.length (stps L) (.int .i64 a) (.int .i64 n) (.string ⟨#[]⟩) _ rfl rfl (by simp) (by simp) (by simp) rfl rfl rfl B (by exact ((Mods.refl Nope w2).alloc _).owns HO.out (fun _ _ h => h)) (by simp; omega) (by have := HKL.out; omega) (by have := HKL.out; unfold maxLen; omega) ?_)
    intro g3 cap3 w3 hown3 hg3 hat3
    have HADD := Lib.hid (HM2.out.addStep ⟨a, n, ⟨#[]⟩⟩ ((Mods.refl Nope w2).alloc _) hown3 hg3)
    have hcc : w3.cell? ⟨m, 0, none⟩ = some (.slice A K c) := by rw [row_cell HADD.out.2.1]; rfl
    have hff : w3.frozen? ⟨m, 0, none⟩ = false := row_frozen HADD.out.2.1 0
    clear hown3 hg3 hat3 m0 m1 mf
    go_wp2
    go_end0
    have e := HADD.out.1
    rw [← HR.out] at e
    exact ⟨_, _, rfl, e, HMM2.out.trans HADD.out.2.2⟩
  · rw [List.concat_eq_append] at hL
    have hKk : K = L0.length + 1 := by rw [HKL.out, hL]; simp
    obtain ⟨k, hk⟩ : ∃ k, k = L0.length := ⟨_, rfl⟩
    have HK := Lib.hid hk
    rw [← hk] at hKk
    have hki : (K : Int) - 1 = (k : Int) := by omega
    have HKk := Lib.hid hKk
    have hkK : (k : Int) < (K : Int) := by omega
    have hk0 : decide ((0 : Int) ≤ (k : Int)) = true := by simp
    have hx := hin' x (by rw [hL]; simp)
    obtain ⟨x0, x1, x2⟩ := hx
    obtain ⟨e1, e2, _⟩ := last_cells L0 x 0
    rw [← hL, ← hk] at e1 e2
    obtain ⟨g, off, hA, c1⟩ := hrd _ _ e1
    have hgo : off = 0 := by
      rcases HM1.out.steps.2 with ⟨hv, _⟩ | ⟨_, _, _, hv, _⟩
      · rw [hA] at hv; cases hv
      · rw [hA] at hv; cases hv; rfl
    subst hgo
    subst hA
    obtain ⟨_, _, hA, c2⟩ := hrd _ _ e2
    cases hA
    rw [Nat.zero_add] at c1 c2
    have hsum : x.pos + x.len ≤ 524288 := x2
    have HLL := Lib.hid hL
    clear e1 e2 hk hKk hL
    generalize hxp : x.pos = xp at *
    generalize hxl : x.len = xl at *
    by_cases q1 : 0 < xl
    · have hd1 : decide (0 < xl) = true := decide_eq_true q1
      by_cases q2 : xp + xl = a
      · have hd2 : (xp + xl == a) = true := by simp [q2]
        have HR : Hid (cpy L a n = L0 ++ [⟨x.pos, xl + n, x.text⟩]) := by unfold Hid; rw [HLL.out, cpy_snoc, hxp, hxl, if_pos ⟨q1, q2⟩]
        have HQ2 := Lib.hid q2
        clear q2
        go_upto_region 2 with fail
        go_quiet (fail)
        generalize HW2 : w1.drewN nq = w2
        have HNQ : Hid (Mods Nope w1 w2) := by unfold Hid; rw [← HW2]; exact (Mods.refl _ _).drewN _
        have HM2 := Lib.hid (HM1.out.mods HNQ.out (fun _ _ _ h => h))
        have HMM2 := Lib.hid (HMM1.out.trans (HNQ.out.any _))
        clear HW2 m0 m1 mf HM1
        obtain ⟨m0, m1, mf⟩ := cells2 HM2.out.row
        have c3 : w2.cell? ⟨g, k * 3 + 1, none⟩ = some (.int .i64 xl) := HNQ.out.cell c2 (fun h => h)
        have hgm : g < w2.heap.size := (HM2.out.steps.lt g rfl).2
        have hf3 : w2.frozen? ⟨g, k * 3 + 1, none⟩ = false := by
          rcases HM2.out.steps.2 with ⟨hv, _⟩ | ⟨_, _, _, hv, _, hg, _⟩
          · cases hv
          · cases hv; exact row_frozen hg _
        rw [HLL.out] at HM2
        have HLO := Lib.hid (HM2.out.longer (xl + n) HK.out HKk.out)
        have hxn : xl + n ≤ 524288 := by have := HQ2.out; omega
        go_wp2
        refine bodyPost_ret (results_none rfl _ _ _) rfl ?_
        have e := HLO.out.1
        rw [← HR.out] at e
        exact ⟨_, _, rfl, e, HMM2.out.trans HLO.out.2⟩
      · have hd2 : (xp + xl == a) = false := by simpa using q2
        have HR : Hid (cpy L a n = L ++ [⟨a, n, ⟨#[]⟩⟩]) := by unfold Hid; rw [HLL.out, cpy_snoc, hxp, hxl, if_neg (fun h => q2 h.2)]
        clear q2
        go_upto_region 2 with fail
        go_quiet (fail)
        generalize HW2 : w1.drewN nq = w2
        have HNQ : Hid (Mods Nope w1 w2) := by unfold Hid; rw [← HW2]; exact (Mods.refl _ _).drewN _
        have HM2 := Lib.hid (HM1.out.mods HNQ.out (fun _ _ _ h => h))
        have HMM2 := Lib.hid (HMM1.out.trans (HNQ.out.any _))
        clear HW2 m0 m1 mf HM1
        obtain ⟨m0, m1, mf⟩ := cells2 HM2.out.row
        have HO : Hid (w2.ownsRow B 117 3 (.slice (some ⟨g, 0, none⟩) K c) L.length (stps L)) := HM2.out.steps
        have hBw := HM2.out.base
        go_wp2_with (at_builtin; refine wpList_app3 _ rfl _ _ 54 117 (.agg #[.int .i64 0, .int .i64 0, .string ⟨#[]⟩]) 32 rfl Try.underlying54 info117 rfl (.slice (some ⟨g, 0, none⟩) K c) L.length (stps L) (.int .i64 a) (.int .i64 n) (.string ⟨#[]⟩) _ rfl rfl (by simp) (by simp) (by simp) rfl rfl rfl B (by exact ((Mods.refl Nope w2).alloc _).owns HO.out (fun _ _ h => h)) (by simp; omega) (by have := HKL.out; omega) (by have := HKL.out; unfold maxLen; omega) ?_)
        intro g3 cap3 w3 hown3 hg3 hat3
        have HADD := Lib.hid (HM2.out.addStep ⟨a, n, ⟨#[]⟩⟩ ((Mods.refl Nope w2).alloc _) hown3 hg3)
        have hcc : w3.cell? ⟨m, 0, none⟩ = some (.slice (some ⟨g, 0, none⟩) K c) := by rw [row_cell HADD.out.2.1]; rfl
        have hff : w3.frozen? ⟨m, 0, none⟩ = false := row_frozen HADD.out.2.1 0
        clear hown3 hg3 hat3 m0 m1 mf
        go_wp2
        go_end0
        have e := HADD.out.1
        rw [← HR.out] at e
        exact ⟨_, _, rfl, e, HMM2.out.trans HADD.out.2.2⟩
    · have hd1 : decide (0 < xl) = false := decide_eq_false q1
      have HR : Hid (cpy L a n = L ++ [⟨a, n, ⟨#[]⟩⟩]) := by unfold Hid; rw [HLL.out, cpy_snoc, hxp, hxl, if_neg (fun h => q1 h.1)]
      go_upto_region 2 with fail
      go_quiet (fail)
      generalize HW2 : w1.drewN nq = w2
      have HNQ : Hid (Mods Nope w1 w2) := by unfold Hid; rw [← HW2]; exact (Mods.refl _ _).drewN _
      have HM2 := Lib.hid (HM1.out.mods HNQ.out (fun _ _ _ h => h))
      have HMM2 := Lib.hid (HMM1.out.trans (HNQ.out.any _))
      clear HW2 m0 m1 mf HM1
      obtain ⟨m0, m1, mf⟩ := cells2 HM2.out.row
      have HO : Hid (w2.ownsRow B 117 3 (.slice (some ⟨g, 0, none⟩) K c) L.length (stps L)) := HM2.out.steps
      have hBw := HM2.out.base
      go_wp2_with (at_builtin; refine wpList_app3 _ rfl _ _ 54 117 (.agg #[.int .i64 0, .int .i64 0, .string ⟨#[]⟩]) 32 rfl Try.underlying54 info117 rfl (.slice (some ⟨g, 0, none⟩) K c) L.length (stps L) (.int .i64 a) (.int .i64 n) (.string ⟨#[]⟩) _ rfl rfl (by simp) (by simp) (by simp) rfl rfl rfl B (by exact ((Mods.refl Nope w2).alloc _).owns HO.out (fun _ _ h => h)) (by simp; omega) (by have := HKL.out; omega) (by have := HKL.out; unfold maxLen; omega) ?_)
      intro g3 cap3 w3 hown3 hg3 hat3
      have HADD := Lib.hid (HM2.out.addStep ⟨a, n, ⟨#[]⟩⟩ ((Mods.refl Nope w2).alloc _) hown3 hg3)
      have hcc : w3.cell? ⟨m, 0, none⟩ = some (.slice (some ⟨g, 0, none⟩) K c) := by rw [row_cell HADD.out.2.1]; rfl
      have hff : w3.frozen? ⟨m, 0, none⟩ = false := row_frozen HADD.out.2.1 0
      clear hown3 hg3 hat3 m0 m1 mf
      go_wp2
      go_end0
      have e := HADD.out.1
      rw [← HR.out] at e
      exact ⟨_, _, rfl, e, HMM2.out.trans HADD.out.2.2⟩
end Go.Proofs.Ytblhbbgkkijkfaa
