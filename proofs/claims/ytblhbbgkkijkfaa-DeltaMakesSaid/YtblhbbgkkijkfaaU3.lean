/- barqueref06.Copy, walked. -/
import Derived.Test.YtblhbbgkkijkfaaU1
namespace Go.Proofs.Ytblhbbgkkijkfaa
open Go.RowKit Go.Maps
/-- A step is a text or a copy. -/
def Fine (x : Stp) : Prop := (x.text.size = 0 ↔ 0 < x.len) ∧ StpIn x
theorem steps_longer {w : World} {B g cap k K : Nat} {l : List Stp} {x : Stp} (h : w.ownsRow B 117 3 (.slice (some ⟨g, 0, none⟩) K cap) K (stps (l ++ [x]))) (y : Int) (hk : k = l.length) :
    (w.setCell ⟨g, k * 3 + 1, none⟩ (.int .i64 y)).ownsRow B 117 3 (.slice (some ⟨g, 0, none⟩) K cap) K (stps (l ++ [⟨x.pos, y, x.text⟩])) ∧ Mods (OfT 117 B w) w (w.setCell ⟨g, k * 3 + 1, none⟩ (.int .i64 y)) := by
  subst hk
  have h2 := owns_set h (j := l.length * 3 + 1) (.int .i64 y)
  rw [(last_cells l x y).2.2] at h2
  exact ⟨h2, ((Mods.refl (OfT 117 B w) w).setCell ⟨g, l.length * 3 + 1, none⟩ (fun _ => OfT.own h rfl) _)⟩
set_option maxRecDepth 100000 in
set_option maxHeartbeats 4000000 in
theorem f116_calls (B : Nat) (A : Option Addr) (c K : Nat) (L : List Stp) (a n : Int) (w : World) (hn : L.length = K) (hB : B ≤ w.heap.size) (h : w.ownsRow B 117 3 (.slice A K c) K (stps L)) (hb' : K ≤ 1000000) (hin' : ∀ x ∈ L, Fine x) (ha : 0 ≤ a) (hn0 : 0 ≤ n) (han : a + n ≤ 524288) :
    Calls Try.prog 116 #[.slice A K c, .int .i64 a, .int .i64 n] w (StepsPost B (cpy L a n) w) := by
  suffices H : Calls Try.prog 116 #[.slice A K c, .int .i64 a, .int .i64 n] w (fun e w' => ∃ A' c', e = .returned (.slice A' (cpy L a n).length c') ∧ w'.ownsRow B 117 3 (.slice A' (cpy L a n).length c') (cpy L a n).length (stps (cpy L a n)) ∧ Mods (OfT 117 B w) w w') from
    H.mono fun e w' ⟨A, c, h1, h2, h3⟩ => ⟨⟨A, c, h1, h2⟩, h3⟩
  have HO := Lib.hid h
  have HBW := Lib.hid hB
  have HKL := Lib.hid hn
  have hrd : Rd w A (stps L) := by
    obtain ⟨A2, c2, hA, _, _, hr, _⟩ := Rd.of_owns h
    cases hA
    exact hr
  generalize HRR : cpy L a n = R
  have HR := Lib.hid HRR
  clear HRR hB
  rcases List.eq_nil_or_concat L with hL | ⟨L0, x, hL⟩
  · have hki : (K : Int) - 1 = -1 := by rw [← hn, hL]; rfl
    have HRX : Hid (R = L ++ [⟨a, n, ⟨#[]⟩⟩]) := by unfold Hid; rw [← HR.out, hL]; rfl
    clear hL hn h hrd
    go_enter Try.func116, Try.ntmps116
    go_upto_region 2 with fail
    go_quiet (fail)
    generalize HW2 : w.drewN nq = w2
    have HNQ : Hid (Mods Nope w w2) := by unfold Hid; rw [← HW2]; exact (Mods.refl _ _).drewN _
    clear HW2
    have HOX : Hid (w2.ownsRow B 117 3 (.slice A K c) L.length (stps L)) := by rw [HKL.out]; exact HNQ.out.owns HO.out (fun _ _ h => h)
    have hBw : B ≤ w2.heap.size := Nat.le_trans HBW.out HNQ.out.size
    go_wp2_with (at_builtin; refine wpList_app3 _ rfl _ _ 54 117 (.agg #[.int .i64 0, .int .i64 0, .string ⟨#[]⟩]) 32 rfl Try.underlying54 info117 rfl (.slice A K c) L.length (stps L) (.int .i64 a) (.int .i64 n) (.string ⟨#[]⟩) _ rfl rfl (by simp) (by simp) (by simp) rfl rfl rfl B (by exact ((Mods.refl Nope w2).alloc _).owns HOX.out (fun _ _ h => h)) (by simp; omega) (by have := HKL.out; omega) (by have := HKL.out; unfold maxLen; omega) ?_)
    intro g3 cap3 w3 hown3 hg3 hat3
    obtain ⟨k1, k2⟩ := steps_add HOX.out ⟨a, n, ⟨#[]⟩⟩ ((Mods.refl Nope w2).alloc _) hown3 hg3
    have HK1 := Lib.hid k1
    have HK2 : Hid (Mods (OfT 117 B w) w w3) := OfT.trans (HNQ.out.any _) k2
    clear k1 k2 hown3 hg3 hat3
    go_wp2
    go_ret
    have e := HK1.out
    rw [← HRX.out] at e
    have hRL : R.length = L.length + 1 := by rw [HRX.out, List.length_append, List.length_singleton]
    rw [hRL] at e ⊢
    exact ⟨some ⟨g3, 0, none⟩, cap3, rfl, e, HK2.out⟩
  · rw [List.concat_eq_append] at hL
    have hKk : K = L0.length + 1 := by rw [← hn, hL]; simp
    obtain ⟨k, hk⟩ : ∃ k, k = L0.length := ⟨_, rfl⟩
    have HK := Lib.hid hk
    rw [← hk] at hKk
    have HKk := Lib.hid hKk
    have hki : (K : Int) - 1 = (k : Int) := by omega
    have hkK : (k : Int) < (K : Int) := by omega
    have hk0 : decide ((0 : Int) ≤ (k : Int)) = true := by simp
    obtain ⟨hf, hx⟩ := hin' x (by rw [hL]; simp)
    obtain ⟨x0, x1, x2⟩ := hx
    obtain ⟨e1, e2, _⟩ := last_cells L0 x 0
    have e3 : (stps (L0 ++ [x]))[k * 3 + 2]? = some (.string x.text) := by
      have h3 : stps (L0 ++ [x]) = stps L0 ++ [.int .i64 x.pos, .int .i64 x.len, .string x.text] := by rw [stps_append]; simp [stps, Stp.cells]
      have hl := stps_length L0
      rw [h3, hk, List.getElem?_append_right (by omega), hl, Nat.add_sub_cancel_left]; rfl
    rw [← hL, ← hk] at e1 e2
    rw [← hL] at e3
    obtain ⟨g, off, hA, c1⟩ := hrd _ _ e1
    have hgo : off = 0 := by
      rcases h.2 with ⟨hv, _⟩ | ⟨_, _, _, hv, _⟩
      · rw [hA] at hv; cases hv
      · rw [hA] at hv; cases hv; rfl
    subst hgo
    subst hA
    obtain ⟨_, _, hA, c2⟩ := hrd _ _ e2
    cases hA
    obtain ⟨_, _, hA, c3⟩ := hrd _ _ e3
    cases hA
    rw [Nat.zero_add] at c1 c2 c3
    have HLL := Lib.hid hL
    clear e1 e2 e3 hk hKk hL hn h hrd
    generalize hxp : x.pos = xp at *
    generalize hxl : x.len = xl at *
    generalize hxt : x.text = xt at *
    by_cases q1 : xt.size = 0
    · have hl0 := hf.1 q1
      have ht := empty_of_size' q1
      have he : (xt.toList == (⟨#[]⟩ : ByteArray).toList) = true := str_eq ht
      have hee : xt.toList.isEmpty = true := by rw [ht]; kernel_rfl
      by_cases q2 : xp + xl = a
      · have hd2 : (xp + xl == a) = true := by simp [q2]
        have HRX : Hid (R = L0 ++ [⟨x.pos, xl + n, x.text⟩]) := by unfold Hid; rw [← HR.out, HLL.out, cpy_snoc, hxp, hxl, if_pos ⟨hl0, q2⟩]
        have hxn : xl + n ≤ 524288 := by omega
        clear q2 ht q1
        go_enter Try.func116, Try.ntmps116
        go_upto_region 2 with fail
        go_quiet (fail)
        generalize HW2 : w.drewN nq = w2
        have HNQ : Hid (Mods Nope w w2) := by unfold Hid; rw [← HW2]; exact (Mods.refl _ _).drewN _
        clear HW2
        have c4 : w2.cell? ⟨g, k * 3 + 1, none⟩ = some (.int .i64 xl) := HNQ.out.cell c2 (fun h => h)
        have HO2 : Hid (w2.ownsRow B 117 3 (.slice (some ⟨g, 0, none⟩) K c) K (stps L)) := HNQ.out.owns HO.out (fun _ _ h => h)
        have hf3 : w2.frozen? ⟨g, k * 3 + 1, none⟩ = false := by
          rcases HO2.out.2 with ⟨hv, _⟩ | ⟨_, _, _, hv, _, hg, _⟩
          · cases hv
          · cases hv; exact row_frozen hg _
        rw [HLL.out] at HO2
        have HLO := Lib.hid (steps_longer HO2.out (xl + n) HK.out)
        go_wp2
        go_ret
        have e := HLO.out.1
        rw [← HRX.out] at e
        have hKR : R.length = K := by rw [HRX.out, List.length_append, List.length_singleton, HKk.out, HK.out]
        rw [hKR]
        exact ⟨some ⟨g, 0, none⟩, c, rfl, e, OfT.trans (HNQ.out.any _) HLO.out.2⟩
      · have hd2 : (xp + xl == a) = false := by simpa using q2
        have HRX : Hid (R = L ++ [⟨a, n, ⟨#[]⟩⟩]) := by unfold Hid; rw [← HR.out, HLL.out, cpy_snoc, hxp, hxl, if_neg (fun h => q2 h.2)]
        clear q2 ht q1
        go_enter Try.func116, Try.ntmps116
        go_upto_region 2 with fail
        go_quiet (fail)
        generalize HW2 : w.drewN nq = w2
        have HNQ : Hid (Mods Nope w w2) := by unfold Hid; rw [← HW2]; exact (Mods.refl _ _).drewN _
        clear HW2
        have HOX : Hid (w2.ownsRow B 117 3 (.slice (some ⟨g, 0, none⟩) K c) L.length (stps L)) := by rw [HKL.out]; exact HNQ.out.owns HO.out (fun _ _ h => h)
        have hBw : B ≤ w2.heap.size := Nat.le_trans HBW.out HNQ.out.size
        go_wp2_with (at_builtin; refine wpList_app3 _ rfl _ _ 54 117 (.agg #[.int .i64 0, .int .i64 0, .string ⟨#[]⟩]) 32 rfl Try.underlying54 info117 rfl (.slice (some ⟨g, 0, none⟩) K c) L.length (stps L) (.int .i64 a) (.int .i64 n) (.string ⟨#[]⟩) _ rfl rfl (by simp) (by simp) (by simp) rfl rfl rfl B (by exact ((Mods.refl Nope w2).alloc _).owns HOX.out (fun _ _ h => h)) (by simp; omega) (by have := HKL.out; omega) (by have := HKL.out; unfold maxLen; omega) ?_)
        intro g3 cap3 w3 hown3 hg3 hat3
        obtain ⟨k1, k2⟩ := steps_add HOX.out ⟨a, n, ⟨#[]⟩⟩ ((Mods.refl Nope w2).alloc _) hown3 hg3
        have HK1 := Lib.hid k1
        have HK2 : Hid (Mods (OfT 117 B w) w w3) := OfT.trans (HNQ.out.any _) k2
        clear k1 k2 hown3 hg3 hat3
        go_wp2
        go_ret
        have e := HK1.out
        rw [← HRX.out] at e
        have hRL : R.length = L.length + 1 := by rw [HRX.out, List.length_append, List.length_singleton]
        rw [hRL] at e ⊢
        exact ⟨some ⟨g3, 0, none⟩, cap3, rfl, e, HK2.out⟩
    · have he : (xt.toList == (⟨#[]⟩ : ByteArray).toList) = false := str_ne (fun e => q1 (by rw [e]; rfl))
      have hee : xt.toList.isEmpty = false := toList_empty' q1
      have HRX : Hid (R = L ++ [⟨a, n, ⟨#[]⟩⟩]) := by unfold Hid; rw [← HR.out, HLL.out, cpy_snoc, hxp, hxl, if_neg (fun h => q1 (hf.2 h.1))]
      clear q1
      go_enter Try.func116, Try.ntmps116
      go_upto_region 2 with fail
      go_quiet (fail)
      generalize HW2 : w.drewN nq = w2
      have HNQ : Hid (Mods Nope w w2) := by unfold Hid; rw [← HW2]; exact (Mods.refl _ _).drewN _
      clear HW2
      have HOX : Hid (w2.ownsRow B 117 3 (.slice (some ⟨g, 0, none⟩) K c) L.length (stps L)) := by rw [HKL.out]; exact HNQ.out.owns HO.out (fun _ _ h => h)
      have hBw : B ≤ w2.heap.size := Nat.le_trans HBW.out HNQ.out.size
      go_wp2_with (at_builtin; refine wpList_app3 _ rfl _ _ 54 117 (.agg #[.int .i64 0, .int .i64 0, .string ⟨#[]⟩]) 32 rfl Try.underlying54 info117 rfl (.slice (some ⟨g, 0, none⟩) K c) L.length (stps L) (.int .i64 a) (.int .i64 n) (.string ⟨#[]⟩) _ rfl rfl (by simp) (by simp) (by simp) rfl rfl rfl B (by exact ((Mods.refl Nope w2).alloc _).owns HOX.out (fun _ _ h => h)) (by simp; omega) (by have := HKL.out; omega) (by have := HKL.out; unfold maxLen; omega) ?_)
      intro g3 cap3 w3 hown3 hg3 hat3
      obtain ⟨k1, k2⟩ := steps_add HOX.out ⟨a, n, ⟨#[]⟩⟩ ((Mods.refl Nope w2).alloc _) hown3 hg3
      have HK1 := Lib.hid k1
      have HK2 : Hid (Mods (OfT 117 B w) w w3) := OfT.trans (HNQ.out.any _) k2
      clear k1 k2 hown3 hg3 hat3
      go_wp2
      go_ret
      have e := HK1.out
      rw [← HRX.out] at e
      have hRL : R.length = L.length + 1 := by rw [HRX.out, List.length_append, List.length_singleton]
      rw [hRL] at e ⊢
      exact ⟨some ⟨g3, 0, none⟩, cap3, rfl, e, HK2.out⟩
end Go.Proofs.Ytblhbbgkkijkfaa
