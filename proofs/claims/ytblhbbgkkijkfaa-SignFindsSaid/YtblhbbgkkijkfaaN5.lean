/- barqueref05.Find, walked. -/
import Derived.Test.YtblhbbgkkijkfaaN4
namespace Go.Proofs.Ytblhbbgkkijkfaa
open Go.RowKit Go.Maps
set_option maxRecDepth 100000 in
set_option maxHeartbeats 4000000 in
theorem f58_calls (b n : Nat) (A A' : Option Addr) (c c' l m : Nat) (ws : List Int) (x : Int) (w : World) (hl : ws.length = l) (hw : Rd w A (ints ws)) (hb : 16 ≤ b) (hn : n ≤ 524288) (hQ : n / b ≤ l) :
    Calls Try.prog 58 #[.agg #[.int .i64 b, .int .i64 n, .slice A l c, .slice A' m c'], .int .i64 x] w (IntsPost (fnd ws (n / b) x) w) := by
  have HW := Lib.hid hw
  have HNQ : Hid ((n : Int) / (b : Int) = ((n / b : Nat) : Int)) := by unfold Hid; exact (Int.natCast_ediv n b).symm
  have hdv1 : 0 ≤ (n : Int) / (b : Int) := by rw [HNQ.out]; exact Int.natCast_nonneg _
  have hdv2 : (n : Int) / (b : Int) ≤ 524288 := by rw [HNQ.out]; exact Int.le_trans (Int.ofNat_le.2 (Nat.div_le_self n b)) (by omega)
  have hq2 : n / b ≤ 524288 := Nat.le_trans (Nat.div_le_self n b) hn
  subst hl
  clear hw
  go_enter Try.func58, Try.ntmps58
  go_wp2_with fail
  have hr0 := heap_alloc_new w (.cells #[.int .i64 b, .int .i64 n, .slice A ws.length c, .slice A' m c'] 31)
  have HG := Lib.hid hr0
  have HMX : Hid (Mods Nope w (w.alloc (.cells #[.int .i64 b, .int .i64 n, .slice A ws.length c, .slice A' m c'] 31))) := (Mods.refl _ _).alloc _
  clear hr0
  obtain ⟨Q, hQ'⟩ : ∃ Q, Q = n / b := ⟨_, rfl⟩
  rw [← hQ'] at hQ hq2 ⊢
  have HQ := Lib.hid hQ'
  clear hQ'
  go_loopg [5, 6] Q (fun gk v i wr => ∃ k : Nat, k ≤ Q ∧ gk = Q - k ∧ i = .int .i64 (k : Nat) ∧ wr.ownsRow w.heap.size 3 1 v (fnd ws k x).length (ints (fnd ws k x)) ∧ wr.heap[w.heap.size]? = some (.cells #[.int .i64 b, .int .i64 n, .slice A ws.length c, .slice A' m c'] 31 (0, 0)) ∧ Mods Nope w wr)
  case atStart => exact ⟨0, by omega, by omega, rfl, World.ownsRow_nil _ _ _ _, HG.out, HMX.out⟩
  case round =>
    obtain ⟨k, hk, rfl, rfl, hown, hg, hM⟩ := hrel
    have HM := Lib.hid hM
    have HG1 := Lib.hid hg
    have HOW := Lib.hid hown
    obtain ⟨g0, g1, g2, g3⟩ := cells4 hg
    have hrw := HW.out.below hM
    have hz : w.heap.size ≤ wr.heap.size := hM.size
    have hfl := fnd_len ws k x
    clear hM hg hown
    by_cases hlt : k < Q
    · have HLT := Lib.hid hlt
      have hki : (k : Int) < (n : Int) / (b : Int) := by rw [HNQ.out, ← HQ.out]; omega
      obtain ⟨g', o', hA1, hc1⟩ := hrw.int k (by omega)
      have hkl : (k : Int) < (ws.length : Int) := by omega
      have hkw : ws[k] = kw ws (k : Int) := by
        have : k < ws.length := by omega
        simp [kw, this]
      rw [hkw] at hc1
      subst hA1
      have HSN := Lib.hid (fnd_snoc ws k x)
      clear hrw hkw
      by_cases he : kw ws (k : Int) = x
      · have hb2 : (kw ws (k : Int) == x) = true := by simp [he]
        have HF : Hid (fnd ws (k + 1) x = fnd ws k x ++ [(k : Int)]) := by unfold Hid; rw [HSN.out, if_pos he]
        have HWI := Lib.hid (ints_length (fnd ws k x))
        have HO := Lib.hid (show wr.ownsRow w.heap.size 3 1 u5 (ints (fnd ws k x)).length (ints (fnd ws k x)) by rw [ints_length]; exact HOW.out)
        generalize kw ws (k : Int) = z at *
        clear he
        go_wp2_with (at_builtin; refine wpList_app1 _ rfl _ _ 28 3 (.int .i64 0) 8 rfl Try.underlying28 info3 rfl (by decide) _ (ints (fnd ws k x)) (.int .i64 (k : Int)) _ rfl rfl (by simp) rfl w.heap.size (by exact HO.out.alloc _) (by simp; omega) (by rw [HWI.out]; omega) ?_)
        intro g cap w3 hown3 hg3 _
        have HO3 : Hid (w3.ownsRow w.heap.size 3 1 (.slice (some ⟨g, 0, none⟩) ((fnd ws k x).length + 1) cap) (fnd ws (k + 1) x).length (ints (fnd ws (k + 1) x))) := by
          unfold Hid
          rw [HF.out, ints_append, List.length_append]
          rw [HWI.out] at hown3
          exact hown3
        have HG3 := Lib.hid (grown_row hg3 (row_alloc HG1.out _) (own_ne_row HO.out HG1.out (by decide)))
        have HM3 : Hid (Mods Nope w w3) := (HM.out.alloc _).grown hg3 (fun j hj hl => by have := (HO.out.lt j hj).1; omega)
        rw [HWI.out]
        clear hown3 hg3
        go_wp2_with fail
        go_roundg (Q - (k + 1))
        case measure => have := HLT.out; omega
        case rel => exact ⟨k + 1, HLT.out, rfl, by go_num, HO3.out, HG3.out, HM3.out⟩
      · have hb2 : (kw ws (k : Int) == x) = false := by simpa using he
        have HF : Hid (fnd ws (k + 1) x = fnd ws k x) := by unfold Hid; rw [HSN.out, if_neg he, List.append_nil]
        generalize kw ws (k : Int) = z at *
        clear he
        go_wp2_with fail
        go_roundg (Q - (k + 1))
        case measure => have := HLT.out; omega
        case rel => exact ⟨k + 1, HLT.out, rfl, by go_num, by rw [HF.out]; exact HOW.out, HG1.out, HM.out⟩
    · obtain rfl : k = Q := by omega
      have hki : ¬ (k : Int) < (n : Int) / (b : Int) := by rw [HNQ.out, ← HQ.out]; omega
      clear hrw
      go_wp2
      go_ret
      refine ⟨_, rfl, ?_, HM.out⟩
      rw [← HQ.out]
      exact HOW.out
end Go.Proofs.Ytblhbbgkkijkfaa
