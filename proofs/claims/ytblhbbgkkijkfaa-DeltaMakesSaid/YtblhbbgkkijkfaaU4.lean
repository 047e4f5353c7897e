/- barqueref06.Steps, walked. -/
import Derived.Test.YtblhbbgkkijkfaaKA
import Derived.Test.YtblhbbgkkijkfaaU5
namespace Go.Proofs.Ytblhbbgkkijkfaa
open Go.RowKit Go.Maps
set_option maxRecDepth 100000 in
set_option maxHeartbeats 4000000 in
theorem f63_calls (A A' : Option Addr) (n c n' c' : Nat) (l l' : List Stp) (w : World) (hn : l.length = n) (hn' : l'.length = n') (h : Rd w A (stps l)) (h' : Rd w A' (stps l')) (hl : l.length ≤ 1000000000) (hl' : l'.length ≤ 1000000000) :
    Calls Try.prog 63 #[.slice A n c, .slice A' n' c'] w fun e w' => e = .returned (.bool (decide (l = l'))) ∧ Mods Nope w w' := by
  subst hn
  subst hn'
  have HR := Lib.hid h
  have HR' := Lib.hid h'
  obtain ⟨R, hRR⟩ : ∃ R, R = decide (l = l') := ⟨_, rfl⟩
  have HRR := Lib.hid hRR
  rw [← hRR]
  clear h h' hRR
  go_enter Try.func63, Try.ntmps63
  by_cases hne : l.length = l'.length
  rotate_left
  · have hd : ((l.length : Int) != (l'.length : Int)) = true := by simp; omega
    have HF : Hid (R = false) := by unfold Hid; rw [HRR.out, decide_eq_false (fun e => hne (by rw [e]))]
    have HQ := Lib.hid hne
    clear hne
    go_wp2
    go_ret
    exact ⟨ret_bool HF.out.symm, Mods.refl _ _⟩
  · have hd : ((l.length : Int) != (l'.length : Int)) = false := by simp; omega
    have HQ := Lib.hid hne
    clear hne
    go_wp2_with fail
    go_loopg [5] l.length (fun gk iv wr => ∃ k : Nat, k ≤ l.length ∧ gk = l.length - k ∧ iv = .int .i64 k ∧ l.take k = l'.take k ∧ Mods Nope w wr)
    case atStart => exact ⟨0, Nat.zero_le _, rfl, rfl, rfl, Mods.refl _ _⟩
    case round =>
      obtain ⟨k, hk, hgk, rfl, ht, hm⟩ := hrel
      have HM := Lib.hid hm
      have HT := Lib.hid ht
      clear hm ht
      by_cases hlt : k < l.length
      · have hlt' : k < l'.length := by have := HQ.out; omega
        obtain ⟨g, off, e, c0, c1, c2⟩ := stp_at (HR.out.below HM.out) hlt
        subst e
        obtain ⟨g2, off2, e, d0, d1, d2⟩ := stp_at (HR'.out.below HM.out) hlt'
        subst e
        have hk1 : (k : Int) < (l.length : Int) := by omega
        have hk2 : (k : Int) < (l'.length : Int) := by omega
        have HX : Hid (l[k] = l'[k] → l.take (k + 1) = l'.take (k + 1)) := by
          intro e
          rw [List.take_succ_eq_append_getElem hlt, List.take_succ_eq_append_getElem hlt', HT.out, e]
        have HNX : Hid (l[k] ≠ l'[k] → l ≠ l') := by
          intro e e2
          subst e2
          exact e rfl
        generalize l[k] = x at *
        generalize l'[k] = y at *
        obtain ⟨x0, x1, x2⟩ := x
        obtain ⟨y0, y1, y2⟩ := y
        dsimp only at *
        have ht117 : Try.prog.underlying 117 = some (.struct (Try.prog.fieldsOf 117)) := by kernel_rfl
        have hp117 : Try.prog.stoodInHeld 117 = false := by kernel_rfl
        have hg117 : Try.prog.eqGuardType Try.prog.depth 117 = false := by kernel_rfl
        by_cases hxy : x0 = y0 ∧ x1 = y1 ∧ x2 = y2
        · obtain ⟨rfl, rfl, rfl⟩ := hxy
          have s1 : (x0 == x0) = true := by simp
          have s2 : (x1 == x1) = true := by simp
          have s3 : (x2.toList == x2.toList) = true := str_eq rfl
          have hcmp : ∀ wx : World, (Op.equalIn 10000 117 (.agg #[.int .i64 x0, .int .i64 x1, .string x2]) (.agg #[.int .i64 x0, .int .i64 x1, .string x2])).run Try.prog wx = .ok true wx := fun wx => by rw [cmp117, s1, s2, s3]; rfl
          go_upto_region 6 with fail
          go_quiet (fail)
          go_wp2_with fail
          go_roundg (l.length - (k + 1))
          case measure => omega
          case rel => exact ⟨k + 1, hlt, rfl, by go_num, HX.out trivial, HM.out.drewN _⟩
        · have hcmp : ∀ wx : World, (Op.equalIn 10000 117 (.agg #[.int .i64 x0, .int .i64 x1, .string x2]) (.agg #[.int .i64 y0, .int .i64 y1, .string y2])).run Try.prog wx = .ok false wx := fun wx => by
            rw [cmp117]
            congr 1
            rw [Bool.eq_false_iff]
            intro hc
            simp only [Bool.and_eq_true, beq_iff_eq] at hc
            obtain ⟨⟨e0, e1⟩, e2⟩ := hc
            exact hxy ⟨e0, e1, by
              by_cases h2 : x2 = y2
              · exact h2
              · have := str_ne h2
                rw [e2] at this
                simp at this⟩
          have HF : Hid (R = false) := by
            unfold Hid
            rw [HRR.out, decide_eq_false (HNX.out (fun e => hxy (by injection e with e0 e1 e2; exact ⟨e0, e1, e2⟩)))]
          clear hxy
          go_upto_region 6 with fail
          go_quiet (fail)
          go_wp2
          go_ret
          exact ⟨ret_bool HF.out.symm, HM.out.drewN _⟩
      · have HF : Hid (R = true) := by
          unfold Hid
          rw [HRR.out, decide_eq_true_eq]
          have h1 := HT.out
          rw [List.take_of_length_le (by omega), List.take_of_length_le (by have := HQ.out; omega)] at h1
          exact h1
        go_wp2
        go_ret
        exact ⟨ret_bool HF.out.symm, HM.out⟩
end Go.Proofs.Ytblhbbgkkijkfaa
