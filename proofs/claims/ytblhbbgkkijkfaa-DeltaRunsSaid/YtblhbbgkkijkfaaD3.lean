/- barqueref05.Blocks, the laws' ints, walked. -/
import Derived.Test.YtblhbbgkkijkfaaD2
namespace Go.Proofs.Ytblhbbgkkijkfaa
open Go.RowKit Go.Maps
theorem cnt_iff (n b k : Nat) (hb : 0 < b) : k * b < n ↔ k < cnt n b := by
  obtain ⟨h1, h2⟩ := cnt_spec n b hb
  constructor
  · intro h
    rcases Nat.lt_or_ge k (cnt n b) with h3 | h3
    · exact h3
    · have := Nat.mul_le_mul_right b h3
      omega
  · exact h2 k
structure BlocksAt (s : ByteArray) (b : Nat) (w wr : World) (k : Nat) (v : Value) : Prop where
  own : wr.ownsRow w.heap.size 9 1 v k (strs (pcs s b k))
  mods : Mods Nope w wr
theorem BlocksAt.add {s : ByteArray} {b k : Nat} {w wr wx w1 : World} {v nv : Value} (h : BlocksAt s b w wr k v) (hm : Mods Nope wr wx) (hg : wx.grownBy w1 v.ownBlock)
    (ho : w1.ownsRow w.heap.size 9 1 nv (k + 1) (strs (pcs s b k) ++ [.string (pc s k b)])) : BlocksAt s b w w1 (k + 1) nv := by
  refine ⟨?_, ?_⟩
  · rw [pcs_snoc, strs_append]; exact ho
  · exact (h.mods.trans hm).grown hg (fun j hj hl => by have := (h.own.lt j hj).1; omega)
set_option maxRecDepth 100000 in
set_option maxHeartbeats 1000000 in
theorem f33_calls (s : ByteArray) (b : Nat) (w : World) (hs : s.size ≤ 524288) (h1 : 16 ≤ b) (h2 : b ≤ 1024) :
    Calls Try.prog 33 #[.string s, .int .i64 b] w fun e w' => ∃ v, e = .returned v ∧ w'.ownsRow w.heap.size 9 1 v (cnt s.size b) (strs (pcs s b (cnt s.size b))) ∧ Mods Nope w w' := by
  have HC := Lib.hid (show cnt s.size b ≤ 524288 from Nat.le_trans (cnt_le s.size b (by omega)) hs)
  go_enter Try.func33, Try.ntmps33
  go_wp2_with fail
  go_loopg [6, 5] (cnt s.size b) (fun gk i v wr => ∃ k : Nat, k ≤ cnt s.size b ∧ gk = cnt s.size b - k ∧ i = .int .i64 ((k * b : Nat) : Int) ∧ BlocksAt s b w wr k v)
  case atStart => exact ⟨0, by omega, by omega, by simp, World.ownsRow_nil _ _ _ _, Mods.refl _ _⟩
  case round =>
    obtain ⟨k, hk, rfl, rfl, hB⟩ := hrel
    have HB := Lib.hid hB
    have hiff := cnt_iff s.size b k (by omega)
    clear hB
    by_cases hlt : k * b < s.size
    · have HK : Hid (k < cnt s.size b) := hiff.1 hlt
      have HWL := Lib.hid (show (strs (pcs s b k)).length = k by rw [strs_length, pcs_length])
      have HO := Lib.hid (show wr.ownsRow w.heap.size 9 1 u5 (strs (pcs s b k)).length (strs (pcs s b k)) by rw [HWL.out]; exact HB.out.own)
      have hz : w.heap.size ≤ wr.heap.size := HB.out.mods.size
      have hle : k * b ≤ 524288 := by omega
      have HPC : Hid (pc s k b = s.extract (k * b) (min (k * b + b) s.size)) := by unfold Hid pc; rw [Nat.add_mul, Nat.one_mul]
      have HK1 : Hid ((((k + 1) * b : Nat) : Int) = ((k * b : Nat) : Int) + b) := by unfold Hid; rw [Nat.add_mul]; push_cast; omega
      clear hiff
      by_cases hend : k * b + b ≤ s.size
      · have HM : Hid (min (k * b + b) s.size = k * b + b) := by unfold Hid; omega
        generalize k * b = q at *
        go_wp2_with (at_builtin; refine wpList_app1 _ rfl _ _ 29 9 (.string ⟨#[]⟩) 16 rfl Try.underlying29 info9 rfl (by decide) _ (strs (pcs s b k)) (.string (s.extract q (q + b))) _ rfl rfl (by simp) rfl w.heap.size (by exact HO.out.alloc _) (by simp; omega) (by rw [HWL.out]; have := HC.out; have := HK.out; omega) ?_)
        intro g cap w1 hown1 hg1 _
        rw [HWL.out] at hown1 ⊢
        have HA := Lib.hid (HB.out.add ((Mods.refl _ _).alloc _) hg1 (by rw [HPC.out, HM.out]; exact hown1))
        clear hown1 hg1
        go_wp2_with fail
        go_roundg (cnt s.size b - (k + 1))
        case measure => have := HK.out; omega
        case rel => exact ⟨k + 1, HK.out, rfl, val_int HK1.out.symm, HA.out⟩
      · have HM : Hid (min (k * b + b) s.size = s.size) := by unfold Hid; omega
        generalize k * b = q at *
        go_wp2_with (at_builtin; refine wpList_app1 _ rfl _ _ 29 9 (.string ⟨#[]⟩) 16 rfl Try.underlying29 info9 rfl (by decide) _ (strs (pcs s b k)) (.string (s.extract q s.size)) _ rfl rfl (by simp) rfl w.heap.size (by exact HO.out.alloc _) (by simp; omega) (by rw [HWL.out]; have := HC.out; have := HK.out; omega) ?_)
        intro g cap w1 hown1 hg1 _
        rw [HWL.out] at hown1 ⊢
        have HA := Lib.hid (HB.out.add ((Mods.refl _ _).alloc _) hg1 (by rw [HPC.out, HM.out]; exact hown1))
        clear hown1 hg1
        go_wp2_with fail
        go_roundg (cnt s.size b - (k + 1))
        case measure => have := HK.out; omega
        case rel => exact ⟨k + 1, HK.out, rfl, val_int HK1.out.symm, HA.out⟩
    · obtain rfl : k = cnt s.size b := by
        have : ¬ k < cnt s.size b := fun h => hlt (hiff.2 h)
        omega
      clear hiff
      generalize cnt s.size b * b = q at *
      go_wp2
      go_ret
      exact ⟨_, rfl, HB.out.own, HB.out.mods⟩

/-! ### ints -/
def intsEq (xs ys : List Int) : Bool := decide (xs = ys)
set_option maxHeartbeats 1000000 in
theorem f32_calls (A B : Option Addr) (c d : Nat) (xs ys : List Int) (w : World) (hx : Rd w A (ints xs)) (hy : Rd w B (ints ys)) (hl : xs.length ≤ 1125899906842624) :
    Calls Try.prog 32 #[.slice A xs.length c, .slice B ys.length d] w fun e w' => e = .returned (.bool (intsEq xs ys)) ∧ ∃ n, w' = w.drewN n := by
  have HX := Lib.hid hx
  have HY := Lib.hid hy
  have HL := Lib.hid hl
  clear hx hy hl
  by_cases hlen : xs.length = ys.length
  · have HE := Lib.hid hlen
    have hb : (((xs.length : Nat) : Int) != ((ys.length : Nat) : Int)) = false := by simp [hlen]
    clear hlen
    go_enter Try.func32, Try.ntmps32
    go_wp2_with fail
    go_loopw [5] (fun i wr => ∃ k : Nat, k ≤ xs.length ∧ i = .int .i64 (k : Nat) ∧ xs.take k = ys.take k ∧ ∃ n, wr = w.drewN n) (fun i _ => xs.length - (intOf i).toNat)
    case atStart => exact ⟨0, Nat.zero_le _, rfl, by simp, 0, rfl⟩
    case round =>
      obtain ⟨k, hk, rfl, ht, n, rfl⟩ := hrel
      have HT := Lib.hid ht
      clear ht
      by_cases hlt : k < xs.length
      · have hlt2 : k < ys.length := by have := HE.out; omega
        obtain ⟨g, off, hA, hc⟩ := HX.out.int k hlt
        obtain ⟨g', off', hB, hc'⟩ := HY.out.int k hlt2
        have hki : (k : Int) ≤ 1125899906842624 := by have := HL.out; omega
        have b1 : (k : Int) < (xs.length : Int) := by omega
        have b2 : (k : Int) < (ys.length : Int) := by omega
        subst hA
        subst hB
        by_cases e : xs[k] = ys[k]
        · have HQ : Hid (xs.take (k + 1) = ys.take (k + 1)) := by
            unfold Hid
            rw [List.take_succ_eq_append_getElem hlt, List.take_succ_eq_append_getElem hlt2, HT.out, e]
          have hne : (xs[k] != ys[k]) = false := by simp [e]
          clear e
          go_upto_region 6 with fail
          go_quiet (fail)
          go_wp2
          go_roundw
          case rel => exact ⟨k + 1, by omega, by go_num, HQ.out, _, rfl⟩
          case measure => simp [intOf]; omega
        · have HQ : Hid (intsEq xs ys = false) := by
            unfold Hid intsEq
            rw [decide_eq_false_iff_not]
            rintro rfl
            exact e rfl
          have hne : (xs[k] != ys[k]) = true := by simp [e]
          clear e
          go_upto_region 6 with fail
          go_quiet (fail)
          go_wp2
          go_ret
          exact ⟨ret_bool HQ.out.symm, _, by first | rfl | exact World.drewN_drewN ..⟩
      · have HQ : Hid (intsEq xs ys = true) := by
          unfold Hid intsEq
          rw [decide_eq_true_eq]
          have h := HT.out
          rw [List.take_of_length_le (by omega), List.take_of_length_le (by have := HE.out; omega)] at h
          exact h
        go_wp2
        go_ret
        exact ⟨ret_bool HQ.out.symm, _, by first | rfl | exact World.drewN_drewN ..⟩
  · have HQ : Hid (intsEq xs ys = false) := by
      unfold Hid intsEq
      rw [decide_eq_false_iff_not]
      rintro rfl
      exact hlen rfl
    have hb : (((xs.length : Nat) : Int) != ((ys.length : Nat) : Int)) = true := by simp; omega
    clear hlen
    go_enter Try.func32, Try.ntmps32
    go_wp2
    go_ret
    exact ⟨ret_bool HQ.out.symm, 0, rfl⟩
end Go.Proofs.Ytblhbbgkkijkfaa
