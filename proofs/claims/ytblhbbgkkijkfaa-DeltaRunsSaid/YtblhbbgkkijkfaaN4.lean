/- (*sign.Table).Find, Size, Block; barqueref05.Find, walked. -/
import Derived.Test.YtblhbbgkkijkfaaFP
namespace Go.Proofs.Ytblhbbgkkijkfaa
open Go.RowKit Go.Maps
theorem f43_calls (B T : Nat) (blk size : Int) (ws : List Int) (ms : List ByteArray) (bs : List Int) (wv sv kv bv : Value) (w : World) (h : Tbl w B T blk size ws ms bs wv sv kv bv) :
    Calls Try.prog 43 #[.pointer (some ⟨T, 0, none⟩)] w fun e w' => e = .returned (.int .i64 size) ∧ w' = w := by
  obtain ⟨c0, c1, _⟩ := cells6 h.row
  clear h
  go_enter Try.func43, Try.ntmps43
  go_wp2
  go_ret
  exact ⟨rfl, rfl⟩
theorem f44_calls (B T : Nat) (blk size : Int) (ws : List Int) (ms : List ByteArray) (bs : List Int) (wv sv kv bv : Value) (w : World) (h : Tbl w B T blk size ws ms bs wv sv kv bv) :
    Calls Try.prog 44 #[.pointer (some ⟨T, 0, none⟩)] w fun e w' => e = .returned (.int .i64 blk) ∧ w' = w := by
  obtain ⟨c0, c1, _⟩ := cells6 h.row
  clear h
  go_enter Try.func44, Try.ntmps44
  go_wp2
  go_ret
  exact ⟨rfl, rfl⟩
theorem Tbl.nope {B T : Nat} {blk size : Int} {ws : List Int} {ms : List ByteArray} {bs : List Int} {wv sv kv bv : Value} {w w' : World} (h : Tbl w B T blk size ws ms bs wv sv kv bv) (hm : Mods Nope w w') : Tbl w' B T blk size ws ms bs wv sv kv bv :=
  ⟨h.base, hm.row h.row (fun h => h), hm.owns h.weak (fun _ _ h => h), hm.owns h.strong (fun _ _ h => h), hm.owns h.keys (fun _ _ h => h), hm.owns h.blocks (fun _ _ h => h)⟩
/-- A list that a call has made of numbers. -/
def IntsPost (xs : List Int) (w : World) (e : Ending) (w' : World) : Prop := ∃ v, e = .returned v ∧ w'.ownsRow w.heap.size 3 1 v xs.length (ints xs) ∧ Mods Nope w w'
theorem getD_int {l : List Int} {i : Nat} (h : i < l.length) : l.getD i 0 = l[i] := by simp [List.getD_eq_getElem?_getD, h]
set_option maxRecDepth 100000 in
set_option maxHeartbeats 4000000 in
theorem f40_calls (B T Q : Nat) (blk size : Int) (ws : List Int) (ms : List ByteArray) (bs : List Int) (wv sv kv bv : Value) (x : Int) (w : World) (h : Tbl w B T blk size ws ms bs wv sv kv bv) (hp : bs.Perm (rng Q)) (hs : bs.Pairwise (Rl ws)) (hQ : Q ≤ 524288) :
    Calls Try.prog 40 #[.pointer (some ⟨T, 0, none⟩), .int .i64 x] w (IntsPost (fnd ws Q x) w) := by
  have hbl : bs.length ≤ 524288 := by rw [hp.length_eq, rng_length]; exact hQ
  obtain ⟨Ak, ck, hkv, _, _, hrk, _⟩ := Rd.of_owns h.keys
  obtain ⟨Ab, cb, hbv, _, _, hrb, _⟩ := Rd.of_owns h.blocks
  subst hkv
  subst hbv
  obtain ⟨_, _, _, _, c4, c5, _⟩ := cells6 h.row
  have HP := Lib.hid hp
  have HS := Lib.hid hs
  have HT := Lib.hid h
  have HRK := Lib.hid hrk
  have HRB := Lib.hid hrb
  clear h hp hs hrk hrb
  go_enter Try.func40, Try.ntmps40
  go_wp2_with fail
  refine (f87_calls Ak bs.length ck (bs.map (kw ws)) x _ (List.length_map _) HRK.out (keys_mono HS.out) (by omega)).mono ?_; rintro e w1 ⟨a, f, rfl, hab, hlo, hhi, rfl⟩
  have HLO : Hid (∀ t, t < a → kw ws (bs.getD t 0) < x) := fun t ht => by have := hlo t ht; rwa [keys_at (by omega)] at this
  have HHI : Hid (∀ t, a ≤ t → t < bs.length → x ≤ kw ws (bs.getD t 0)) := fun t h1 h2 => by have := hhi t h1 (by rw [List.length_map]; exact h2); rw [keys_at h2] at this; omega
  clear hlo hhi
  go_wp2_with fail
  go_loopg [5, 7] (bs.length - a) (fun gk i v wr => ∃ k : Nat, a ≤ k ∧ k ≤ bs.length ∧ gk = bs.length - k ∧ i = .int .i64 (k : Nat) ∧ wr.ownsRow w1.heap.size 3 1 v (k - a) (ints ((bs.drop a).take (k - a))) ∧ (∀ t, a ≤ t → t < k → kw ws (bs.getD t 0) = x) ∧ Mods Nope w1 wr)
  case atStart => exact ⟨a, Nat.le_refl _, hab, rfl, rfl, by simp only [Nat.sub_self, List.take_zero]; exact World.ownsRow_nil _ _ _ _, fun t h1 h2 => by omega, Mods.refl _ _⟩
  case round =>
    obtain ⟨k, hak, hkb, rfl, rfl, hown, hmid, hM⟩ := hrel
    have HM := Lib.hid hM
    have HMID := Lib.hid hmid
    have HOW := Lib.hid hown
    have hT := HT.out.nope hM
    obtain ⟨_, _, _, _, d4, d5, _⟩ := cells6 hT.row
    have hrk := HRK.out.below hM
    have hrb := HRB.out.below hM
    have hz : w1.heap.size ≤ wr.heap.size := hM.size
    clear hM hmid hown hT
    by_cases hlt : k < bs.length
    · obtain ⟨g1, o1, hA1, hc1⟩ := hrk.int k (by rw [List.length_map]; exact hlt)
      obtain ⟨g2, o2, hA2, hc2⟩ := hrb.int k hlt
      rw [List.getElem_map] at hc1
      have HBK : Hid (bs.getD k 0 = bs[k]) := getD_int hlt
      have HTK : Hid ((bs.drop a).take (k + 1 - a) = (bs.drop a).take (k - a) ++ [bs[k]]) := by
        unfold Hid
        rw [show k + 1 - a = (k - a) + 1 by omega, List.take_succ_eq_append_getElem (by rw [List.length_drop]; omega)]
        congr 2
        rw [List.getElem_drop]
        congr 1
        omega
      have HX := Lib.hid (HHI.out k hak hlt)
      subst hA1
      subst hA2
      clear hrk hrb
      generalize bs[k] = y at *
      have hki : (k : Int) < (bs.length : Int) := by omega
      by_cases he : kw ws y = x
      · have hb : (kw ws y == x) = true := by simp [he]
        have HMID' : Hid (∀ t, a ≤ t → t < k + 1 → kw ws (bs.getD t 0) = x) := by
          intro t h1 h2
          rcases Nat.lt_or_ge t k with h3 | h3
          · exact HMID.out t h1 h3
          · obtain rfl : t = k := by omega
            rw [HBK.out]; exact he
        have HWI := Lib.hid (show (ints ((bs.drop a).take (k - a))).length = k - a by rw [ints_length, List.length_take, List.length_drop]; omega)
        have HO := Lib.hid (show wr.ownsRow w1.heap.size 3 1 u7 (ints ((bs.drop a).take (k - a))).length (ints ((bs.drop a).take (k - a))) by rw [HWI.out]; exact HOW.out)
        generalize kw ws y = z at *
        clear he
        go_wp2_with (at_builtin; refine wpList_app1 _ rfl _ _ 28 3 (.int .i64 0) 8 rfl Try.underlying28 info3 rfl (by decide) _ (ints ((bs.drop a).take (k - a))) (.int .i64 y) _ rfl rfl (by simp) rfl w1.heap.size (by exact HO.out.alloc _) (by simp; omega) (by rw [HWI.out]; omega) ?_)
        intro g cap w3 hown3 hg3 _
        rw [HWI.out] at hown3 ⊢
        have HO3 : Hid (w3.ownsRow w1.heap.size 3 1 (.slice (some ⟨g, 0, none⟩) (k - a + 1) cap) (k + 1 - a) (ints ((bs.drop a).take (k + 1 - a)))) := by
          unfold Hid
          rw [HTK.out, ints_append, show k + 1 - a = k - a + 1 by omega]
          exact hown3
        have HM3 : Hid (Mods Nope w1 w3) := (HM.out.alloc _).grown hg3 (fun j hj hl => by have := (HO.out.lt j hj).1; omega)
        clear hown3 hg3
        go_wp2_with fail
        go_roundg (bs.length - (k + 1))
        case measure => omega
        case rel => exact ⟨k + 1, by omega, hlt, rfl, by go_num, HO3.out, HMID'.out, HM3.out⟩
      · have hb : (kw ws y == x) = false := by simpa using he
        have HF : Hid ((bs.drop a).take (k - a) = fnd ws Q x) := by
          refine find_law HP.out HS.out hak HLO.out HMID.out (fun t h1 h2 => ?_)
          have h3 := Rl.mono HS.out h1 h2
          have h4 := HX.out
          rw [HBK.out] at h3 h4
          omega
        have HL : Hid ((fnd ws Q x).length = k - a) := by unfold Hid; rw [← HF.out, List.length_take, List.length_drop]; omega
        have HO : Hid (wr.ownsRow w1.heap.size 3 1 u7 (fnd ws Q x).length (ints (fnd ws Q x))) := by unfold Hid; rw [HL.out, ← HF.out]; exact HOW.out
        generalize kw ws y = z at *
        clear he
        go_wp2
        go_ret
        exact ⟨_, rfl, HO.out, HM.out⟩
    · obtain rfl : k = bs.length := by omega
      have HF : Hid ((bs.drop a).take (bs.length - a) = fnd ws Q x) := find_law HP.out HS.out hak HLO.out HMID.out (fun t h1 h2 => by omega)
      have HL : Hid ((fnd ws Q x).length = bs.length - a) := by unfold Hid; rw [← HF.out, List.length_take, List.length_drop]; omega
      have HO : Hid (wr.ownsRow w1.heap.size 3 1 u7 (fnd ws Q x).length (ints (fnd ws Q x))) := by unfold Hid; rw [HL.out, ← HF.out]; exact HOW.out
      clear hrk hrb
      go_wp2
      go_ret
      exact ⟨_, rfl, HO.out, HM.out⟩
end Go.Proofs.Ytblhbbgkkijkfaa
