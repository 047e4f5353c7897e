/- code.Num, barqueref01.Num: a number's bytes. -/
import Derived.Test.YtblhbbgkkijkfaaBL
namespace Go.Proofs.Ytblhbbgkkijkfaa
open Go.RowKit Go.Maps
/-- A number's bytes, seven bits at a time, the lowest first. -/
def numL (n : Nat) : List UInt8 := if n < 128 then [n.toUInt8] else (n % 128 + 128).toUInt8 :: numL (n / 128)
termination_by n
decreasing_by omega
theorem numL_lt {n : Nat} (h : n < 128) : numL n = [n.toUInt8] := by rw [numL, if_pos h]
theorem numL_ge {n : Nat} (h : ¬ n < 128) : numL n = (n % 128 + 128).toUInt8 :: numL (n / 128) := by rw [numL, if_neg h]
theorem low7 (x : Nat) (h1 : x < 2 ^ 62) : bits .or .i64 (bits .and .i64 (x : Int) 127) 128 = ((x % 128 + 128 : Nat) : Int) := by
  have hw : ∀ n : Int, 0 ≤ n → n < 2 ^ 62 → IntKind.i64.wrap n = n := by intro n h0 h1; rw [IntKind.wrap_i64]; omega
  have h := bits_mask .i64 62 (by decide) hw 7 (by decide) (x : Int) (by omega) (by exact_mod_cast h1)
  rw [show ((2 : Int) ^ 7 - 1) = 127 by decide] at h
  rw [h]
  have e : ((x : Int) % 2 ^ 7) = ((x % 128 : Nat) : Int) := by omega
  rw [e]
  have hn := bits_nat .i64 62 (by decide) hw (x % 128) 128 (by omega) (by decide)
  have hm := bits_nat .i64 62 (by decide) hw 128 (x % 128) (by decide) (by omega)
  have hj := bits_join .i64 62 (by decide) hw 7 128 ((x % 128 : Nat) : Int) (by decide) (by decide) (by decide) (by omega) (by omega) (by omega)
  have h1 := hn.2
  have h2 := hm.2
  rw [Nat.or_comm] at h1
  push_cast at *
  rw [h1, ← h2, hj]
  omega
theorem nums_str (l : List UInt8) : strOfNums (l.map fun b => (b.toNat : Int)) = ⟨l.toArray⟩ := by
  simp [strOfNums, Function.comp_def]
structure EncAt (n : Nat) (w wr : World) (n' : Nat) (v : Value) (l : List UInt8) : Prop where
  own : wr.ownsRow w.heap.size 5 1 v l.length (Lib.byteCells l)
  eq : l ++ numL n' = numL n
  mods : Mods Nope w wr
  len : l.length + n' ≤ n
set_option maxHeartbeats 1000000 in
theorem f83_calls (n : Nat) (w : World) (hn : n ≤ 1099511627776) :
    Calls Try.prog 83 #[.int .i64 n] w fun e w' => e = .returned (.tuple #[.string ⟨(numL n).toArray⟩, .int .i64 0]) ∧ Mods Nope w w' := by
  go_enter Try.func83, Try.ntmps83
  go_wp2_with fail
  go_loopg [0, 4] n (fun gk i v wr => ∃ n' l, gk = n' ∧ i = .int .i64 (n' : Nat) ∧ EncAt n w wr n' v l)
  case atStart => exact ⟨n, [], rfl, rfl, World.ownsRow_nil _ _ _ _, rfl, Mods.refl _ _, by simp⟩
  case round =>
    obtain ⟨n', l, hgk, rfl, hN⟩ := hrel
    cases hgk
    have hlen := hN.len
    obtain ⟨A, c, rfl, _, _, _, _⟩ := Rd.of_owns hN.own
    have HWL := Lib.hid (Lib.byteCells_length l)
    have HO := Lib.hid (show wr.ownsRow w.heap.size 5 1 (.slice A l.length c) (Lib.byteCells l).length (Lib.byteCells l) by rw [HWL.out]; exact hN.own)
    have HN := Lib.hid hN
    clear hN
    have hsz := HN.out.mods.size
    by_cases hlt : gk < 128
    · have hd : decide ((127 : Int) < (gk : Int)) = false := by simp; omega
      go_wp2_with (at_builtin; refine wpList_app1 _ rfl _ _ 89 5 (.int .u8 0) 1 rfl Try.underlying89 info5 rfl (by decide) _ (Lib.byteCells l) (.int .u8 (gk : Int)) _ rfl rfl (by simp) rfl w.heap.size (by exact HO.out.alloc _) (by simp; omega) (by rw [HWL.out]; omega) ?_)
      intro g cap w1 hown1 hg1 _
      rw [HWL.out] at hown1 ⊢
      have HM1 : Hid (Mods Nope w w1) := (HN.out.mods.alloc _).grown hg1 (fun k hk hlt => by have := (HO.out.lt k hk).1; omega)
      have hfin : l ++ [gk.toUInt8] = numL n := by rw [← HN.out.eq, numL_lt hlt]
      have HE := Lib.hid hfin
      have hcl : Lib.byteCells l ++ [Value.int .u8 (gk : Int)] = Lib.byteCells (numL n) := by
        rw [← hfin]
        simp [Lib.byteCells]
        omega
      have hnl : l.length + 1 = (numL n).length := by rw [← hfin]; simp
      rw [hcl, hnl] at hown1
      rw [hnl]
      clear hfin hcl hnl
      have hcv := run_convert_bytes_arg (P := Try.prog) w1 89 5 Try.underlying89 Try.underlying5 g 0 (numL n).length cap ((numL n).map fun b => (b.toNat : Int)) (by simp) (fun i hi => by
        have := hown1.cellAt i (by omega)
        rw [Nat.zero_add, this]
        simp [Lib.byteCells, hi]) 9 Try.underlying9
      rw [nums_str] at hcv
      clear hown1 hg1
      go_wp2
      go_ret2
      exact ⟨rfl, HM1.out⟩
    · have hd : decide ((127 : Int) < (gk : Int)) = true := by simp; omega
      have HBV : Hid ((bits BinOp.or IntKind.i64 (bits BinOp.and IntKind.i64 (gk : Int) 127) 128 % 256) = ((gk % 128 + 128).toUInt8.toNat : Nat)) := by
        unfold Hid
        rw [low7 gk (by omega)]
        simp
      go_wp2_with (at_builtin; refine wpList_app1 _ rfl _ _ 89 5 (.int .u8 0) 1 rfl Try.underlying89 info5 rfl (by decide) _ (Lib.byteCells l) (.int .u8 (bits BinOp.or IntKind.i64 (bits BinOp.and IntKind.i64 (gk : Int) 127) 128 % 256)) _ rfl rfl (by simp) rfl w.heap.size (by exact HO.out.alloc _) (by simp; omega) (by rw [HWL.out]; omega) ?_)
      intro g cap w1 hown1 hg1 _
      rw [HWL.out] at hown1 ⊢
      have HM1 : Hid (Mods Nope w w1) := (HN.out.mods.alloc _).grown hg1 (fun k hk hlt => by have := (HO.out.lt k hk).1; omega)
      have hN1 : EncAt n w w1 (gk / 128) (.slice (some ⟨g, 0, none⟩) (l.length + 1) cap) (l ++ [(gk % 128 + 128).toUInt8]) := by
        refine ⟨?_, ?_, HM1.out, ?_⟩
        · have hcl : Lib.byteCells (l ++ [(gk % 128 + 128).toUInt8]) = Lib.byteCells l ++ [Value.int .u8 (bits BinOp.or IntKind.i64 (bits BinOp.and IntKind.i64 (gk : Int) 127) 128 % 256)] := by
            rw [HBV.out]; simp [Lib.byteCells]
          rw [hcl, List.length_append]
          exact hown1
        · rw [← HN.out.eq, numL_ge hlt]; simp
        · simp; omega
      have HN1 := Lib.hid hN1
      clear hown1 hg1 hN1
      go_wp2_with fail
      go_roundg (gk / 128)
      case measure => omega
      case rel => exact ⟨gk / 128, _, rfl, by go_num, HN1.out⟩
set_option maxHeartbeats 1000000 in
theorem f125_calls (n : Nat) (w : World) (hn : n ≤ 1099511627776) :
    Calls Try.prog 125 #[.int .i64 n] w fun e w' => e = .returned (.tuple #[.string ⟨(numL n).toArray⟩, .int .i64 0]) ∧ Mods Nope w w' := by
  go_enter Try.func125, Try.ntmps125
  go_wp2_with fail
  go_loopg [0, 4] n (fun gk i v wr => ∃ n' l, gk = n' ∧ i = .int .i64 (n' : Nat) ∧ EncAt n w wr n' v l)
  case atStart => exact ⟨n, [], rfl, rfl, World.ownsRow_nil _ _ _ _, rfl, Mods.refl _ _, by simp⟩
  case round =>
    obtain ⟨n', l, hgk, rfl, hN⟩ := hrel
    cases hgk
    have hlen := hN.len
    obtain ⟨A, c, rfl, _, _, _, _⟩ := Rd.of_owns hN.own
    have HWL := Lib.hid (Lib.byteCells_length l)
    have HO := Lib.hid (show wr.ownsRow w.heap.size 5 1 (.slice A l.length c) (Lib.byteCells l).length (Lib.byteCells l) by rw [HWL.out]; exact hN.own)
    have HN := Lib.hid hN
    clear hN
    have hsz := HN.out.mods.size
    by_cases hlt : gk < 128
    · have hd : decide ((128 : Int) ≤ (gk : Int)) = false := by simp; omega
      go_wp2_with (at_builtin; refine wpList_app1 _ rfl _ _ 89 5 (.int .u8 0) 1 rfl Try.underlying89 info5 rfl (by decide) _ (Lib.byteCells l) (.int .u8 (gk : Int)) _ rfl rfl (by simp) rfl w.heap.size (by exact HO.out.alloc _) (by simp; omega) (by rw [HWL.out]; omega) ?_)
      intro g cap w1 hown1 hg1 _
      rw [HWL.out] at hown1 ⊢
      have HM1 : Hid (Mods Nope w w1) := (HN.out.mods.alloc _).grown hg1 (fun k hk hlt => by have := (HO.out.lt k hk).1; omega)
      have hfin : l ++ [gk.toUInt8] = numL n := by rw [← HN.out.eq, numL_lt hlt]
      have HE := Lib.hid hfin
      have hcl : Lib.byteCells l ++ [Value.int .u8 (gk : Int)] = Lib.byteCells (numL n) := by
        rw [← hfin]
        simp [Lib.byteCells]
        omega
      have hnl : l.length + 1 = (numL n).length := by rw [← hfin]; simp
      rw [hcl, hnl] at hown1
      rw [hnl]
      clear hfin hcl hnl
      have hcv := run_convert_bytes_arg (P := Try.prog) w1 89 5 Try.underlying89 Try.underlying5 g 0 (numL n).length cap ((numL n).map fun b => (b.toNat : Int)) (by simp) (fun i hi => by
        have := hown1.cellAt i (by omega)
        rw [Nat.zero_add, this]
        simp [Lib.byteCells, hi]) 9 Try.underlying9
      rw [nums_str] at hcv
      clear hown1 hg1
      go_wp2
      go_ret2
      exact ⟨rfl, HM1.out⟩
    · have hd : decide ((128 : Int) ≤ (gk : Int)) = true := by simp; omega
      have HBV : Hid (((gk : Int) % 128 + 128) = ((gk % 128 + 128).toUInt8.toNat : Nat)) := by
        unfold Hid
        simp <;> omega
      go_wp2_with (at_builtin; refine wpList_app1 _ rfl _ _ 89 5 (.int .u8 0) 1 rfl Try.underlying89 info5 rfl (by decide) _ (Lib.byteCells l) (.int .u8 ((gk : Int) % 128 + 128)) _ rfl rfl (by simp) rfl w.heap.size (by exact HO.out.alloc _) (by simp; omega) (by rw [HWL.out]; omega) ?_)
      intro g cap w1 hown1 hg1 _
      rw [HWL.out] at hown1 ⊢
      have HM1 : Hid (Mods Nope w w1) := (HN.out.mods.alloc _).grown hg1 (fun k hk hlt => by have := (HO.out.lt k hk).1; omega)
      have hN1 : EncAt n w w1 (gk / 128) (.slice (some ⟨g, 0, none⟩) (l.length + 1) cap) (l ++ [(gk % 128 + 128).toUInt8]) := by
        refine ⟨?_, ?_, HM1.out, ?_⟩
        · have hcl : Lib.byteCells (l ++ [(gk % 128 + 128).toUInt8]) = Lib.byteCells l ++ [Value.int .u8 ((gk : Int) % 128 + 128)] := by
            rw [HBV.out]; simp [Lib.byteCells]
          rw [hcl, List.length_append]
          exact hown1
        · rw [← HN.out.eq, numL_ge hlt]; simp
        · simp; omega
      have HN1 := Lib.hid hN1
      clear hown1 hg1 hN1
      go_wp2_with fail
      go_roundg (gk / 128)
      case measure => omega
      case rel => exact ⟨gk / 128, _, rfl, by go_num, HN1.out⟩
theorem f86_calls (n : Nat) (w : World) (hn : n ≤ 1099511627776) :
    Calls Try.prog 86 #[.int .i64 n] w fun e w' => e = .returned (.string ⟨(numL n).toArray⟩) ∧ Mods Nope w w' := by
  go_enter Try.func86, Try.ntmps86
  go_wp2_with fail
  refine (f125_calls n _ hn).mono ?_; rintro e w1 ⟨rfl, h1⟩
  go_wp2
  go_ret
  exact ⟨rfl, h1⟩
end Go.Proofs.Ytblhbbgkkijkfaa
