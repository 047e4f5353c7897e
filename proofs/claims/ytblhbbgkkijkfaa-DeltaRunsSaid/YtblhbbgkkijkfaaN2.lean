/- slices.BinarySearch at []int, (*sign.Table).Find, Size, Block, walked. -/
import Derived.Test.YtblhbbgkkijkfaaN1
import Derived.Test.YtblhbbgkkijkfaaTP
namespace Go.Proofs.Ytblhbbgkkijkfaa
open Go.RowKit Go.Maps
theorem f146_calls (x : Int) (w : World) : Calls Try.prog 146 #[.int .i64 x] w fun e w' => e = .returned (.bool false) ∧ w' = w := by
  have h : (x != x) = false := by simp
  go_enter Try.func146, Try.ntmps146
  go_wp2
  go_ret
  exact ⟨rfl, rfl⟩
theorem f127_calls (x : Int) (w : World) : Calls Try.prog 127 #[.int .i64 x] w fun e w' => e = .returned (.bool false) ∧ w' = w := by
  have h : (x != x) = false := by simp
  go_enter Try.func127, Try.ntmps127
  go_wp2
  go_ret
  exact ⟨rfl, rfl⟩
theorem f126_calls (x y : Int) (w : World) : Calls Try.prog 126 #[.int .i64 x, .int .i64 y] w fun e w' => e = .returned (.bool (decide (x < y))) ∧ w' = w := by
  go_enter Try.func126, Try.ntmps126
  go_wp2_with fail
  refine (f146_calls x _).mono ?_; rintro e w1 ⟨rfl, rfl⟩
  go_wp2
  go_ret
  exact ⟨rfl, rfl⟩
/-- All ahead of a place are less; none from it on. -/
def Lo (ws : List Int) (x : Int) (k : Nat) : Prop := ∀ t, t < k → ws.getD t 0 < x
def Hi (ws : List Int) (x : Int) (k : Nat) : Prop := ∀ t, k ≤ t → t < ws.length → ¬ ws.getD t 0 < x
def BsPost (n : Nat) (ws : List Int) (x : Int) (w : World) (e : Ending) (w' : World) : Prop :=
  ∃ (at_ : Nat) (f : Bool), e = .returned (.tuple #[.int .i64 (at_ : Nat), .bool f]) ∧ at_ ≤ n ∧ Lo ws x at_ ∧ Hi ws x at_ ∧ w' = w
set_option maxRecDepth 100000 in
set_option maxHeartbeats 2000000 in
theorem f87_calls (A : Option Addr) (n c : Nat) (ws : List Int) (x : Int) (w : World) (hl : ws.length = n) (hR : Rd w A (ints ws)) (hs : ∀ s t, s ≤ t → t < ws.length → ws.getD s 0 ≤ ws.getD t 0) (hn : n ≤ 1000000) :
    Calls Try.prog 87 #[.slice A n c, .int .i64 x] w (BsPost n ws x w) := by
  have HR := Lib.hid hR
  have HL := Lib.hid hl
  have HS := Lib.hid hs
  clear hR hl hs
  go_enter Try.func87, Try.ntmps87
  go_wp2_with fail
  go_loop [7, 8] (fun i j => ∃ s t : Nat, s ≤ t ∧ t ≤ n ∧ i = .int .i64 (s : Nat) ∧ j = .int .i64 (t : Nat) ∧ Lo ws x s ∧ Hi ws x t) (fun i j => (intOf j - intOf i).toNat)
  case atStart => exact ⟨0, n, by omega, by omega, rfl, rfl, fun k hk => by omega, fun k h1 h2 => by have := HL.out; omega⟩
  case round =>
    obtain ⟨s, t, hst, htn, rfl, rfl, h1, h2⟩ := hrel
    have H1 := Lib.hid h1
    have H2 := Lib.hid h2
    clear h1 h2
    by_cases hlt : s < t
    · obtain ⟨h, hh⟩ : ∃ h, h = (s + t) / 2 := ⟨_, rfl⟩
      have HE : Hid (((s : Int) + (t : Int)) / 2 = (h : Nat)) := by unfold Hid; omega
      have hs1 : s ≤ h := by omega
      have hs2 : h < t := by omega
      have hhl : h < ws.length := by have := HL.out; omega
      obtain ⟨bb, off, hA, hc⟩ := HR.out.int h hhl
      have hv : ws[h] = ws.getD h 0 := by simp [List.getD_eq_getElem?_getD, hhl]
      rw [hv] at hc
      have HLo : Hid (∀ k, k ≤ h → ws.getD k 0 ≤ ws.getD h 0) := fun k hk => HS.out k h hk hhl
      have HHi : Hid (∀ k, h ≤ k → k < ws.length → ws.getD h 0 ≤ ws.getD k 0) := fun k hk hkl => HS.out h k hk hkl
      have hhi : (h : Int) < (n : Int) := by omega
      subst hA
      clear hh hv hhl
      generalize ws.getD h 0 = y at *
      go_upto_region 5 with fail
      rw [HE.out]
      by_cases hy : y < x
      · have H1' : Hid (Lo ws x (h + 1)) := fun k hk => by have := HLo.out k (by omega); omega
        have hd : decide (y < x) = true := decide_eq_true hy
        go_wp2_with fail
        refine (f126_calls y x _).mono ?_; rintro e w1 ⟨rfl, rfl⟩
        go_wp2_with fail
        go_round
        case rel => exact ⟨h + 1, t, by omega, htn, by go_num, rfl, H1'.out, H2.out⟩
        case measure => simp [intOf]; omega
      · have H2' : Hid (Hi ws x h) := fun k hk hkl => by have := HHi.out k hk hkl; omega
        have hd : decide (y < x) = false := decide_eq_false hy
        go_wp2_with fail
        refine (f126_calls y x _).mono ?_; rintro e w1 ⟨rfl, rfl⟩
        go_wp2_with fail
        go_round
        case rel => exact ⟨s, h, hs1, by omega, rfl, rfl, H1.out, H2'.out⟩
        case measure => simp [intOf]; omega
    · obtain rfl : s = t := by omega
      by_cases hsn : s < n
      · have hhl : s < ws.length := by have := HL.out; omega
        obtain ⟨bb, off, hA, hc⟩ := HR.out.int s hhl
        have hhi : (s : Int) < (n : Int) := by omega
        subst hA
        by_cases hy : ws[s] = x
        · have hb : (ws[s] == x) = true := by simp [hy]
          generalize ws[s] = y at *
          clear hy
          go_wp2
          go_ret2
          exact ⟨s, true, rfl, htn, H1.out, H2.out, rfl⟩
        · have hb : (ws[s] == x) = false := by simpa using hy
          generalize ws[s] = y at *
          clear hy
          go_wp2_with fail
          refine (f127_calls y _).mono ?_; rintro e w1 ⟨rfl, rfl⟩
          go_wp2
          go_ret2
          exact ⟨s, false, rfl, htn, H1.out, H2.out, rfl⟩
      · have hhi : ¬ (s : Int) < (n : Int) := by omega
        go_wp2
        go_ret2
        exact ⟨s, false, rfl, htn, H1.out, H2.out, rfl⟩
end Go.Proofs.Ytblhbbgkkijkfaa
