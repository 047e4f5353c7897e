/- barquelaw05.SignNobody, walked: a nil table. -/
import Derived.Test.YtblhbbgkkijkfaaC5
namespace Go.Proofs.Ytblhbbgkkijkfaa
open Go.RowKit Go.Maps
theorem f40_nil (x : Int) (w : World) : Calls Try.prog 40 #[.pointer none, .int .i64 x] w fun e w' => e = .returned (.slice none 0 0) ∧ w' = w := by
  go_enter Try.func40, Try.ntmps40
  go_wp2
  go_ret
  exact ⟨rfl, rfl⟩
theorem f41_nil (p : Value) (x : Int) (s : ByteArray) (y : Int) (w : World) : Calls Try.prog 41 #[.pointer none, p, .int .i64 x, .string s, .int .i64 y] w fun e w' => e = .returned (.int .i64 (-1)) ∧ w' = w := by
  go_enter Try.func41, Try.ntmps41
  go_wp2_with fail
  refine (f40_nil _ _).mono ?_; rintro e w1 ⟨rfl, rfl⟩
  go_wp2
  go_ret
  exact ⟨rfl, rfl⟩
theorem f42_nil (p : Value) (s : ByteArray) (w : World) : Calls Try.prog 42 #[.pointer none, p, .string s] w fun e w' => e = .returned (.bool false) ∧ w' = w := by
  go_enter Try.func42, Try.ntmps42
  go_wp2
  go_ret
  exact ⟨rfl, rfl⟩
theorem f43_nil (w : World) : Calls Try.prog 43 #[.pointer none] w fun e w' => e = .returned (.int .i64 0) ∧ w' = w := by
  go_enter Try.func43, Try.ntmps43
  go_wp2
  go_ret
  exact ⟨rfl, rfl⟩
theorem f44_nil (w : World) : Calls Try.prog 44 #[.pointer none] w fun e w' => e = .returned (.int .i64 0) ∧ w' = w := by
  go_enter Try.func44, Try.ntmps44
  go_wp2
  go_ret
  exact ⟨rfl, rfl⟩
theorem signNobody_walk (a0 : Int) (a1 : ByteArray) (_ : (Lit.int .i64 a0).wf = true) (_ : a1.size ≤ maxLen) (w : World) :
    Calls Try.prog 6 #[.int .i64 a0, .string a1] w fun e w' => e = .returned (.bool true) ∧ Mods Nope w w' := by
  go_enter Try.func6, Try.ntmps6
  go_wp2_with fail
  refine (f29_calls _).mono ?_; rintro e w1 ⟨b, mb, rfl, _, _, _, hm⟩
  go_wp2_with fail
  refine (f40_nil _ _).mono ?_; rintro e w1 ⟨rfl, rfl⟩
  go_wp2_with fail
  refine (f41_nil _ _ _ _ _).mono ?_; rintro e w1 ⟨rfl, rfl⟩
  go_wp2_with fail
  refine (f42_nil _ _ _).mono ?_; rintro e w1 ⟨rfl, rfl⟩
  go_wp2_with fail
  refine (f43_nil _).mono ?_; rintro e w1 ⟨rfl, rfl⟩
  go_wp2_with fail
  refine (f44_nil _).mono ?_; rintro e w1 ⟨rfl, rfl⟩
  go_wp2_with fail
  refine (f27_calls _).mono ?_; rintro e w2 ⟨rfl, hm2⟩
  go_wp2
  go_ret
  exact ⟨rfl, hm.trans hm2⟩
end Go.Proofs.Ytblhbbgkkijkfaa
