/- barquelaw05.SignBlocks, walked. -/
import Derived.Test.YtblhbbgkkijkfaaC5
namespace Go.Proofs.Ytblhbbgkkijkfaa
open Go.RowKit Go.Maps
theorem signBlocks_walk (a0 : Int) (_ : (Lit.int .i64 a0).wf = true) (w : World) :
    Calls Try.prog 3 #[.int .i64 a0] w fun e w' => e = .returned (.bool true) ∧ Mods Nope w w' := by
  obtain ⟨hr1, hr2⟩ := sblk_range a0
  have hq : (sblk a0 == sblk a0) = true := by simp
  go_enter Try.func3, Try.ntmps3
  go_wp2_with fail
  refine (f25_calls _ _).mono ?_; rintro e w1 ⟨rfl, rfl⟩
  go_wp2_with fail
  refine (f26_calls _ _).mono ?_; rintro e w1 ⟨rfl, rfl⟩
  go_wp2_with fail
  refine (f27_calls _).mono ?_; rintro e w1 ⟨rfl, hm⟩
  go_wp2
  go_ret
  exact ⟨rfl, hm⟩
end Go.Proofs.Ytblhbbgkkijkfaa
