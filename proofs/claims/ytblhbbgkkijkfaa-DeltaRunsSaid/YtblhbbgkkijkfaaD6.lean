/- Forms of contracts with the lengths as letters; barqueref05.Sign where the size of blocks may not be. -/
import Derived.Test.YtblhbbgkkijkfaaD5
namespace Go.Proofs.Ytblhbbgkkijkfaa
open Go.RowKit Go.Maps
theorem f32_at (A B : Option Addr) (c d l m : Nat) (xs ys : List Int) (w : World) (h1 : xs.length = l) (h2 : ys.length = m) (hx : Rd w A (ints xs)) (hy : Rd w B (ints ys)) (hl : l ≤ 1125899906842624) :
    Calls Try.prog 32 #[.slice A l c, .slice B m d] w fun e w' => e = .returned (.bool (intsEq xs ys)) ∧ Mods Nope w w' := by
  subst h1; subst h2
  exact (f32_calls A B c d xs ys w hx hy hl).mono fun e w' ⟨he, n, hn⟩ => ⟨he, by subst hn; exact (Mods.refl _ _).drewN n⟩
theorem f35_at (blk size : Int) (A A' : Option Addr) (c c' l m : Nat) (ws : List Int) (ms : List ByteArray) (w : World) (h1 : ws.length = l) (h2 : ms.length = m) (hw : Rd w A (ints ws)) (hs : Rd w A' (strs ms)) (hz : ∀ m ∈ ms, m.size ≤ maxLen) :
    Calls Try.prog 35 #[.agg #[.int .i64 blk, .int .i64 size, .slice A l c, .slice A' m c']] w fun e w' => e = .returned (.bool (sigB blk size ws ms)) ∧ Mods Nope w w' := by
  subst h1; subst h2
  exact f35_calls blk size A A' c c' ws ms w hw hs hz
theorem f31_err (p : Value) (s : ByteArray) (x : Int) (w : World) (h : fitsB x = false) :
    Calls Try.prog 31 #[p, .string s, .int .i64 x] w fun e w' => e = .returned (.tuple #[sigV 0 0 (.slice none 0 0) (.slice none 0 0), .int .i64 1]) ∧ Mods Nope w w' := by
  have hx := fitsB_false.1 h
  by_cases h1 : x < 16
  · go_enter Try.func31, Try.ntmps31
    go_wp2
    refine bodyPost_ret (v := .tuple #[sigV 0 0 (.slice none 0 0) (.slice none 0 0), .int .i64 1]) (by simp [results, Try.results31, go_sem, sigV]) rfl ⟨rfl, ?_⟩
    exact (Mods.refl _ _).alloc _
  · have h2 : 1024 < x := by omega
    go_enter Try.func31, Try.ntmps31
    go_wp2
    refine bodyPost_ret (v := .tuple #[sigV 0 0 (.slice none 0 0) (.slice none 0 0), .int .i64 1]) (by simp [results, Try.results31, go_sem, sigV]) rfl ⟨rfl, ?_⟩
    exact (Mods.refl _ _).alloc _
/-- What Sign has made may be. -/
theorem sigOK_sign (B : Bk) (s : ByteArray) (n : Nat) (hs : s.size ≤ 524288) (h1 : 16 ≤ n) (h2 : n ≤ 1024) (hB : ∀ l t, ((B.adds l).mark t).size = 32) :
    SigOK n s.size (sweak s n (cnt s.size n)) (smarks B s n (cnt s.size n)) := by
  refine ⟨by omega, by omega, by omega, by omega, by rw [sweak_length]; simp, by rw [sweak_length, smarks_length], ?_, ?_⟩
  · intro x hx
    simp only [sweak, List.mem_map] at hx
    obtain ⟨t, _, rfl⟩ := hx
    unfold wk
    omega
  · intro m hm'
    simp only [smarks, List.mem_map] at hm'
    obtain ⟨t, _, rfl⟩ := hm'
    exact hB _ t
theorem ideal_mark_size (L : List ByteArray) (l : List ByteArray) (t : ByteArray) : (((Bk.ideal L).adds l).mark t).size = 32 := by
  have : ∃ L', (Bk.ideal L).adds l = .ideal L' := by
    induction l generalizing L with
    | nil => exact ⟨L, rfl⟩
    | cons s l ih => rw [Bk.adds_cons]; exact ih _
  obtain ⟨L', h⟩ := this
  rw [h]
  exact mark_size _
end Go.Proofs.Ytblhbbgkkijkfaa
