/- barqueref06.Texts, walked. -/
import Derived.Test.YtblhbbgkkijkfaaK5
namespace Go.Proofs.Ytblhbbgkkijkfaa
open Go.RowKit Go.Maps
/-- The blocks from B on that hold elements of a type. -/
def OfT (e B : Nat) (w : World) (j : Nat) : Prop := B ≤ j ∧ ∃ cs fr, w.heap[j]? = some (.cells cs e fr)
theorem OfT.own {w : World} {base e size n : Nat} {v : Value} {xs : List Value} (h : w.ownsRow base e size v n xs) {j : Nat} (hj : v.ownBlock = some j) : OfT e base w j := by
  rcases h.2 with ⟨rfl, _⟩ | ⟨g, cap, cur, rfl, hb, hg, _⟩
  · simp [Value.ownBlock] at hj
  · obtain rfl : g = j := by simpa [Value.ownBlock] using hj
    exact ⟨hb, _, _, hg⟩
theorem OfT.trans {e B : Nat} {w w1 w2 : World} (h1 : Mods (OfT e B w) w w1) (h2 : Mods (OfT e B w1) w1 w2) : Mods (OfT e B w) w w2 :=
  h1.then h2 (fun i hi hM => by
    by_cases h : OfT e B w i
    · exact h
    · obtain ⟨hb, cs, fr, hc⟩ := hM
      exact ⟨hb, cs, fr, (h1.block i hi h) ▸ hc⟩)
theorem OfT.row {e B e' : Nat} {w w1 : World} (h : Mods (OfT e B w) w w1) {g : Nat} {cs : Array Value} {fr : Nat × Nat} (hg : w.heap[g]? = some (.cells cs e' fr)) (hne : e ≠ e') : w1.heap[g]? = some (.cells cs e' fr) :=
  h.row hg (fun ⟨_, cs2, fr2, h2⟩ => by rw [h2] at hg; injection hg with hg; injection hg with _ ht; exact hne ht)
theorem OfT.owns {e B base e' size n : Nat} {w w1 : World} (h : Mods (OfT e B w) w w1) {v : Value} {xs : List Value} (ho : w.ownsRow base e' size v n xs) (hne : e ≠ e') : w1.ownsRow base e' size v n xs :=
  h.owns ho (fun k hk ⟨_, _, _, h2⟩ => own_ne_row ho h2 (fun e => hne e.symm) k hk rfl)
/-- One step more, at a list of steps. -/
theorem steps_add {w wa w3 : World} {B g cap : Nat} {l : List Stp} {v : Value} (h : w.ownsRow B 117 3 v l.length (stps l)) (x : Stp) (ha : Mods Nope w wa)
    (hown : w3.ownsRow B 117 3 (.slice (some ⟨g, 0, none⟩) (l.length + 1) cap) (l.length + 1) (stps l ++ x.cells)) (hg : wa.grownBy w3 v.ownBlock) :
    w3.ownsRow B 117 3 (.slice (some ⟨g, 0, none⟩) (l.length + 1) cap) (l ++ [x]).length (stps (l ++ [x])) ∧ Mods (OfT 117 B w) w w3 := by
  refine ⟨?_, (ha.any _).grown hg (fun k e _ => OfT.own h e)⟩
  rw [List.length_append, stps_append, List.length_singleton]
  have : stps [x] = x.cells := by simp [stps]
  rw [this]
  exact hown
theorem chunks_long {t : ByteArray} (h : 4096 < t.size) : chunks t = ⟨0, 0, t.extract 0 4096⟩ :: chunks (t.extract 4096 t.size) := by
  rw [chunks_step (by omega), Nat.min_eq_right (by omega)]
theorem chunks_short {t : ByteArray} (h0 : 0 < t.size) (h : t.size ≤ 4096) : chunks t = [⟨0, 0, t⟩] := by
  rw [chunks_step h0, Nat.min_eq_left h, chunks_nil (by rw [ByteArray.size_extract]; omega), ByteArray.extract_zero_size]
theorem toList_empty' {t : ByteArray} (h : t.size ≠ 0) : t.toList.isEmpty = false := by
  cases hq : t.toList.isEmpty
  · rfl
  · exfalso
    have h1 := List.isEmpty_iff.1 hq
    have h2 : (t.toList == (⟨#[]⟩ : ByteArray).toList) = false := str_ne (fun e => h (by rw [e]; rfl))
    have h3 : (⟨#[]⟩ : ByteArray).toList = [] := by kernel_rfl
    rw [h1, h3] at h2
    simp at h2
theorem empty_of_size' {t : ByteArray} (h : t.size = 0) : t = ⟨#[]⟩ := ByteArray.ext (Array.eq_empty_of_size_eq_zero h)
/-- A list of steps that a call has made longer. -/
structure StepsPost (B : Nat) (l : List Stp) (w : World) (e : Ending) (w' : World) : Prop where
  ex : ∃ A c, e = .returned (.slice A l.length c) ∧ w'.ownsRow B 117 3 (.slice A l.length c) l.length (stps l)
  mods : Mods (OfT 117 B w) w w'
set_option maxRecDepth 100000 in
set_option maxHeartbeats 4000000 in
theorem f115_calls (B : Nat) (A : Option Addr) (c n : Nat) (l : List Stp) (t : ByteArray) (w : World) (hn : l.length = n) (hB : B ≤ w.heap.size) (h : w.ownsRow B 117 3 (.slice A n c) n (stps l)) (hb : l.length + t.size ≤ 2000000) :
    Calls Try.prog 115 #[.slice A n c, .string t] w (StepsPost B (l ++ chunks t) w) := by
  subst hn
  have HO := Lib.hid h
  have HBW := Lib.hid hB
  clear h hB
  suffices H : Calls Try.prog 115 #[.slice A l.length c, .string t] w (fun e w' => ∃ A c, e = .returned (.slice A (l ++ chunks t).length c) ∧ w'.ownsRow B 117 3 (.slice A (l ++ chunks t).length c) (l ++ chunks t).length (stps (l ++ chunks t)) ∧ Mods (OfT 117 B w) w w') from
    H.mono fun e w' ⟨A, c, h1, h2, h3⟩ => ⟨⟨A, c, h1, h2⟩, h3⟩
  generalize HRR : l ++ chunks t = R
  have HR := Lib.hid HRR
  clear HRR
  go_enter Try.func115, Try.ntmps115
  go_wp2_with fail
  go_loopg [0, 1] t.size (fun gk lv tv wr => ∃ (l' : List Stp) (t' : ByteArray) (A' : Option Addr) (c' : Nat), gk = t'.size ∧ lv = .slice A' l'.length c' ∧ tv = .string t' ∧ wr.ownsRow B 117 3 (.slice A' l'.length c') l'.length (stps l') ∧ l' ++ chunks t' = R ∧ l'.length + t'.size ≤ 2000000 ∧ Mods (OfT 117 B w) w wr)
  case atStart => exact ⟨l, t, A, c, rfl, rfl, rfl, HO.out, HR.out, hb, Mods.refl _ _⟩
  case round =>
    clear HR HO
    obtain ⟨l', t', A', c', hgk, rfl, rfl, ho, hc, hl, hm⟩ := hrel
    subst hgk
    have HO := Lib.hid ho
    have HC := Lib.hid hc
    have HM := Lib.hid hm
    have hBw : B ≤ wr.heap.size := Nat.le_trans HBW.out hm.size
    clear ho hc hm
    by_cases h0 : 4096 < t'.size
    · have hd : decide ((4096 : Int) < (t'.size : Int)) = true := by simp; omega
      have HCL := Lib.hid (chunks_long h0)
      go_wp2_with (at_builtin; refine wpList_app3 _ rfl _ _ 54 117 (.agg #[.int .i64 0, .int .i64 0, .string ⟨#[]⟩]) 32 rfl Try.underlying54 info117 rfl (.slice A' l'.length c') l'.length (stps l') (.int .i64 0) (.int .i64 0) (.string (t'.extract 0 4096)) _ rfl rfl (by simp) (by simp) (by simp) rfl rfl rfl B (by exact ((Mods.refl Nope wr).alloc _).owns HO.out (fun _ _ h => h)) (by simp; omega) (by omega) (by unfold maxLen; omega) ?_)
      intro g3 cap3 w3 hown3 hg3 hat3
      obtain ⟨k1, k2⟩ := steps_add HO.out ⟨0, 0, t'.extract 0 4096⟩ ((Mods.refl Nope wr).alloc _) hown3 hg3
      have HK1 := Lib.hid k1
      have HK2 := Lib.hid (OfT.trans HM.out k2)
      clear k1 k2 hown3 hg3 hat3
      go_wp2_with fail
      go_roundg (t'.extract 4096 t'.size).size
      case measure => rw [ByteArray.size_extract]; omega
      case rel =>
        refine ⟨l' ++ [⟨0, 0, t'.extract 0 4096⟩], t'.extract 4096 t'.size, some ⟨g3, 0, none⟩, cap3, rfl, by rw [List.length_append]; rfl, rfl, ?_, ?_, ?_, HK2.out⟩
        · have := HK1.out
          rw [List.length_append, List.length_singleton] at this ⊢
          exact this
        · rw [← HC.out, HCL.out]; simp
        · rw [List.length_append, List.length_singleton, ByteArray.size_extract]; omega
    · have hd : decide ((4096 : Int) < (t'.size : Int)) = false := by simp; omega
      by_cases hz : t'.size = 0
      · have ht := empty_of_size' hz
        subst ht
        have HN := Lib.hid (chunks_nil (s := ⟨#[]⟩) hz)
        have he : ((⟨#[]⟩ : ByteArray).toList == (⟨#[]⟩ : ByteArray).toList) = true := str_eq rfl
        clear hz
        go_wp2
        go_ret
        have e := HC.out
        rw [HN.out, List.append_nil] at e
        subst e
        exact ⟨_, _, rfl, HO.out, HM.out⟩
      · have HCS := Lib.hid (chunks_short (t := t') (by omega) (by omega))
        have he : t'.toList.isEmpty = false := toList_empty' hz
        go_wp2_with (at_builtin; refine wpList_app3 _ rfl _ _ 54 117 (.agg #[.int .i64 0, .int .i64 0, .string ⟨#[]⟩]) 32 rfl Try.underlying54 info117 rfl (.slice A' l'.length c') l'.length (stps l') (.int .i64 0) (.int .i64 0) (.string t') _ rfl rfl (by simp) (by simp) (by simp) rfl rfl rfl B (by exact ((Mods.refl Nope wr).alloc _).owns HO.out (fun _ _ h => h)) (by simp; omega) (by omega) (by unfold maxLen; omega) ?_)
        intro g3 cap3 w3 hown3 hg3 hat3
        obtain ⟨k1, k2⟩ := steps_add HO.out ⟨0, 0, t'⟩ ((Mods.refl Nope wr).alloc _) hown3 hg3
        have HK1 := Lib.hid k1
        have HK2 := Lib.hid (OfT.trans HM.out k2)
        clear k1 k2 hown3 hg3 hat3
        go_wp2
        go_ret
        have e := HC.out
        rw [HCS.out] at e
        subst e
        refine ⟨some ⟨g3, 0, none⟩, cap3, by rw [List.length_append]; rfl, ?_, HK2.out⟩
        have := HK1.out
        rw [List.length_append, List.length_singleton] at this ⊢
        exact this
end Go.Proofs.Ytblhbbgkkijkfaa
