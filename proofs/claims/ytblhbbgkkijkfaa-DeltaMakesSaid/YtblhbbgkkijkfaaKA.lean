/- barquelaw06.awake, delta.Sent, walked. -/
import Derived.Test.YtblhbbgkkijkfaaKP
namespace Go.Proofs.Ytblhbbgkkijkfaa
open Go.RowKit Go.Maps
/-- Of under a fresh ideal book. -/
theorem f60_ideal (b mb n : Nat) (basis s : ByteArray) (w : World) (hb : IsBook w b mb (.ideal [])) (hbs : basis.size ≤ 524288) (hs : s.size ≤ 524288) (h1 : 16 ≤ n) (h2 : n ≤ 1024) :
    ∃ L, L.length ≤ 524288 ∧ (∀ y ∈ pcs basis n (cnt basis.size n), y ∈ L) ∧ Calls Try.prog 60 #[.pointer (some ⟨b, 0, none⟩), .string basis, .string s, .int .i64 n] w (DOfPost b mb (Grown L) (mkP basis.size n (mI basis n) (tI basis n) s) basis s w) := by
  obtain ⟨L, hL, hsm, hl, hk, hok⟩ := sign_lists basis n hbs h1 h2
  refine ⟨L, hl, hk, ?_⟩
  refine f60_ok b mb n (.ideal []) (Grown L) (mI basis n) (tI basis n) basis s w hb (by simp [Bk.len]) hbs hs h1 h2 (fun l t => ideal_mark_size [] l t) ?_ ?_
  · rw [hL, hsm]
    exact ansIdeal (by omega) hl hk
  · rw [hL]
    exact Grown.start L
theorem Stp.cell {w : World} {base g n c : Nat} {l : List Stp} (h : w.ownsRow base 117 3 (.slice (some ⟨g, 0, none⟩) n c) n (stps l)) {i : Nat} (hi : i < l.length) :
    w.cell? ⟨g, i * 3, none⟩ = some (.int .i64 l[i].pos) ∧ w.cell? ⟨g, i * 3 + 1, none⟩ = some (.int .i64 l[i].len) ∧ w.cell? ⟨g, i * 3 + 2, none⟩ = some (.string l[i].text) := by
  have hc : ∀ j u, (stps l)[j]? = some u → w.cell? ⟨g, j, none⟩ = some u := fun j u hu => by
    have := h.cells (g := g) rfl j u hu
    rwa [add_plain] at this
  have hs : ∀ k, k < 3 → (stps l)[i * 3 + k]? = l[i].cells[k]? := by
    intro k hk
    have hd : l = l.take i ++ l[i] :: l.drop (i + 1) := by rw [← List.drop_eq_getElem_cons hi, List.take_append_drop]
    have h1 : stps l = stps (l.take i) ++ (l[i].cells ++ stps (l.drop (i + 1))) := by
      conv => lhs; rw [hd]
      rw [stps_append]
      rfl
    have h2 : (stps (l.take i)).length = i * 3 := by rw [stps_length, List.length_take, Nat.min_eq_left (by omega)]
    rw [h1, List.getElem?_append_right (by omega), h2, Nat.add_sub_cancel_left, List.getElem?_append_left (by simp [Stp.cells]; omega)]
  exact ⟨hc _ _ (hs 0 (by omega)), hc _ _ (hs 1 (by omega)), hc _ _ (hs 2 (by omega))⟩
def awk : ByteArray := { data := #[48, 49, 50, 51, 52, 53, 54, 55, 56, 57, 97, 98, 99, 100, 101, 102, 103, 104, 105, 106, 107, 108, 109, 110, 111, 112, 113, 114, 115, 116, 117, 118, 119, 120, 121, 122, 43, 45, 42, 47] }
set_option maxRecDepth 100000 in
set_option maxHeartbeats 4000000 in
theorem f51_calls (w : World) : Calls Try.prog 51 #[] w fun e w' => e = .returned (.bool true) ∧ Mods Nope w w' := by
  have hsz : awk.size = 40 := by kernel_rfl
  have hR : mkP awk.size 16 (mI awk 16) (tI awk 16) awk = [⟨0, 40, ⟨#[]⟩⟩] := by
    rw [mkP_self (by omega)]
    unfold selfP
    rw [if_neg (by omega), hsz]
    rfl
  have HC : Hid (∀ b mb wx, IsBook wx b mb (.ideal []) → ∃ L, Calls Try.prog 60 #[.pointer (some ⟨b, 0, none⟩), .string awk, .string awk, .int .i64 16] wx (DOfPost b mb (Grown L) [⟨0, 40, ⟨#[]⟩⟩] awk awk wx)) := by
    intro b mb wx h
    obtain ⟨L, _, _, hc⟩ := f60_ideal b mb 16 awk awk wx h (by omega) (by omega) (by omega) (by omega)
    rw [hR] at hc
    exact ⟨L, hc⟩
  clear hR hsz
  go_enter Try.func51, Try.ntmps51
  go_wp2_with fail
  refine (f29_calls _).mono ?_; rintro e w1 ⟨b, mb, rfl, hb1, hmb1, hbk, hm⟩
  obtain ⟨L, hc⟩ := HC.out b mb w1 hbk
  have HL := Lib.hid hc
  have HM := Lib.hid hm
  clear hc hm hbk HC
  go_wp2_with fail
  refine HL.out.mono ?_; rintro e w2 hP
  obtain ⟨⟨k, K, v, rfl, _, _, _, hv⟩, hm2⟩ := hP
  have HM2 : Hid (Mods Nope w w2) := HM.out.then hm2 (fun i hi e => by omega)
  obtain ⟨A, c, rfl, _, _, hrd, _⟩ := Rd.of_owns hv
  have hA : ∃ g, A = some ⟨g, 0, none⟩ := by
    rcases hv.2 with ⟨e, _⟩ | ⟨g, _, _, e, _⟩
    · cases e
    · cases e; exact ⟨g, rfl⟩
  obtain ⟨g, rfl⟩ := hA
  obtain ⟨c0, c1, _⟩ := Stp.cell hv (i := 0) (by simp)
  simp only [Nat.zero_mul, Nat.zero_add, List.getElem_cons_zero] at c0 c1
  have hlen : ([⟨0, 40, ⟨#[]⟩⟩] : List Stp).length = 1 := rfl
  simp only [dltV, hlen]
  clear hrd hv hm2
  have c0a : ∀ o, (w2.alloc o).cell? ⟨g, 0, none⟩ = some (.int .i64 0) := fun o => ((Mods.refl Nope _).alloc o).cell c0 (fun h => h)
  have c1a : ∀ o, (w2.alloc o).cell? ⟨g, 1, none⟩ = some (.int .i64 40) := fun o => ((Mods.refl Nope _).alloc o).cell c1 (fun h => h)
  go_wp2
  go_ret
  exact ⟨rfl, HM2.out.alloc _⟩
/-- How many bytes of text steps have. -/
def sumT (l : List Stp) : Nat := (l.map fun x => x.text.size).sum
theorem sumT_take {l : List Stp} {k : Nat} (h : k < l.length) : sumT (l.take (k + 1)) = sumT (l.take k) + l[k].text.size := by
  unfold sumT
  rw [List.take_succ_eq_append_getElem h, List.map_append, List.sum_append]
  simp
theorem sumT_le (l : List Stp) (k : Nat) : sumT (l.take k) ≤ sumT l := by
  conv => rhs; rw [← List.take_append_drop k l]
  unfold sumT
  rw [List.map_append, List.sum_append]
  omega
theorem stp_at {w : World} {A : Option Addr} {l : List Stp} (h : Rd w A (stps l)) {i : Nat} (hi : i < l.length) :
    ∃ b off, A = some ⟨b, off, none⟩ ∧ w.cell? ⟨b, off + i * 3, none⟩ = some (.int .i64 l[i].pos) ∧ w.cell? ⟨b, off + i * 3 + 1, none⟩ = some (.int .i64 l[i].len) ∧ w.cell? ⟨b, off + i * 3 + 2, none⟩ = some (.string l[i].text) := by
  have hs : ∀ k, k < 3 → (stps l)[i * 3 + k]? = l[i].cells[k]? := by
    intro k hk
    have hd : l = l.take i ++ l[i] :: l.drop (i + 1) := by rw [← List.drop_eq_getElem_cons hi, List.take_append_drop]
    have h1 : stps l = stps (l.take i) ++ (l[i].cells ++ stps (l.drop (i + 1))) := by
      conv => lhs; rw [hd]
      rw [stps_append]
      rfl
    have h2 : (stps (l.take i)).length = i * 3 := by rw [stps_length, List.length_take, Nat.min_eq_left (by omega)]
    rw [h1, List.getElem?_append_right (by omega), h2, Nat.add_sub_cancel_left, List.getElem?_append_left (by simp [Stp.cells]; omega)]
  obtain ⟨b, off, e, h0⟩ := h _ _ (hs 0 (by omega))
  obtain ⟨b', off', e', h1⟩ := h _ _ (hs 1 (by omega))
  obtain ⟨b'', off'', e'', h2⟩ := h _ _ (hs 2 (by omega))
  rw [e] at e' e''
  cases e'
  cases e''
  exact ⟨b, off, e, h0, by rw [← Nat.add_assoc] at h1; exact h1, by rw [← Nat.add_assoc] at h2; exact h2⟩
set_option maxRecDepth 100000 in
set_option maxHeartbeats 4000000 in
theorem f61_calls (A : Option Addr) (n c : Nat) (l : List Stp) (w : World) (hn : l.length = n) (h : Rd w A (stps l)) (hs : sumT l ≤ 1000000000) (hl : l.length ≤ 1000000000) :
    Calls Try.prog 61 #[.slice A n c] w fun e w' => e = .returned (.int .i64 (sumT l)) ∧ Mods Nope w w' := by
  subst hn
  have HR := Lib.hid h
  have HS := Lib.hid (fun k => Nat.le_trans (sumT_le l k) hs)
  have HT := Lib.hid (fun k (h : k < l.length) => sumT_take h)
  clear h hs
  go_enter Try.func61, Try.ntmps61
  go_wp2_with fail
  go_loopg [3, 8] l.length (fun gk nv iv wr => ∃ k : Nat, k ≤ l.length ∧ gk = l.length - k ∧ nv = .int .i64 (sumT (l.take k)) ∧ iv = .int .i64 k ∧ Mods Nope w wr)
  case atStart => exact ⟨0, Nat.zero_le _, rfl, rfl, rfl, Mods.refl _ _⟩
  case round =>
    obtain ⟨k, hk, hgk, rfl, rfl, hm⟩ := hrel
    have HM := Lib.hid hm
    clear hm
    by_cases hlt : k < l.length
    · obtain ⟨b, off, e, c0, c1, c2⟩ := stp_at (HR.out.below HM.out) hlt
      subst e
      have h1 := HT.out k hlt
      have h2 := HS.out k
      have h3 := HS.out (k + 1)
      rw [h1] at h3
      have HT1 := Lib.hid h1
      clear h1
      generalize sumT (l.take k) = S at *
      generalize hx : l[k] = x at *
      obtain ⟨x0, x1, x2⟩ := x
      dsimp only at *
      go_wp2_with fail
      go_roundg (l.length - (k + 1))
      case measure => omega
      case rel => exact ⟨k + 1, hlt, rfl, by rw [HT1.out]; go_num, by go_num, HM.out.alloc _⟩
    · obtain rfl : k = l.length := by omega
      rw [List.take_length]
      go_wp2
      go_ret
      exact ⟨rfl, HM.out⟩
end Go.Proofs.Ytblhbbgkkijkfaa
