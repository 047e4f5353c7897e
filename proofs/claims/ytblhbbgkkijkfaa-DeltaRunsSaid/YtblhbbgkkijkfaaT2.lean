/- The order that a table's blocks have; its comparison, and insertion, walked. -/
import Derived.Test.YtblhbbgkkijkfaaT1
namespace Go.Proofs.Ytblhbbgkkijkfaa
open Go.RowKit Go.Maps
/-- The weak sum of a block. -/
def kw (ws : List Int) (x : Int) : Int := ws.getD x.toNat 0
/-- Which block stands first: that of the lesser sum; of like sums the lesser block. -/
def Rl (ws : List Int) (x y : Int) : Prop := kw ws x < kw ws y ∨ (kw ws x = kw ws y ∧ x < y)
theorem Rl.trans {ws : List Int} {x y z : Int} (h : Rl ws x y) (k : Rl ws y z) : Rl ws x z := by unfold Rl at *; omega
theorem Rl.le {ws : List Int} {x y : Int} (h : Rl ws x y) : kw ws x ≤ kw ws y := by unfold Rl at *; omega
/-- What the comparison's captured signature is. -/
structure KS (w : World) (G : Nat) (A : Option Addr) (c : Nat) (ws : List Int) : Prop where
  row : ∃ blk size sv, w.heap[G]? = some (.cells #[.int .i64 blk, .int .i64 size, .slice A ws.length c, sv] 31 (0, 0))
  rd : Rd w A (ints ws)
  range : ∀ x ∈ ws, 0 ≤ x ∧ x ≤ 4294967295
  len : ws.length ≤ 524288
theorem KS.mods {M : Nat → Prop} {w w' : World} {G : Nat} {A : Option Addr} {c : Nat} {ws : List Int} (h : KS w G A c ws) (hm : Mods M w w') (h1 : ¬ M G) (h2 : ∀ a, A = some a → ¬ M a.block) : KS w' G A c ws := by
  obtain ⟨b, s, sv, hr⟩ := h.row
  exact ⟨⟨b, s, sv, hm.row hr h1⟩, h.rd.mods hm h2, h.range, h.len⟩
theorem KS.drewN {w : World} {G : Nat} {A : Option Addr} {c : Nat} {ws : List Int} (h : KS w G A c ws) (n : Nat) : KS (w.drewN n) G A c ws := h.mods ((Mods.refl Nope w).drewN n) (fun h => h) (fun _ _ h => h)
theorem kw_range {ws : List Int} (h : ∀ x ∈ ws, 0 ≤ x ∧ x ≤ 4294967295) (x : Int) : 0 ≤ kw ws x ∧ kw ws x ≤ 4294967295 := by
  unfold kw
  rw [List.getD_eq_getElem?_getD]
  rcases hx : ws[x.toNat]? with _ | y
  · simp
  · exact h y (List.mem_of_getElem? hx)
set_option maxRecDepth 100000 in
theorem f105_calls (G : Nat) (A : Option Addr) (c : Nat) (ws : List Int) (x y : Int) (w : World) (h : KS w G A c ws) (hx : 0 ≤ x ∧ x < ws.length) (hy : 0 ≤ y ∧ y < ws.length) :
    Calls Try.prog 105 #[.int .i64 x, .int .i64 y, .pointer (some ⟨G, 0, none⟩)] w fun e w' => e = .returned (.int .i64 (kw ws x - kw ws y)) ∧ ∃ m, w' = w.drewN m := by
  obtain ⟨i, rfl⟩ := Int.eq_ofNat_of_zero_le hx.1
  obtain ⟨j, rfl⟩ := Int.eq_ofNat_of_zero_le hy.1
  obtain ⟨b, s, sv, hr⟩ := h.row
  have hi : i < ws.length := by omega
  have hj : j < ws.length := by omega
  obtain ⟨bb, off, hA, hc1⟩ := h.rd.int i hi
  obtain ⟨bb', off', hA', hc2⟩ := h.rd.int j hj
  subst hA
  injection hA' with hA'
  injection hA' with e1 e2
  subst e1 e2
  have e1 : kw ws (i : Nat) = ws[i] := by simp [kw, hi]
  have e2 : kw ws (j : Nat) = ws[j] := by simp [kw, hj]
  have r1 := kw_range h.range (i : Nat)
  have r2 := kw_range h.range (j : Nat)
  rw [e1] at r1 ⊢
  rw [e2] at r2 ⊢
  have g2 : w.cell? ⟨G, 2, none⟩ = some (.slice (some ⟨bb, off, none⟩) ws.length c) := by rw [row_cell hr]; rfl
  have hii : (i : Int) < (ws.length : Int) := by omega
  have hjj : (j : Int) < (ws.length : Int) := by omega
  generalize ws[i] = a at *
  generalize ws[j] = b at *
  have hlen := h.len
  clear h hr e1 e2 hx hy
  go_enter Try.func105, Try.ntmps105
  go_upto_region 1 with fail
  go_quiet (fail)
  go_wp2
  go_ret
  exact ⟨ret_int (by first | rfl | (unfold wrap64; omega)), _, rfl⟩
/-- The comparison as a value. -/
def cmpV (G : Nat) : Value := .func (.func 105) #[] #[.pointer (some ⟨G, 0, none⟩)]
def InR (ws xs : List Int) : Prop := ∀ x ∈ xs, 0 ≤ x ∧ x < ws.length
theorem Rl.ins {ws : List Int} {d1 d2 : List Int} {x : Int} (h : (d1 ++ d2).Pairwise (Rl ws)) (h1 : ∀ y ∈ d1, Rl ws y x) (h2 : ∀ y ∈ d2, Rl ws x y) : (d1 ++ x :: d2).Pairwise (Rl ws) := by
  rw [List.pairwise_append] at h ⊢
  refine ⟨h.1, List.pairwise_cons.2 ⟨h2, h.2.1⟩, ?_⟩
  intro a ha b hb
  rcases List.mem_cons.1 hb with rfl | hb
  · exact h1 a ha
  · exact h.2.2 a ha b hb
theorem Rl.last {ws : List Int} {d : List Int} {y x : Int} (h : (d ++ [y]).Pairwise (Rl ws)) (hx : Rl ws y x) : ∀ z ∈ d ++ [y], Rl ws z x := by
  intro z hz
  rcases List.mem_append.1 hz with hz | hz
  · exact ((List.pairwise_append.1 h).2.2 z hz y (by simp)).trans hx
  · simp at hz; subst hz; exact hx
theorem ins_perm (d1 d2 : List Int) (x : Int) : (d1 ++ x :: d2).Perm (d1 ++ d2 ++ [x]) := by
  rw [List.append_assoc]
  exact List.Perm.append_left d1 (List.perm_append_singleton x d2).symm
theorem Arr.swap {w : World} {g cap : Nat} {p q : List Int} {y x : Int} (h : Arr w g cap (p ++ y :: x :: q)) : Arr ((w.setCell ⟨g, p.length + 1, none⟩ (.int .i64 y)).setCell ⟨g, p.length, none⟩ (.int .i64 x)) g cap (p ++ x :: y :: q) := by
  have h1 := h.set (p ++ [y]) x y q (by simp)
  rw [show (p ++ [y]).length = p.length + 1 by simp] at h1
  have h2 := h1.set p y x (y :: q) (by simp)
  exact h2
theorem Arr.drew {w : World} {g cap : Nat} {xs : List Int} (h : Arr w g cap xs) : Arr w.drew g cap xs := h
theorem Arr.drewN {w : World} {g cap : Nat} {xs : List Int} (h : Arr w g cap xs) (n : Nat) : Arr (w.drewN n) g cap xs := h
set_option maxRecDepth 100000 in
set_option maxHeartbeats 2000000 in
theorem f149_calls (g cap N G : Nat) (A : Option Addr) (c : Nat) (ws p s q : List Int) (a b : Nat) (w : World) (hA : Arr w g cap (p ++ s ++ q)) (hN : (p ++ s ++ q).length = N)
    (ha : p.length = a) (hb : p.length + s.length = b) (hK : KS w G A c ws) (hgG : g ≠ G) (hAg : ∀ ad, A = some ad → ad.block ≠ g) (hin : InR ws s) (hs : s.Pairwise (· < ·)) (hcap : N ≤ 1000000) :
    Calls Try.prog 149 #[.slice (some ⟨g, 0, none⟩) N cap, .int .i64 a, .int .i64 b, cmpV G] w fun e w' => e = .returned (.tuple #[]) ∧ ∃ s', s'.Perm s ∧ s'.Pairwise (Rl ws) ∧ Arr w' g cap (p ++ s' ++ q) ∧ Mods (fun j => j = g) w w' := by
  have hbN : b ≤ N := by rw [← hN]; simp; omega
  have hab : a ≤ b := by omega
  have HA := Lib.hid hA
  have HK := Lib.hid hK
  have HN := Lib.hid hN
  have HG := Lib.hid hgG
  have HAG := Lib.hid hAg
  have HIN := Lib.hid hin
  have HSS := Lib.hid hs
  have HPA := Lib.hid ha
  have HPB := Lib.hid hb
  clear hA hK hN hgG hAg hin hs
  unfold cmpV
  by_cases hs0 : s = []
  · subst hs0
    obtain rfl : a = b := by simp at hb; omega
    clear ha hb
    go_enter Try.func149, Try.ntmps149
    go_wp2_with fail
    refine wp_loop_once ?_
    go_wp2
    go_end0
    exact ⟨rfl, [], List.Perm.refl _, List.Pairwise.nil, HA.out, Mods.refl _ _⟩
  obtain ⟨x0, e0, hs0⟩ : ∃ x0 e0, s = x0 :: e0 := by cases s with | nil => exact absurd rfl hs0 | cons x s => exact ⟨x, s, rfl⟩
  have HS0 := Lib.hid hs0
  have hab1 : a + 1 ≤ b := by rw [hs0] at hb; simp at hb; omega
  clear hs0 ha hb
  go_enter Try.func149, Try.ntmps149
  go_wp2_with fail
  go_loopg [8] (b - (a + 1)) (fun gk i wr => ∃ (k : Nat) (d d' e : List Int), a + 1 ≤ k ∧ k ≤ b ∧ gk = b - k ∧ i = .int .i64 (k : Nat) ∧ s = d ++ e ∧ d'.Perm d ∧ d'.Pairwise (Rl ws) ∧ Arr wr g cap (p ++ d' ++ e ++ q) ∧ a + d.length = k ∧ Mods (fun j => j = g) w wr)
  case atStart =>
    refine ⟨a + 1, [x0], [x0], e0, by omega, hab1, ?_, by go_num, by rw [HS0.out]; rfl, List.Perm.refl _, by simp, ?_, rfl, Mods.refl _ _⟩
    · rfl
    · have := HA.out; rw [HS0.out] at this; simpa using this
  case round =>
    obtain ⟨k, d, d', e, hak, hkb, rfl, rfl, hde, hperm, hsort, hA, hdk, hM⟩ := hrel
    have HM := Lib.hid hM
    have HD := Lib.hid hde
    have HPE := Lib.hid hperm
    have HSO := Lib.hid hsort
    have HDK := Lib.hid hdk
    by_cases hlt : k < b
    · obtain ⟨x, e', rfl⟩ : ∃ x e', e = x :: e' := by
        cases e with
        | nil => have h1 := HPB.out; have h2 := HPA.out; rw [hde] at h1; simp at h1; omega
        | cons x e => exact ⟨x, e, rfl⟩
      have HLT := Lib.hid hlt
      have hx := HIN.out x (by rw [hde]; simp)
      have HLS := Lib.hid (show ∀ y ∈ d', y < x ∧ 0 ≤ y ∧ y < ws.length by
        intro y hy
        have hyd : y ∈ d := hperm.subset hy
        have hs := HSS.out
        rw [hde, List.pairwise_append] at hs
        have hy2 := HIN.out y (by rw [hde]; simp [hyd])
        exact ⟨hs.2.2 y hyd x (by simp), hy2.1, hy2.2⟩)
      have HLEN := Lib.hid (show (p ++ d').length = k by rw [List.length_append, hperm.length_eq, HPA.out]; exact hdk)
      have HA1 := Lib.hid (show Arr wr g cap (p ++ d' ++ x :: [] ++ e' ++ q) by simpa using hA)
      have hkN : k + 1 ≤ N := by omega
      clear hM hde hperm hsort hdk hA
      obtain ⟨wo, rfl⟩ : ∃ wo : World, wo = wr := ⟨_, rfl⟩
      go_wp2_with fail
      go_loopg [9] k (fun gj j wr => ∃ (t : Nat) (d1 d2 : List Int), a ≤ t ∧ t ≤ k ∧ gj = t ∧ j = .int .i64 (t : Nat) ∧ d' = d1 ++ d2 ∧ (p ++ d1).length = t ∧ Arr wr g cap (p ++ d1 ++ x :: d2 ++ e' ++ q) ∧ (∀ y ∈ d2, Rl ws x y) ∧ Mods (fun j => j = g) w wr)
      case atStart => exact ⟨k, d', [], by omega, by omega, rfl, rfl, by simp, HLEN.out, HA1.out, fun y hy => (by simp at hy), HM.out⟩
      case round =>
        obtain ⟨t, d1, d2, hat, htk, rfl, rfl, hdd, hlt1, hA, hR, hM⟩ := hrel
        have HM2 := Lib.hid hM
        have HDD := Lib.hid hdd
        have HL1 := Lib.hid hlt1
        have HR := Lib.hid hR
        have HA2 := Lib.hid hA
        have HSOD := Lib.hid (show (d1 ++ d2).Pairwise (Rl ws) by rw [← hdd]; exact HSO.out)
        by_cases hta : a < gk
        · obtain ⟨d1', y, rfl⟩ : ∃ d1' y, d1 = d1' ++ [y] := by
            have hne : d1 ≠ [] := by rintro rfl; have := HPA.out; simp at hlt1; omega
            exact ⟨d1.dropLast, d1.getLast hne, (List.dropLast_concat_getLast hne).symm⟩
          have hy := HLS.out y (by rw [hdd]; simp)
          have hj1 : (p ++ d1').length = gk - 1 := by simp at hlt1 ⊢; omega
          have c1 : wr.cell? ⟨g, gk, none⟩ = some (.int .i64 x) := by
            have := hA.cell (p ++ (d1' ++ [y])) x (d2 ++ e' ++ q) (by simp)
            rwa [hlt1] at this
          have c2 : wr.cell? ⟨g, gk - 1, none⟩ = some (.int .i64 y) := by
            have := hA.cell (p ++ d1') y (x :: d2 ++ e' ++ q) (by simp)
            rwa [hj1] at this
          have HSW : Hid (∀ n, Arr (((wr.drewN n).setCell ⟨g, gk, none⟩ (.int .i64 y)).setCell ⟨g, gk - 1, none⟩ (.int .i64 x)) g cap (p ++ d1' ++ x :: (y :: d2) ++ e' ++ q)) := by
            intro n
            have h := Arr.swap (p := p ++ d1') (q := d2 ++ e' ++ q) (y := y) (x := x) (w := wr.drewN n) (g := g) (cap := cap) (Arr.drewN (by simpa using hA) n)
            rw [hj1, show gk - 1 + 1 = gk by omega] at h
            simpa using h
          have HDD' : Hid (d' = d1' ++ (y :: d2)) := by unfold Hid; rw [hdd]; simp
          have HJ1 := Lib.hid hj1
          have HKK := Lib.hid (HK.out.mods hM (fun h => HG.out h.symm) HAG.out)
          have fz := hA.free
          have HQ := Lib.hid (fun n => HKK.out.drewN n)
          have hyr : 0 ≤ y ∧ y < ws.length := ⟨hy.2.1, hy.2.2⟩
          have hyx := hy.1
          have r1 := kw_range HK.out.range x
          have r2 := kw_range HK.out.range y
          have hgN : (gk : Int) < (N : Int) := by omega
          have hg0 : (0 : Int) ≤ (gk : Int) - 1 := by omega
          have hg1 : (gk : Int) - 1 < (N : Int) := by omega
          have hgi : (a : Int) < (gk : Int) := by omega
          have hne1 : gk - 1 ≠ gk := by omega
          clear hM hdd hlt1 hR hA hy hj1
          by_cases hkk : kw ws x < kw ws y
          · have HR' : Hid (∀ z ∈ y :: d2, Rl ws x z) := by
              intro z hz
              rcases List.mem_cons.1 hz with rfl | hz
              · exact .inl hkk
              · exact HR.out z hz
            go_upto_region 4 with fail
            go_quiet ((go_at_call 105; exact Calls.quiet_of (f105_calls G A c ws x y _ (HQ.out _) hx hyr)))
            go_upto_region 6 with fail
            go_region
            all_goals
              go_wp2_with fail
              go_roundg (gk - 1)
              case measure => omega
              case rel => exact ⟨gk - 1, d1', y :: d2, by omega, by omega, rfl, val_int (by omega), HDD'.out, HJ1.out, HSW.out _, HR'.out, ((HM2.out.drewN _).setCell _ (fun _ => rfl) _).setCell _ (fun _ => rfl) _⟩
          · have HF : Hid ((d1' ++ [y] ++ x :: d2).Pairwise (Rl ws)) := by
              refine Rl.ins HSOD.out (Rl.last ?_ (by unfold Rl; omega)) HR.out
              have := HSOD.out
              rw [List.pairwise_append] at this
              exact this.1
            have HFP : Hid ((d1' ++ [y] ++ x :: d2).Perm (d ++ [x])) := by
              refine (ins_perm (d1' ++ [y]) d2 x).trans ?_
              rw [← HDD.out]
              exact List.Perm.append_right [x] HPE.out
            have HFA : Hid (∀ n, Arr (wr.drewN n) g cap (p ++ (d1' ++ [y] ++ x :: d2) ++ e' ++ q)) := fun n => Arr.drewN (by simpa using HA2.out) n
            go_upto_region 4 with fail
            go_quiet ((go_at_call 105; exact Calls.quiet_of (f105_calls G A c ws x y _ (HQ.out _) hx hyr)))
            go_wp2_with fail
            go_roundg (b - (k + 1))
            case measure => have := HLT.out; omega
            case rel => exact ⟨k + 1, d ++ [x], _, e', by omega, HLT.out, rfl, by go_num, by rw [HD.out]; simp, HFP.out, HF.out, HFA.out _, by rw [List.length_append, ← Nat.add_assoc, HDK.out]; rfl, HM2.out.drewN _⟩
        · obtain rfl : gk = a := by omega
          obtain rfl : d1 = [] := List.eq_nil_of_length_eq_zero (by have := HPA.out; rw [List.length_append] at hlt1; omega)
          have HF : Hid ((x :: d2).Pairwise (Rl ws)) := List.pairwise_cons.2 ⟨HR.out, by simpa using HSOD.out⟩
          have HFP : Hid ((x :: d2).Perm (d ++ [x])) := by
            unfold Hid
            have h := HPE.out
            rw [HDD.out] at h
            exact (List.perm_append_singleton x d2).symm.trans (List.Perm.append_right [x] (by simpa using h))
          have HFA : Hid (∀ n, Arr (wr.drewN n) g cap (p ++ (x :: d2) ++ e' ++ q)) := fun n => Arr.drewN (by simpa using HA2.out) n
          clear hM hdd hlt1 hR hA
          go_upto_region 4 with fail
          go_quiet (fail)
          go_wp2_with fail
          go_roundg (b - (k + 1))
          case measure => have := HLT.out; omega
          case rel => exact ⟨k + 1, d ++ [x], _, e', by omega, HLT.out, rfl, by go_num, by rw [HD.out]; simp, HFP.out, HF.out, HFA.out _, by rw [List.length_append, ← Nat.add_assoc, HDK.out]; rfl, HM2.out.drewN _⟩
    · obtain rfl : k = b := by omega
      obtain rfl : e = [] := by
        apply List.eq_nil_of_length_eq_zero
        have h1 := HPB.out
        have h2 := HPA.out
        rw [hde, List.length_append] at h1
        omega
      have HA1 := Lib.hid (show Arr wr g cap (p ++ d' ++ q) by simpa using hA)
      have HP1 : Hid (d'.Perm s) := by unfold Hid; rw [hde]; simpa using hperm
      clear hM hde hperm hsort hdk hA
      go_wp2
      go_end0
      exact ⟨rfl, d', HP1.out, HSO.out, HA1.out, HM.out⟩
end Go.Proofs.Ytblhbbgkkijkfaa
