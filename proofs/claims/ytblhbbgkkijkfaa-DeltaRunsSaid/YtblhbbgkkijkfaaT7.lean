/- The stable sort, walked. -/
import Derived.Test.YtblhbbgkkijkfaaT6
namespace Go.Proofs.Ytblhbbgkkijkfaa
open Go.RowKit Go.Maps
def SortPost (ws : List Int) (g cap : Nat) (xs : List Int) (w : World) (e : Ending) (w' : World) : Prop :=
  e = .returned (.tuple #[]) ∧ ∃ s, s.Perm xs ∧ s.Pairwise (Rl ws) ∧ Arr w' g cap s ∧ Mods (fun j => j = g) w w'
theorem InR.perm {ws xs ys : List Int} (h : InR ws xs) (hp : ys.Perm xs) : InR ws ys := fun x hx => h x (hp.subset hx)
set_option maxRecDepth 100000 in
set_option maxHeartbeats 4000000 in
theorem f137_calls (g cap N G : Nat) (A : Option Addr) (c : Nat) (ws xs : List Int) (w : World) (hA : Arr w g cap xs) (hN : xs.length = N) (hK : KS w G A c ws) (hgG : g ≠ G) (hAg : ∀ ad, A = some ad → ad.block ≠ g) (hin : InR ws xs) (hs : xs.Pairwise (· < ·)) (hcap : N ≤ 1000000) :
    Calls Try.prog 137 #[.slice (some ⟨g, 0, none⟩) N cap, .int .i64 N, cmpV G] w (SortPost ws g cap xs w) := by
  have HA := Lib.hid hA
  have HK := Lib.hid hK
  have HN := Lib.hid hN
  have HG := Lib.hid hgG
  have HAG := Lib.hid hAg
  have HIN := Lib.hid hin
  have HSS := Lib.hid hs
  clear hA hK hN hgG hAg hin hs
  unfold cmpV
  go_enter Try.func137, Try.ntmps137
  go_wp2_with fail
  go_loopg [7, 8] (N + 1) (fun gk i j wr => ∃ (a : Nat) (done todo : List Int), a ≤ N ∧ gk = N + 1 - a ∧ i = .int .i64 (a : Nat) ∧ j = .int .i64 ((a + 20 : Nat) : Int) ∧ done.length = a ∧ (done ++ todo).length = N ∧ Arr wr g cap (done ++ todo) ∧ Goes ws 20 done todo ∧ todo.Pairwise (· < ·) ∧ (done ++ todo).Perm xs ∧ Mods (fun j => j = g) w wr)
  case atStart => exact ⟨0, [], xs, by omega, by omega, rfl, rfl, rfl, HN.out, HA.out, Goes.start _ _ _, HSS.out, List.Perm.refl _, Mods.refl _ _⟩
  case round =>
    obtain ⟨a, done, todo, haN, rfl, rfl, rfl, hda, hl, hA, hgo, hpw, hpe, hM⟩ := hrel
    have HA1 := Lib.hid hA
    have HGO := Lib.hid hgo
    have HPW := Lib.hid hpw
    have HPE := Lib.hid hpe
    have HM := Lib.hid hM
    have HDA := Lib.hid hda
    have HL := Lib.hid hl
    have HI1 := Lib.hid (HIN.out.perm hpe)
    have HK1 := Lib.hid (HK.out.mods hM (fun h => HG.out h.symm) HAG.out)
    clear hA hgo hpw hpe hM
    by_cases hlt : a + 20 ≤ N
    · obtain ⟨e, h1, h2⟩ := take_drop_len (l := todo) (k := 20) rfl (by rw [List.length_append] at hl; omega)
      generalize todo.take 20 = ch at e h1
      generalize todo.drop 20 = rest at e h2
      subst e
      have hpp := List.pairwise_append.1 HPW.out
      have HC := Lib.hid (f149_calls g cap N G A c ws done ch rest a (a + 20) wr (by have := HA1.out; simpa using this) (by have := HL.out; simpa using this) hda (by omega) HK1.out HG.out HAG.out (fun x hx => HI1.out x (by simp [hx])) hpp.1 hcap)
      have HPP := Lib.hid hpp
      have HCH := Lib.hid h1
      have hai : (a : Int) + 20 ≤ (N : Int) := by omega
      clear hda hl h1 h2 hpp
      unfold cmpV at HC
      go_wp2_with fail
      refine HC.out.mono ?_; rintro e w1 ⟨rfl, s', hp1, hs1, hA2, hm2⟩
      have HGO2 := Lib.hid (HGO.out.step hp1 (by rw [hp1.length_eq]; exact HCH.out) hs1 HPP.out.2.2)
      have HA2 : Hid (Arr w1 g cap (done ++ s' ++ rest)) := hA2
      have HM2 := Lib.hid (HM.out.trans hm2)
      have HPE2 : Hid ((done ++ s' ++ rest).Perm xs) := by
        refine List.Perm.trans ?_ HPE.out
        rw [List.append_assoc]
        exact List.Perm.append_left _ (List.Perm.append_right _ hp1)
      have HL2 : Hid ((done ++ s').length = a + 20 ∧ (done ++ s' ++ rest).length = N) := by
        have h1 := hp1.length_eq
        have h2 := HL.out
        have h3 := HDA.out
        have h4 := HCH.out
        unfold Hid
        simp at h2 ⊢
        omega
      clear hp1 hs1 hA2 hm2
      go_wp2_with fail
      go_roundg (N + 1 - (a + 20))
      case measure => omega
      case rel => exact ⟨a + 20, done ++ s', rest, hlt, rfl, val_int (by push_cast; rfl), val_int (by push_cast; omega), HL2.out.1, HL2.out.2, HA2.out, HGO2.out, HPP.out.2.1, HPE2.out, HM2.out⟩
    · have HC := Lib.hid (f149_calls g cap N G A c ws done todo [] a N wr (by simpa using HA1.out) (by simpa using HL.out) hda (by rw [List.length_append] at hl; omega) HK1.out HG.out HAG.out (fun x hx => HI1.out x (by simp [hx])) HPW.out hcap)
      have hai : ¬ (a : Int) + 20 ≤ (N : Int) := by omega
      have HT20 : Hid (todo.length ≤ 20) := by unfold Hid; rw [List.length_append] at hl; omega
      clear hda hl
      unfold cmpV at HC
      go_wp2_with fail
      refine HC.out.mono ?_; rintro e w1 ⟨rfl, s', hp1, hs1, hA2, hm2⟩
      have HA2 : Hid (Arr w1 g cap (done ++ s')) := by unfold Hid; simpa using hA2
      have HM2 := Lib.hid (HM.out.trans hm2)
      have HPE2 : Hid ((done ++ s').Perm xs) := List.Perm.trans (List.Perm.append_left _ hp1) HPE.out
      have HCH : Hid (Ch ws 20 (done ++ s')) := HGO.out s' (.last s' (by rw [hp1.length_eq]; exact HT20.out) hs1) hp1
      clear hp1 hs1 hA2 hm2 HA1 HGO HPW HPE HM HK1 HI1 HC HDA HL
      generalize done ++ s' = cur at HA2 HPE2 HCH
      go_wp2_with fail
      go_loopg [6] (N - 20) (fun gk i wr => ∃ (B : Nat) (cur : List Int), 0 < B ∧ B ≤ 20 + 2 * N ∧ gk = N - B ∧ i = .int .i64 (B : Nat) ∧ Ch ws B cur ∧ cur.Perm xs ∧ Arr wr g cap cur ∧ Mods (fun j => j = g) w wr)
      case atStart => exact ⟨20, cur, by omega, by omega, rfl, rfl, HCH.out, HPE2.out, HA2.out, HM2.out⟩
      case round =>
        obtain ⟨B, cur, hB0, hBN, rfl, rfl, hch, hpe, hA, hM⟩ := hrel
        have HCH := Lib.hid hch
        have HPE := Lib.hid hpe
        have HA3 := Lib.hid hA
        have HM3 := Lib.hid hM
        clear hch hpe hA hM
        by_cases hlt : B < N
        · obtain ⟨wo, rfl⟩ : ∃ wo : World, wo = wr := ⟨_, rfl⟩
          go_wp2_with fail
          go_loopg [7, 8] (N + 1) (fun gj i j wr => ∃ (a : Nat) (done todo : List Int), a ≤ N ∧ gj = N + 1 - a ∧ i = .int .i64 (a : Nat) ∧ j = .int .i64 ((a + 2 * B : Nat) : Int) ∧ done.length = a ∧ (done ++ todo).length = N ∧ Arr wr g cap (done ++ todo) ∧ Goes ws (2 * B) done todo ∧ Ch ws B todo ∧ (done ++ todo).Perm xs ∧ Mods (fun j => j = g) w wr)
          case atStart => exact ⟨0, [], cur, by omega, by omega, rfl, val_int (by push_cast; omega), rfl, by rw [List.nil_append, HPE.out.length_eq]; exact HN.out, HA3.out, Goes.start _ _ _, HCH.out, HPE.out, HM3.out⟩
          case round =>
            obtain ⟨a, done, todo, haN, rfl, rfl, rfl, hda, hl, hA, hgo, hch, hpe, hM⟩ := hrel
            have HA4 := Lib.hid hA
            have HGO := Lib.hid hgo
            have HCT := Lib.hid hch
            have HPE4 := Lib.hid hpe
            have HM4 := Lib.hid hM
            have HDA := Lib.hid hda
            have HL := Lib.hid hl
            have HI1 := Lib.hid (HIN.out.perm hpe)
            have HK1 := Lib.hid (HK.out.mods hM (fun h => HG.out h.symm) HAG.out)
            clear hA hgo hch hpe hM
            by_cases hlt2 : a + 2 * B ≤ N
            · rw [List.length_append] at hl
              obtain ⟨l, t1, e1, hl1, hls, hlx, hct⟩ := HCT.out.take (by omega)
              obtain ⟨r, rest, e2, hr1, hrs, hrx, hcr⟩ := hct.take (by rw [e1, List.length_append] at hl; omega)
              subst e2
              subst e1
              have hpre : SymPre g cap N G A c ws done l r rest wr := by
                refine ⟨by simpa using HA4.out, by simpa using HL.out, by omega, by omega, HK1.out, fun x hx => HI1.out x (by simp [hx]), fun x hx => HI1.out x (by simp [hx]), hls, hrs, fun x hx y hy => hlx x hx y (by simp [hy])⟩
              have HC := Lib.hid (f150_calls g cap N G A c ws HG.out HAG.out hcap done l r rest a (a + B) (a + 2 * B : Nat) wr hpre (by omega) (by omega) (by push_cast; omega))
              have HX : Hid ((∀ x ∈ l ++ r, ∀ y ∈ rest, x < y) ∧ (l ++ r).length = 2 * B ∧ Ch ws B rest) := by
                refine ⟨fun x hx y hy => ?_, by rw [List.length_append]; omega, hcr⟩
                rcases List.mem_append.1 hx with hx | hx
                · exact hlx x hx y (by simp [hy])
                · exact hrx x hx y hy
              have hai : (a : Int) + 2 * (B : Int) ≤ (N : Int) := by omega
              clear hda hl hpre hl1 hls hlx hct hr1 hrs hrx hcr
              unfold cmpV at HC
              go_wp2_with fail
              refine HC.out.mono ?_; rintro e w1 ⟨rfl, s', hp1, hs1, hA2, hm2⟩
              have HGO2 := Lib.hid (Goes.step (c := l ++ r) (todo := rest) (by have := HGO.out; simpa using this) hp1 (by rw [hp1.length_eq]; exact HX.out.2.1) hs1 HX.out.1)
              have HA5 := Lib.hid hA2
              have HM5 := Lib.hid (HM4.out.trans hm2)
              have HPE5 : Hid ((done ++ s' ++ rest).Perm xs) := by
                refine List.Perm.trans ?_ HPE4.out
                rw [List.append_assoc, ← List.append_assoc l]
                exact List.Perm.append_left _ (List.Perm.append_right _ hp1)
              have HL5 : Hid ((done ++ s').length = a + 2 * B ∧ (done ++ s' ++ rest).length = N) := by
                have h1 := hp1.length_eq
                have h2 := HL.out
                have h3 := HDA.out
                have h4 := HX.out.2.1
                unfold Hid
                simp at h1 h2 h4 ⊢
                omega
              clear hp1 hs1 hA2 hm2
              go_wp2_with fail
              go_roundg (N + 1 - (a + 2 * B))
              case measure => omega
              case rel => exact ⟨a + 2 * B, done ++ s', rest, hlt2, rfl, rfl, val_int (by push_cast; omega), HL5.out.1, HL5.out.2, HA5.out, HGO2.out, HX.out.2.2, HPE5.out, HM5.out⟩
            · have hai : ¬ (a : Int) + 2 * (B : Int) ≤ (N : Int) := by omega
              rw [List.length_append] at hl
              by_cases hm : a + B < N
              · obtain ⟨l, r, e1, hl1, hls, hlx, hct⟩ := HCT.out.take (by omega)
                subst e1
                rw [List.length_append] at hl
                have hrs := hct.small (by omega)
                have hpre : SymPre g cap N G A c ws done l r [] wr := by
                  refine ⟨by simpa using HA4.out, by simpa using HL.out, by omega, by omega, HK1.out, fun x hx => HI1.out x (by simp [hx]), fun x hx => HI1.out x (by simp [hx]), hls, hrs, hlx⟩
                have HC := Lib.hid (f150_calls g cap N G A c ws HG.out HAG.out hcap done l r [] a (a + B) N wr hpre (by omega) (by omega) (by omega))
                have HLR : Hid ((l ++ r).length ≤ 2 * B) := by unfold Hid; rw [List.length_append]; omega
                have hmi : (a : Int) + (B : Int) < (N : Int) := by omega
                clear hda hl hpre hl1 hls hlx hct hrs
                unfold cmpV at HC
                go_wp2_with fail
                refine HC.out.mono ?_; rintro e w1 ⟨rfl, s', hp1, hs1, hA2, hm2⟩
                have HA5 : Hid (Arr w1 g cap (done ++ s')) := by unfold Hid; simpa using hA2
                have HM5 := Lib.hid (HM4.out.trans hm2)
                have HPE5 : Hid ((done ++ s').Perm xs) := List.Perm.trans (List.Perm.append_left _ hp1) HPE4.out
                have HCH5 : Hid (Ch ws (2 * B) (done ++ s')) := HGO.out s' (.last s' (by rw [hp1.length_eq]; exact HLR.out) hs1) hp1
                clear hp1 hs1 hA2 hm2
                go_wp2_with fail
                go_roundg (N - 2 * B)
                case measure => omega
                case rel => exact ⟨2 * B, done ++ s', by omega, by omega, rfl, val_int (by push_cast; omega), HCH5.out, HPE5.out, HA5.out, HM5.out⟩
              · have hmi : ¬ (a : Int) + (B : Int) < (N : Int) := by omega
                have HCH5 : Hid (Ch ws (2 * B) (done ++ todo)) := HGO.out todo (.last todo (by omega) (HCT.out.small (by omega))) (List.Perm.refl _)
                clear hda hl
                go_wp2_with fail
                go_roundg (N - 2 * B)
                case measure => omega
                case rel => exact ⟨2 * B, done ++ todo, by omega, by omega, rfl, val_int (by push_cast; omega), HCH5.out, HPE4.out, HA4.out, HM4.out⟩
        · have HF := Lib.hid (HCH.out.small (by rw [HPE.out.length_eq, HN.out]; omega))
          go_wp2
          go_end0
          exact ⟨rfl, cur, HPE.out, HF.out, HA3.out, HM3.out⟩
set_option maxRecDepth 100000 in
theorem f104_calls (g cap N G : Nat) (A : Option Addr) (c : Nat) (ws xs : List Int) (w : World) (hA : Arr w g cap xs) (hN : xs.length = N) (hK : KS w G A c ws) (hgG : g ≠ G) (hAg : ∀ ad, A = some ad → ad.block ≠ g) (hin : InR ws xs) (hs : xs.Pairwise (· < ·)) (hcap : N ≤ 1000000) :
    Calls Try.prog 104 #[.slice (some ⟨g, 0, none⟩) N cap, cmpV G] w (SortPost ws g cap xs w) := by
  have HC := Lib.hid (f137_calls g cap N G A c ws xs w hA hN hK hgG hAg hin hs hcap)
  clear hA hN hK hgG hAg hin hs
  unfold cmpV at HC ⊢
  go_enter Try.func104, Try.ntmps104
  go_wp2_with fail
  refine HC.out.mono ?_; rintro e w1 ⟨rfl, s', hp1, hs1, hA2, hm2⟩
  have H := Lib.hid (And.intro hp1 (And.intro hs1 (And.intro hA2 hm2)))
  clear hp1 hs1 hA2 hm2
  go_wp2
  go_end0
  exact ⟨rfl, s', H.out.1, H.out.2.1, H.out.2.2.1, H.out.2.2.2⟩
set_option maxRecDepth 100000 in
theorem f149_nil (f : Value) (w : World) : Calls Try.prog 149 #[.slice none 0 0, .int .i64 0, .int .i64 0, f] w fun e w' => e = .returned (.tuple #[]) ∧ w' = w := by
  go_enter Try.func149, Try.ntmps149
  go_wp2_with fail
  refine wp_loop_once ?_
  go_wp2
  go_end0
  exact ⟨rfl, rfl⟩
set_option maxRecDepth 100000 in
theorem f104_nil (f : Value) (w : World) : Calls Try.prog 104 #[.slice none 0 0, f] w fun e w' => e = .returned (.tuple #[]) ∧ w' = w := by
  have h : Calls Try.prog 137 #[.slice none 0 0, .int .i64 0, f] w fun e w' => e = .returned (.tuple #[]) ∧ w' = w := by
    go_enter Try.func137, Try.ntmps137
    go_wp2_with fail
    refine wp_loop_once ?_
    go_wp2_with fail
    refine (f149_nil _ _).mono ?_; rintro e w1 ⟨rfl, rfl⟩
    go_wp2_with fail
    refine wp_loop_once ?_
    go_wp2
    go_end0
    exact ⟨rfl, rfl⟩
  go_enter Try.func104, Try.ntmps104
  go_wp2_with fail
  refine h.mono ?_; rintro e w1 ⟨rfl, rfl⟩
  go_wp2
  go_end0
  exact ⟨rfl, rfl⟩
end Go.Proofs.Ytblhbbgkkijkfaa
