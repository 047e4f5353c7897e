/- delta.Of, walked. -/
import Derived.Test.YtblhbbgkkijkfaaK7
import Derived.Test.YtblhbbgkkijkfaaL14
namespace Go.Proofs.Ytblhbbgkkijkfaa
open Go.RowKit Go.Maps
/-- A delta as a value. -/
def dltV (x y : ByteArray) (n : Int) (v : Value) : Value := .agg #[.string x, .string y, .int .i64 n, v]
theorem results60 {w : World} {g : Nat} {x y : ByteArray} {n e : Int} {v : Value} (h : w.heap[g]? = some (.cells #[.string x, .string y, .int .i64 n, v] 56 (0, 0))) (tmps : Array Value) (h8 : tmps.getD 8 undef = .pointer (some ⟨g, 0, none⟩)) (h9 : tmps.getD 9 undef = .int .i64 e) :
    (results Try.f60 tmps).run Try.prog w = .ok (.tuple #[dltV x y n v, .int .i64 e]) w := by
  obtain ⟨r0, r1, r2, r3⟩ := cells4 h
  have h8' : tmps[8]?.getD undef = .pointer (some ⟨g, 0, none⟩) := by simpa using h8
  have h9' : tmps[9]?.getD undef = .int .i64 e := by simpa using h9
  simp [results, Try.results60, go_sem, r0, r1, r2, r3, dltV, h8', h9']
set_option maxRecDepth 100000 in
set_option maxHeartbeats 4000000 in
theorem f60_err (p : Value) (basis s : ByteArray) (x : Int) (w : World) (h : fitsB x = false) :
    Calls Try.prog 60 #[p, .string basis, .string s, .int .i64 x] w fun e w' => e = .returned (.tuple #[dltV ⟨#[]⟩ ⟨#[]⟩ 0 (.slice none 0 0), .int .i64 1]) ∧ Mods Nope w w' := by
  have HC := Lib.hid (fun wx => f30_err p basis x wx h)
  go_enter Try.func60, Try.ntmps60
  go_wp2_with fail
  refine (HC.out _).mono ?_; rintro e w1 ⟨rfl, h1⟩
  have HM := Lib.hid (((Mods.refl Nope w).alloc _).trans h1)
  have HR := Lib.hid (h1.row (heap_alloc_new w _) (fun h => h))
  clear h1 HC
  simp only [sigV]
  have hne : w.heap.size < w1.heap.size := row_lt HR.out
  have r0 : w1.cell? ⟨w.heap.size, 0, none⟩ = some (.string ⟨#[]⟩) := by rw [row_cell HR.out]; rfl
  have r1 : w1.cell? ⟨w.heap.size, 1, none⟩ = some (.string ⟨#[]⟩) := by rw [row_cell HR.out]; rfl
  have r2 : w1.cell? ⟨w.heap.size, 2, none⟩ = some (.int .i64 0) := by rw [row_cell HR.out]; rfl
  have r3 : w1.cell? ⟨w.heap.size, 3, none⟩ = some (.slice none 0 0) := by rw [row_cell HR.out]; rfl
  have f0 : ∀ j, w1.frozen? ⟨w.heap.size, j, none⟩ = false := fun j => row_frozen HR.out j
  go_wp2
  refine bodyPost_ret (results60 (row_alloc (row_set (row_set (row_set (row_set HR.out 0 _) 1 _) 2 _) 3 _) _) _ rfl rfl) rfl ⟨rfl, ?_⟩
  exact ((((HM.out.setCell _ (fun h => absurd h (Nat.lt_irrefl _)) _).setCell _ (fun h => absurd h (Nat.lt_irrefl _)) _).setCell _ (fun h => absurd h (Nat.lt_irrefl _)) _).setCell _ (fun h => absurd h (Nat.lt_irrefl _)) _).alloc _
/-- What Of leaves. -/
structure DOfPost (b mb : Nat) (Good : Nat → Bk → Prop) (R : List Stp) (basis s : ByteArray) (w : World) (e : Ending) (w' : World) : Prop where
  ex : ∃ k K v, e = .returned (.tuple #[dltV (K.mark basis) ((K.add basis).mark s) s.size v, .int .i64 0]) ∧ k ≤ s.size + 1 ∧ Good k K ∧ IsBook w' b mb ((K.add basis).add s) ∧ w'.ownsRow w.heap.size 117 3 v R.length (stps R)
  mods : Mods (fun j => j = mb) w w'
theorem MK.eq {K : Bk} {mb j : Nat} (h : MK K mb j) : j = mb := by
  cases K with
  | ideal L => exact h
  | real f => exact h.elim
set_option maxRecDepth 100000 in
set_option maxHeartbeats 4000000 in
theorem f60_ok (b mb n : Nat) (B0 : Bk) (Good : Nat → Bk → Prop) (M : ByteArray → Int → Int) (TL : ByteArray → Bool) (basis s : ByteArray) (w : World) (hb : IsBook w b mb B0) (hL : B0.len + 524288 < 1125899906842624) (hbs : basis.size ≤ 524288) (hs : s.size ≤ 524288) (h1 : 16 ≤ n) (h2 : n ≤ 1024) (hms : ∀ l t, ((B0.adds l).mark t).size = 32)
    (hA : Ans (sweak basis n (cnt basis.size n)) (smarks B0 basis n (cnt basis.size n)) (basis.size / n) n basis.size mb (B0.adds (pcs basis n (cnt basis.size n))) Good M TL) (hG : Good 0 (B0.adds (pcs basis n (cnt basis.size n)))) :
    Calls Try.prog 60 #[.pointer (some ⟨b, 0, none⟩), .string basis, .string s, .int .i64 n] w (DOfPost b mb Good (mkP basis.size n M TL s) basis s w) := by
  have HOK := Lib.hid (sigOK_sign B0 basis n hbs h1 h2 hms)
  have HWLEN := Lib.hid (sweak_length basis n (cnt basis.size n))
  have HSLEN : Hid ((smarks B0 basis n (cnt basis.size n)).length = cnt basis.size n) := smarks_length _ _ _ _
  have HSM : Hid (∀ m ∈ smarks B0 basis n (cnt basis.size n), m.size ≤ maxLen) := fun m hm => by rw [HOK.out.2.2.2.2.2.2.2 m hm]; simp [maxLen]
  have HLEN := Lib.hid (fun k K h hk => hA.len2 k K h hk)
  have HC := Lib.hid (fun wx (h : IsBook wx b mb B0) => f30_ok b mb B0 basis n wx h hL hbs h1 h2)
  have HB := Lib.hid hb
  generalize HR : mkP basis.size n M TL s = R
  have HR := Lib.hid HR
  clear hb hL hms
  go_enter Try.func60, Try.ntmps60
  go_wp2_with fail
  refine (HC.out _ (HB.out.nope ((Mods.refl _ _).alloc _))).mono ?_; rintro e w1 ⟨wv, sv, rfl, hw1, hs1, hb1, hm1⟩
  obtain ⟨A, c, rfl, _, _, hrw, _⟩ := Rd.of_owns hw1
  obtain ⟨A', c', rfl, _, _, hrs, _⟩ := Rd.of_owns hs1
  simp only [sigV]
  have hlt := HB.out.lt
  have HM1 : Hid (Mods (fun j => j = mb) w w1) := Mods.trans ((Mods.refl _ _).alloc _) hm1
  have HRES := Lib.hid (hm1.row (heap_alloc_new w _) (fun e => by have : w.heap.size = mb := e; omega))
  have HRW := Lib.hid hrw
  have HRS := Lib.hid hrs
  have HB1 := Lib.hid hb1
  clear hw1 hs1 hb1 hm1 hrw hrs HB HC
  go_wp2_with fail
  refine (f69_ok b mb n basis.size (B0.adds (pcs basis n (cnt basis.size n))) Good M TL A A' c c' _ _ _ _ s _ HWLEN.out HSLEN.out (HRW.out.alloc _) (HRS.out.alloc _) HSM.out HOK.out hs (HB1.out.nope ((Mods.refl _ _).alloc _)) hA hG).mono ?_; rintro e w3 hP
  rw [HR.out] at hP
  obtain ⟨⟨v, rfl, hv⟩, ⟨k, K, hk, hGk, hbk, hkd⟩, hm3⟩ := hP
  obtain ⟨AV, cV, rfl, _, _, _, _⟩ := Rd.of_owns hv
  have HM3 : Hid (Mods (fun j => j = mb) w w3) := (HM1.out.alloc _).trans (hm3.mono (fun _ _ e => MK.eq e))
  have HRES3 := Lib.hid (hm3.row (row_alloc HRES.out _) (fun e => by have := MK.eq e; omega))
  have HV := Lib.hid (own_base hv (show w.heap.size ≤ _ by have := HM1.out.size; simp; omega))
  have HB3 := Lib.hid hbk
  have HGK := Lib.hid hGk
  have HK32 : Hid (K.len < 1125899906842624) := by unfold Hid; have := HLEN.out k K hGk (by omega); omega
  have HK33 : Hid ((K.add basis).len < 1125899906842624) := by unfold Hid; have := HLEN.out k K hGk (by omega); have := Bk.len_add K basis; omega
  clear hv hbk hGk hm3 HM1 HRES HB1 HRW HRS hkd
  go_wp2_with fail
  refine (f78_mk b mb K basis _ HB3.out HK32.out (by omega)).mono ?_; rintro e w4 ⟨rfl, hb4, hm4⟩
  have HB4 := Lib.hid hb4
  have HM4 := Lib.hid (HM3.out.trans (hm4.mono (fun _ _ e => MK.eq e)))
  have HRES4 := Lib.hid (hm4.row HRES3.out (fun e => by have := MK.eq e; omega))
  have HV4 := Lib.hid (hm4.owns HV.out (book_own HB3.out HV.out))
  clear hb4 hm4
  go_wp2_with fail
  refine (f78_mk b mb (K.add basis) s _ HB4.out HK33.out (by omega)).mono ?_; rintro e w5 ⟨rfl, hb5, hm5⟩
  have HB5 := Lib.hid hb5
  have HM5 := Lib.hid (HM4.out.trans (hm5.mono (fun _ _ e => MK.eq e)))
  have HRES5 := Lib.hid (hm5.row HRES4.out (fun e => by have := MK.eq e; omega))
  have HV5 := Lib.hid (hm5.owns HV4.out (book_own HB4.out HV4.out))
  clear hb5 hm5 HM4 HRES4 HV4 HM3 HRES3 HV
  obtain ⟨r0, r1, r2, r3⟩ := cells4 HRES5.out
  have f0 : ∀ j, w5.frozen? ⟨w.heap.size, j, none⟩ = false := fun j => row_frozen HRES5.out j
  go_wp2
  refine bodyPost_ret (results60 (row_set (row_set (row_set (row_set HRES5.out 0 _) 1 _) 2 _) 3 _) _ rfl rfl) rfl ?_
  have HS : Hid (Mods (fun j => j = w.heap.size) w5 ((((w5.setCell ⟨w.heap.size, 0, none⟩ (.string (K.mark basis))).setCell ⟨w.heap.size, 1, none⟩ (.string ((K.add basis).mark s))).setCell ⟨w.heap.size, 2, none⟩ (.int .i64 s.size)).setCell ⟨w.heap.size, 3, none⟩ (.slice AV R.length cV))) :=
    ((((Mods.refl (fun j => j = w.heap.size) w5).setCell ⟨w.heap.size, 0, none⟩ (fun _ => rfl) _).setCell ⟨w.heap.size, 1, none⟩ (fun _ => rfl) _).setCell ⟨w.heap.size, 2, none⟩ (fun _ => rfl) _).setCell ⟨w.heap.size, 3, none⟩ (fun _ => rfl) _
  refine ⟨⟨k, K, _, rfl, hk, HGK.out, HB5.out.mods HS.out (by omega) (by omega), HS.out.owns HV5.out (fun j hj e => own_ne_row HV5.out HRES5.out (by decide) j hj e)⟩, HM5.out.then HS.out (fun i hi e => by omega)⟩
end Go.Proofs.Ytblhbbgkkijkfaa
