/- barqueref06.Of, walked. -/
import Derived.Test.YtblhbbgkkijkfaaX3
import Derived.Test.YtblhbbgkkijkfaaK8
namespace Go.Proofs.Ytblhbbgkkijkfaa
open Go.RowKit Go.Maps
theorem results62 {w : World} {g : Nat} {x y : ByteArray} {n e : Int} {v : Value} (h : w.heap[g]? = some (.cells #[.string x, .string y, .int .i64 n, v] 56 (0, 0))) (tmps : Array Value) (h8 : tmps.getD 8 undef = .pointer (some ⟨g, 0, none⟩)) (h9 : tmps.getD 9 undef = .int .i64 e) :
    (results Try.f62 tmps).run Try.prog w = .ok (.tuple #[dltV x y n v, .int .i64 e]) w := by
  obtain ⟨r0, r1, r2, r3⟩ := cells4 h
  have h8' : tmps[8]?.getD undef = .pointer (some ⟨g, 0, none⟩) := by simpa using h8
  have h9' : tmps[9]?.getD undef = .int .i64 e := by simpa using h9
  simp [results, Try.results62, go_sem, r0, r1, r2, r3, dltV, h8', h9']
set_option maxRecDepth 100000 in
set_option maxHeartbeats 4000000 in
theorem f62_err (p : Value) (basis s : ByteArray) (x : Int) (w : World) (h : fitsB x = false) :
    Calls Try.prog 62 #[p, .string basis, .string s, .int .i64 x] w fun e w' => e = .returned (.tuple #[dltV ⟨#[]⟩ ⟨#[]⟩ 0 (.slice none 0 0), .int .i64 1]) ∧ Mods Nope w w' := by
  have HC := Lib.hid (fun wx => f31_err p basis x wx h)
  go_enter Try.func62, Try.ntmps62
  go_wp2_with fail
  refine (HC.out _).mono ?_; rintro e w1 ⟨rfl, h1⟩
  have HM := Lib.hid (((Mods.refl Nope w).alloc _).trans h1)
  have HR := Lib.hid (h1.row (heap_alloc_new w _) (fun h => h))
  clear h1 HC
  simp only [sigV]
  have hne : w.heap.size < w1.heap.size := row_lt HR.out
  have r0 : w1.cell? ⟨w.heap.size, 0, none⟩ = some (.string ⟨#[]⟩) := by rw [row_cell HR.out]; rfl
  have r1 : w1.cell? ⟨w.heap.size, 1, none⟩ = some (.string ⟨#[]⟩) := by rw [row_cell HR.out]; rfl
  have r2 : w1.cell? ⟨w.heap.size, 2, none⟩ = some (.int .i64 0) := by rw [row_cell HR.out]; rfl
  have r3 : w1.cell? ⟨w.heap.size, 3, none⟩ = some (.slice none 0 0) := by rw [row_cell HR.out]; rfl
  have f0 : ∀ j, w1.frozen? ⟨w.heap.size, j, none⟩ = false := fun j => row_frozen HR.out j
  go_wp2
  refine bodyPost_ret (results62 (row_alloc (row_set (row_set (row_set (row_set HR.out 0 _) 1 _) 2 _) 3 _) _) _ rfl rfl) rfl ⟨rfl, ?_⟩
  exact ((((HM.out.setCell _ (fun h => absurd h (Nat.lt_irrefl _)) _).setCell _ (fun h => absurd h (Nat.lt_irrefl _)) _).setCell _ (fun h => absurd h (Nat.lt_irrefl _)) _).setCell _ (fun h => absurd h (Nat.lt_irrefl _)) _).alloc _
theorem IsRef.ne_own {w : World} {base b B e size n : Nat} {v u : Value} {K : Bk} {xs : List Value} (h : IsRef w base b v K) (ho : w.ownsRow B e size u n xs) (h1 : e ≠ 9) (h2 : e ≠ 38) : ∀ k, u.ownBlock = some k → ¬ RB b v k := by
  intro k hk
  rcases ho.2 with ⟨rfl, _⟩ | ⟨g, cap, cur, rfl, _, hg, _⟩
  · simp [Value.ownBlock] at hk
  · obtain rfl : g = k := by simpa [Value.ownBlock] using hk
    exact h.ne_row hg h1 h2
/-- What the document's Of leaves. -/
structure ROfPost (b : Nat) (v : Value) (Good : Nat → Bk → Prop) (R : List Stp) (basis s : ByteArray) (w : World) (e : Ending) (w' : World) : Prop where
  ex : ∃ k K A c, e = .returned (.tuple #[dltV (K.mark basis) ((K.add basis).mark s) s.size (.slice A R.length c), .int .i64 0]) ∧ k ≤ s.size + 1 ∧ Good k K ∧ w'.ownsRow w.heap.size 117 3 (.slice A R.length c) R.length (stps R)
  mods : Mods (RB b v) w w'
set_option maxRecDepth 100000 in
set_option maxHeartbeats 4000000 in
theorem f62_ok (base b mb n : Nat) (v : Value) (B0 : Bk) (Good : Nat → Bk → Prop) (M : ByteArray → Int → Int) (TL : ByteArray → Bool) (basis s : ByteArray) (w : World) (hb : IsRef w base b v B0) (hL : B0.len + 524288 < 4398046511104) (hbs : basis.size ≤ 524288) (hs : s.size ≤ 524288) (h1 : 16 ≤ n) (h2 : n ≤ 1024) (hms : ∀ l t, ((B0.adds l).mark t).size = 32)
    (hA : Ans (sweak basis n (cnt basis.size n)) (smarks B0 basis n (cnt basis.size n)) (basis.size / n) n basis.size mb (B0.adds (pcs basis n (cnt basis.size n))) Good M TL) (hG : Good 0 (B0.adds (pcs basis n (cnt basis.size n)))) (hLN : ∀ k K, Good k K → k ≤ 2000000 → K.len + 2 < 4398046511104) :
    Calls Try.prog 62 #[.pointer (some ⟨b, 0, none⟩), .string basis, .string s, .int .i64 n] w (ROfPost b v Good (mkP basis.size n M TL s) basis s w) := by
  have HOK := Lib.hid (sigOK_sign B0 basis n hbs h1 h2 hms)
  have HWLEN := Lib.hid (sweak_length basis n (cnt basis.size n))
  have HSLEN : Hid ((smarks B0 basis n (cnt basis.size n)).length = cnt basis.size n) := smarks_length _ _ _ _
  have HSM : Hid (∀ m ∈ smarks B0 basis n (cnt basis.size n), m.size ≤ maxLen) := fun m hm => by rw [HOK.out.2.2.2.2.2.2.2 m hm]; simp [maxLen]
  have HLEN := Lib.hid hLN
  have HC := Lib.hid (fun wx (h : IsRef wx base b v B0) => f31_ok base b v B0 basis n wx h hL hbs h1 h2)
  have HB := Lib.hid hb
  generalize HR : mkP basis.size n M TL s = R
  have HR := Lib.hid HR
  clear hb hL hms hLN
  go_enter Try.func62, Try.ntmps62
  go_wp2_with fail
  refine (HC.out _ (HB.out.nope ((Mods.refl _ _).alloc _))).mono ?_; rintro e w1 ⟨wv, sv, rv, rfl, hw1, hs1, hb1, hm1, hdj, hrv⟩
  have HRES := Lib.hid (hm1.row (heap_alloc_new w _) (fun e => by
    rcases e with e | e
    · have := HB.out.lt; omega
    · have := HB.out.own_lt _ e; omega))
  have HNR : Hid (¬ RB b rv w.heap.size) := hb1.ne_row (e := 56) HRES.out (by decide) (by decide)
  have HM1 : Hid (Mods (RB b v) w w1) := Mods.trans ((Mods.refl _ _).alloc _) hm1
  have HWN := Lib.hid (hb1.ne_own hw1 (by decide) (by decide))
  have HSN : Hid (∀ k, sv.ownBlock = some k → ¬ RB b rv k) := by
    rintro k hk (rfl | hv)
    · obtain ⟨r, hr⟩ := hb1.row
      exact own_ne_row hs1 hr (by decide) k hk rfl
    · exact hdj k hv hk
  have HRV : Hid (∀ k, rv.ownBlock = some k → v.ownBlock = some k ∨ w.heap.size ≤ k) := fun k hk => (hrv k hk).imp id (fun h => by simp at h; omega)
  obtain ⟨A, c, rfl, _, _, hrw, hAo⟩ := Rd.of_owns hw1
  obtain ⟨A', c', rfl, _, _, hrs, hAo'⟩ := Rd.of_owns hs1
  have HAN : Hid (∀ a, A = some a → ¬ RB b rv a.block) := fun a ha => HWN.out _ (hAo a ha).1
  have HAN' : Hid (∀ a, A' = some a → ¬ RB b rv a.block) := fun a ha => HSN.out _ (hAo' a ha).1
  simp only [sigV]
  have HRW := Lib.hid hrw
  have HRS := Lib.hid hrs
  have HB1 := Lib.hid hb1
  clear hw1 hs1 hb1 hm1 hrw hrs HB HC hdj hrv hAo hAo' HWN HSN
  go_wp2_with fail
  have HRa : Hid (RSt base b rv (w1.alloc (.cells #[.int .i64 n, .int .i64 basis.size, .slice A (cnt basis.size n) c, .slice A' (cnt basis.size n) c'] 31)) (w1.alloc (.cells #[.int .i64 n, .int .i64 basis.size, .slice A (cnt basis.size n) c, .slice A' (cnt basis.size n) c'] 31)) (B0.adds (pcs basis n (cnt basis.size n)))) := RSt.refl (HB1.out.nope ((Mods.refl _ _).alloc _))
  have HM2 : Hid (Mods (RB b v) w (w1.alloc (.cells #[.int .i64 n, .int .i64 basis.size, .slice A (cnt basis.size n) c, .slice A' (cnt basis.size n) c'] 31))) := HM1.out.alloc _
  have HRES2 := Lib.hid (row_alloc HRES.out (.cells #[.int .i64 n, .int .i64 basis.size, .slice A (cnt basis.size n) c, .slice A' (cnt basis.size n) c'] 31))
  have HRW2 := Lib.hid (HRW.out.alloc (.cells #[.int .i64 n, .int .i64 basis.size, .slice A (cnt basis.size n) c, .slice A' (cnt basis.size n) c'] 31))
  have HRS2 := Lib.hid (HRS.out.alloc (.cells #[.int .i64 n, .int .i64 basis.size, .slice A (cnt basis.size n) c, .slice A' (cnt basis.size n) c'] 31))
  generalize w1.alloc (.cells #[.int .i64 n, .int .i64 basis.size, .slice A (cnt basis.size n) c, .slice A' (cnt basis.size n) c'] 31) = w2 at *
  refine (f70_ok base b mb n basis.size rv (B0.adds (pcs basis n (cnt basis.size n))) Good M TL A A' c c' _ _ _ _ s w2 w2 HRa.out HWLEN.out HSLEN.out HRW2.out HRS2.out HAN.out HAN'.out HSM.out HOK.out hs hA hG HLEN.out).mono ?_; rintro e w3 hP
  rw [HR.out] at hP
  obtain ⟨⟨AV, cV, rfl, hv⟩, ⟨k, K, hk, hGk, hst⟩⟩ := hP
  have HST := Lib.hid hst
  have HRES3 := Lib.hid (hst.mods.row HRES2.out HNR.out)
  have HV := Lib.hid hv
  have HGK := Lib.hid hGk
  have HK32 : Hid (K.len + 2 < 4398046511104) := by unfold Hid; exact HLEN.out k K hGk (by omega)
  clear hv hGk hst HRES HB1 HRW HRS HRW2 HRS2 HRa HRES2
  go_wp2_with fail
  refine (HST.out.mark basis (by have := HK32.out; omega) (by omega)).mono ?_; rintro e w4 ⟨rfl, hr4, hk4⟩
  have HST4 := Lib.hid hr4
  have HRES4 := Lib.hid (hk4.row _ _ _ _ (by decide) (by decide) HRES3.out)
  have HV4 := Lib.hid (hk4.owns HV.out (by decide) (by decide))
  clear hr4 hk4
  go_wp2_with fail
  refine (HST4.out.mark s (by have := HK32.out; have := Bk.len_add K basis; omega) (by omega)).mono ?_; rintro e w5 ⟨rfl, hr5, hk5⟩
  have HST5 := Lib.hid hr5
  have HRES5 := Lib.hid (hk5.row _ _ _ _ (by decide) (by decide) HRES4.out)
  have HV5 := Lib.hid (hk5.owns HV4.out (by decide) (by decide))
  clear hr5 hk5 HST HST4 HRES4 HV4 HRES3 HV
  obtain ⟨r0, r1, r2, r3⟩ := cells4 HRES5.out
  have f0 : ∀ j, w5.frozen? ⟨w.heap.size, j, none⟩ = false := fun j => row_frozen HRES5.out j
  go_wp2
  refine bodyPost_ret (results62 (row_set (row_set (row_set (row_set HRES5.out 0 _) 1 _) 2 _) 3 _) _ rfl rfl) rfl ?_
  have HS : Hid (Mods (fun j => j = w.heap.size) w5 ((((w5.setCell ⟨w.heap.size, 0, none⟩ (.string (K.mark basis))).setCell ⟨w.heap.size, 1, none⟩ (.string ((K.add basis).mark s))).setCell ⟨w.heap.size, 2, none⟩ (.int .i64 s.size)).setCell ⟨w.heap.size, 3, none⟩ (.slice AV R.length cV))) :=
    ((((Mods.refl (fun j => j = w.heap.size) w5).setCell ⟨w.heap.size, 0, none⟩ (fun _ => rfl) _).setCell ⟨w.heap.size, 1, none⟩ (fun _ => rfl) _).setCell ⟨w.heap.size, 2, none⟩ (fun _ => rfl) _).setCell ⟨w.heap.size, 3, none⟩ (fun _ => rfl) _
  have HM5 : Hid (Mods (RB b v) w w5) := HM2.out.then HST5.out.mods (fun i hi hM => by
    rcases hM with rfl | hM
    · exact .inl rfl
    · rcases HRV.out i hM with h | h
      · exact .inr h
      · omega)
  refine ⟨⟨k, K, AV, cV, rfl, hk, HGK.out, own_base (HS.out.owns HV5.out (fun j hj e => own_ne_row HV5.out HRES5.out (by decide) j hj e)) (by have := HM2.out.size; omega)⟩, HM5.out.then HS.out (fun i hi e => by omega)⟩
end Go.Proofs.Ytblhbbgkkijkfaa
