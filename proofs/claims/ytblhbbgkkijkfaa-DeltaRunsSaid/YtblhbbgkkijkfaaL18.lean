/- barquelaw06.DeltaRuns, walked. -/
import Derived.Test.YtblhbbgkkijkfaaU2
namespace Go.Proofs.Ytblhbbgkkijkfaa
open Go.RowKit Go.Maps
theorem stps_take (l : List Stp) (k : Nat) (j : Nat) (u : Value) (h : (stps (l.take k))[j]? = some u) : (stps l)[j]? = some u := by
  have e : stps l = stps (l.take k) ++ stps (l.drop k) := by rw [← stps_append, List.take_append_drop]
  have hj := (List.getElem?_eq_some_iff.1 h).1
  rw [e, List.getElem?_append_left hj]
  exact h
theorem Rd.few {w : World} {A : Option Addr} {l : List Stp} (h : Rd w A (stps l)) (k : Nat) : Rd w A (stps (l.take k)) := fun j u hu => h j u (stps_take l k j u hu)
set_option maxRecDepth 100000 in
set_option maxHeartbeats 4000000 in
theorem deltaRuns_walk (a0 : ByteArray) (A : Option Addr) (n c : Nat) (l : List Stp) (w : World) (w0 : a0.size ≤ maxLen) (hn : l.length = n) (hr : Rd w A (stps l)) (ht : ∀ x ∈ l, x.text.size ≤ maxLen) (hnc : n ≤ c) :
    Calls Try.prog 18 #[.string a0, .slice A n c] w fun e w' => e = .returned (.bool true) ∧ Mods Nope w w' := by
  have H0 := Lib.hid w0
  have HC := Lib.hid (fun (b : ByteArray) (hb : b.size ≤ 524288) (m : Nat) (A2 : Option Addr) (hA : A2 = A) (hm : (l.take 200).length = m) wx (hx : Rd wx A (stps l)) => f64_calls b A m c (l.take 200) wx hm (hx.few 200) (fun x hx => ht x (List.mem_of_mem_take hx)) (by rw [List.length_take]; omega) hb)
  have HD := Lib.hid (fun (b : ByteArray) (hb : b.size ≤ 524288) (m : Nat) (A2 : Option Addr) (hA : A2 = A) (hm : (l.take 200).length = m) wx (hx : Rd wx A (stps l)) => f65_calls b A m c (l.take 200) wx hm (hx.few 200) (fun x hx => ht x (List.mem_of_mem_take hx)) (by rw [List.length_take]; omega) hb)
  have HR := Lib.hid hr
  have hcz := cutT_size a0 3000
  have HLT : Hid ((l.take 200).length = min 200 n) := by unfold Hid; rw [List.length_take, hn]
  by_cases h200 : 200 < n
  · have hd : decide ((200 : Int) < (n : Int)) = true := by simp; omega
    obtain ⟨g, off, hA, hcc⟩ := hr 0 ((stps l)[0]'(by rw [stps_length]; omega)) (List.getElem?_eq_getElem _)
    subst hA
    have hc0 : ¬ c = 0 := by omega
    have hm : (l.take 200).length = 200 := by rw [HLT.out]; omega
    have HM := Lib.hid hm
    clear hcc
    clear w0 hn hr ht hm
    go_enter Try.func18, Try.ntmps18
    go_wp2_with fail
    refine (f47_calls a0 3000 _ H0.out (by omega)).mono ?_; rintro e w1 ⟨rfl, rfl⟩
    generalize cutT a0 3000 = b' at *
    go_wp2_with fail
    refine (HC.out b' (by omega) 200 _ rfl HM.out _ HR.out).mono ?_; rintro e w2 ⟨rfl, h2⟩
    have HM2 := Lib.hid h2
    have HR2 := Lib.hid (HR.out.below h2)
    clear h2
    go_wp2_with fail
    refine (HD.out b' (by omega) 200 _ rfl HM.out _ HR2.out).mono ?_; rintro e w3 ⟨rfl, h3⟩
    have HM3 := Lib.hid (HM2.out.trans h3)
    clear h3
    generalize runP b' (l.take 200) = rp2 at *
    have hse : ((⟨rp2.1.toArray⟩ : ByteArray).toList == (⟨rp2.1.toArray⟩ : ByteArray).toList) = true := str_eq rfl
    generalize (⟨rp2.1.toArray⟩ : ByteArray) = o at *
    generalize rp2.2 = er at *
    have hee : (er == er) = true := by simp
    go_wp2_with fail
    refine (f51_calls _).mono ?_; rintro e w4 ⟨rfl, h4⟩
    have HM4 := Lib.hid (HM3.out.trans h4)
    clear h4
    go_wp2
    go_ret
    exact ⟨rfl, HM4.out⟩
  · have hd : decide ((200 : Int) < (n : Int)) = false := by simp; omega
    have hm : (l.take 200).length = n := by rw [HLT.out]; omega
    have HM := Lib.hid hm
    clear w0 hn hr ht hm
    go_enter Try.func18, Try.ntmps18
    go_wp2_with fail
    refine (f47_calls a0 3000 _ H0.out (by omega)).mono ?_; rintro e w1 ⟨rfl, rfl⟩
    generalize cutT a0 3000 = b' at *
    go_wp2_with fail
    refine (HC.out b' (by omega) n _ rfl HM.out _ HR.out).mono ?_; rintro e w2 ⟨rfl, h2⟩
    have HM2 := Lib.hid h2
    have HR2 := Lib.hid (HR.out.below h2)
    clear h2
    go_wp2_with fail
    refine (HD.out b' (by omega) n _ rfl HM.out _ HR2.out).mono ?_; rintro e w3 ⟨rfl, h3⟩
    have HM3 := Lib.hid (HM2.out.trans h3)
    clear h3
    generalize runP b' (l.take 200) = rp2 at *
    have hse : ((⟨rp2.1.toArray⟩ : ByteArray).toList == (⟨rp2.1.toArray⟩ : ByteArray).toList) = true := str_eq rfl
    generalize (⟨rp2.1.toArray⟩ : ByteArray) = o at *
    generalize rp2.2 = er at *
    have hee : (er == er) = true := by simp
    go_wp2_with fail
    refine (f51_calls _).mono ?_; rintro e w4 ⟨rfl, h4⟩
    have HM4 := Lib.hid (HM3.out.trans h4)
    clear h4
    go_wp2
    go_ret
    exact ⟨rfl, HM4.out⟩
end Go.Proofs.Ytblhbbgkkijkfaa
