/- barqueref06.Make, walked. -/
import Derived.Test.YtblhbbgkkijkfaaX2
import Derived.Test.YtblhbbgkkijkfaaU3
import Derived.Test.YtblhbbgkkijkfaaK7
import Derived.Test.YtblhbbgkkijkfaaSC
namespace Go.Proofs.Ytblhbbgkkijkfaa
open Go.RowKit Go.Maps
theorem RSt.ofT {base b B : Nat} {v : Value} {w0 w wx : World} {K : Bk} (h : RSt base b v w0 w K) (hB : w0.heap.size ≤ B) (hm : Mods (OfT 117 B w) w wx) : RSt base b v w0 wx K := by
  obtain ⟨v', h1, h2⟩ := h.ex
  have hb : ¬ OfT 117 B w b := by
    rintro ⟨_, cs, fr, hc⟩
    exact h1.ne_row hc (by decide) (by decide) (.inl rfl)
  have hv : ∀ k, v'.ownBlock = some k → ¬ OfT 117 B w k := by
    rintro k hk ⟨_, cs, fr, hc⟩
    exact h1.ne_row hc (by decide) (by decide) (.inr hk)
  exact ⟨⟨v', h1.mods hm hb hv, h2⟩, h.mods.then hm (fun i hi hM => absurd (Nat.le_trans hB hM.1) (Nat.not_le.2 hi))⟩
theorem fine_chunks (t : ByteArray) : ∀ x ∈ chunks t, Fine x := by
  intro x hx
  refine ⟨?_, chunks_in t x hx⟩
  have key : ∀ (n : Nat) (t : ByteArray), ∀ x ∈ chunksN n t, x.text.size ≠ 0 ∧ x.len = 0 := by
    intro n
    induction n with
    | zero => intro t x hx; simp [chunksN] at hx
    | succ n ih =>
      intro t x hx
      unfold chunksN at hx
      split at hx
      · simp at hx
      · rcases List.mem_cons.1 hx with rfl | hx
        · refine ⟨?_, rfl⟩
          show (t.extract 0 (min t.size 4096)).size ≠ 0
          rw [ByteArray.size_extract]; omega
        · exact ih _ x hx
  obtain ⟨h1, h2⟩ := key _ t x hx
  constructor
  · intro h; exact absurd h h1
  · intro h; omega
theorem fine_cpy {l : List Stp} {a n : Int} (h : ∀ x ∈ l, Fine x) (ha : 0 ≤ a) (hn : 0 < n) (han : a + n ≤ 524288) : ∀ x ∈ cpy l a n, Fine x := by
  intro x hx
  have hi := cpy_in (fun y hy => (h y hy).2) ha (Int.le_of_lt hn) han x hx
  refine ⟨?_, hi⟩
  have e0 : (⟨#[]⟩ : ByteArray).size = 0 := rfl
  rcases List.eq_nil_or_concat l with rfl | ⟨l0, y, rfl⟩
  · rw [cpy_nil, List.mem_singleton] at hx
    subst hx
    exact ⟨fun _ => hn, fun _ => e0⟩
  · rw [List.concat_eq_append] at hx h
    rw [cpy_snoc] at hx
    have hy := h y (by simp)
    split at hx
    · rename_i hc
      rcases List.mem_append.1 hx with hx | hx
      · exact (h x (by simp [hx])).1
      · rw [List.mem_singleton] at hx
        subst hx
        exact ⟨fun _ => by show 0 < y.len + n; omega, fun _ => hy.1.2 hc.1⟩
    · rcases List.mem_append.1 hx with hx | hx
      · exact (h x hx).1
      · rw [List.mem_singleton] at hx
        subst hx
        exact ⟨fun _ => hn, fun _ => e0⟩
/-- What Make's loop holds. -/
structure MkRt (base b : Nat) (v : Value) (w0 wr : World) (B gb blk size : Nat) (box : Array Value) (Good : Nat → Bk → Prop) (M : ByteArray → Int → Int) (TL : ByteArray → Bool) (s : ByteArray) (R : List Stp) (a : Nat) (z : Int) (lv tv : Value) : Prop where
  ex : ∃ (l : List Stp) (t : ByteArray) (A : Option Addr) (c k : Nat) (K : Bk) (f : Nat), lv = .slice A l.length c ∧ tv = .string t ∧ RSt base b v w0 wr K ∧ Good k K ∧ wr.ownsRow B 117 3 (.slice A l.length c) l.length (stps l) ∧ k ≤ a ∧ l.length + t.size ≤ a ∧ (∀ x ∈ l, Fine x) ∧ mkGo size blk M TL s f a z l t = R ∧ s.size < a + f
  box : wr.heap[gb]? = some (.cells box 31 (0, 0))
  base : B ≤ wr.heap.size
  le : a ≤ s.size
/-- What the document's Make leaves. -/
structure MkRPost (base b : Nat) (v : Value) (w0 : World) (Good : Nat → Bk → Prop) (R : List Stp) (n : Nat) (w : World) (e : Ending) (w' : World) : Prop where
  ex : ∃ A c, e = .returned (.tuple #[.slice A R.length c, .int .i64 0]) ∧ w'.ownsRow w.heap.size 117 3 (.slice A R.length c) R.length (stps R)
  book : ∃ k K, k ≤ n + 1 ∧ Good k K ∧ RSt base b v w0 w' K
set_option maxRecDepth 100000 in
set_option maxHeartbeats 4000000 in
theorem f70_bad (p : Value) (blk size : Int) (A A' : Option Addr) (c c' l m : Nat) (ws : List Int) (ms : List ByteArray) (s : ByteArray) (w : World) (hl : ws.length = l) (hm : ms.length = m) (hw : Rd w A (ints ws)) (hs : Rd w A' (strs ms)) (hz : ∀ m ∈ ms, m.size ≤ maxLen) (hlb : l ≤ maxLen) (hmb : m ≤ maxLen) (hok : sigB blk size ws ms = false) :
    Calls Try.prog 70 #[p, .agg #[.int .i64 blk, .int .i64 size, .slice A l c, .slice A' m c'], .string s] w fun e w' => e = .returned (.tuple #[.slice none 0 0, .int .i64 1]) ∧ Mods Nope w w' := by
  have HC := Lib.hid (fun wx h1 h2 => f39_calls blk size A A' c c' l m ws ms wx hl hm h1 h2 hz hlb hmb)
  have HW := Lib.hid (hw.alloc (.cells #[.int .i64 blk, .int .i64 size, .slice A l c, .slice A' m c'] 31))
  have HS := Lib.hid (hs.alloc (.cells #[.int .i64 blk, .int .i64 size, .slice A l c, .slice A' m c'] 31))
  rw [hok] at HC
  clear hl hm hw hs hz hok hlb hmb
  go_enter Try.func70, Try.ntmps70
  go_wp2_with fail
  refine (HC.out _ HW.out HS.out).mono ?_; rintro e w1 ⟨rfl, h1⟩
  have H := Lib.hid (((Mods.refl Nope w).alloc _).trans h1)
  clear h1
  go_wp2
  go_ret2
  exact ⟨rfl, H.out⟩
set_option maxRecDepth 100000 in
set_option maxHeartbeats 4000000 in
theorem f70_long (p : Value) (blk size : Int) (A A' : Option Addr) (c c' l m : Nat) (ws : List Int) (ms : List ByteArray) (s : ByteArray) (w : World) (hl : ws.length = l) (hm : ms.length = m) (hw : Rd w A (ints ws)) (hs : Rd w A' (strs ms)) (hz : ∀ m ∈ ms, m.size ≤ maxLen) (hlb : l ≤ maxLen) (hmb : m ≤ maxLen) (hok : sigB blk size ws ms = true) (hlong : 524288 < s.size) (hs2 : s.size ≤ maxLen) :
    Calls Try.prog 70 #[p, .agg #[.int .i64 blk, .int .i64 size, .slice A l c, .slice A' m c'], .string s] w fun e w' => e = .returned (.tuple #[.slice none 0 0, .int .i64 4]) ∧ Mods Nope w w' := by
  have HC := Lib.hid (fun wx h1 h2 => f39_calls blk size A A' c c' l m ws ms wx hl hm h1 h2 hz hlb hmb)
  have HW := Lib.hid (hw.alloc (.cells #[.int .i64 blk, .int .i64 size, .slice A l c, .slice A' m c'] 31))
  have HS := Lib.hid (hs.alloc (.cells #[.int .i64 blk, .int .i64 size, .slice A l c, .slice A' m c'] 31))
  have hd : decide ((524288 : Int) < (s.size : Int)) = true := by simp; omega
  have HS2 := Lib.hid hs2
  rw [hok] at HC
  clear hl hm hw hs hz hok hlb hmb hs2
  go_enter Try.func70, Try.ntmps70
  go_wp2_with fail
  refine (HC.out _ HW.out HS.out).mono ?_; rintro e w1 ⟨rfl, h1⟩
  have H := Lib.hid (((Mods.refl Nope w).alloc _).trans h1)
  clear h1
  go_wp2
  go_ret2
  exact ⟨rfl, H.out⟩
set_option maxRecDepth 100000 in
set_option maxHeartbeats 4000000 in
theorem f70_ok (base b mb blk size : Nat) (v : Value) (K0 : Bk) (Good : Nat → Bk → Prop) (M : ByteArray → Int → Int) (TL : ByteArray → Bool) (A A' : Option Addr) (c c' l m : Nat) (ws : List Int) (ms : List ByteArray) (s : ByteArray) (w0 w : World)
    (hR : RSt base b v w0 w K0) (hl : ws.length = l) (hm : ms.length = m) (hw : Rd w0 A (ints ws)) (hs : Rd w0 A' (strs ms)) (hA : ∀ a, A = some a → ¬ RB b v a.block) (hA' : ∀ a, A' = some a → ¬ RB b v a.block)
    (hz : ∀ m ∈ ms, m.size ≤ maxLen) (hok : SigOK blk size ws ms) (hlen : s.size ≤ 524288) (hAns : Ans ws ms (size / blk) blk size mb K0 Good M TL) (hG : Good 0 K0) (hL : ∀ k K, Good k K → k ≤ 2000000 → K.len + 2 < 4398046511104) :
    Calls Try.prog 70 #[.pointer (some ⟨b, 0, none⟩), .agg #[.int .i64 blk, .int .i64 size, .slice A l c, .slice A' m c'], .string s] w (MkRPost base b v w0 Good (mkP size blk M TL s) s.size w) := by
  have hblk : 16 ≤ blk := by have := hok.1; omega
  have hblk2 : blk ≤ 1024 := by have := hok.2.1; omega
  have HSZ : Hid (size ≤ 524288) := by unfold Hid; have := hok.2.2.2.1; omega
  have HWL : Hid (ws.length = cnt size blk) := by have := hok.2.2.2.2.1; rwa [Int.toNat_natCast, Int.toNat_natCast] at this
  have HML : Hid (ms.length = ws.length) := hok.2.2.2.2.2.1
  have hwl2 : ws.length ≤ 524288 := by rw [HWL.out]; exact Nat.le_trans (cnt_le size blk (by omega)) HSZ.out
  have HC := Lib.hid (fun wx h1 h2 => f39_calls blk size A A' c c' l m ws ms wx hl hm h1 h2 hz (by unfold maxLen; omega) (by unfold maxLen; have := HML.out; omega))
  rw [sigB_true.2 hok] at HC
  have hd : decide ((524288 : Int) < (s.size : Int)) = false := by simp; omega
  have HR := Lib.hid hR
  have HG := Lib.hid hG
  have HLN := Lib.hid hL
  have HAN := Lib.hid hAns
  have H114 := Lib.hid (fun wx (K : Bk) (h : RSt base b v w0 wx K) (hL : K.len + 1 < 4398046511104) (t : ByteArray) (ht : t.size ≤ 524288) z => f114_calls base b blk size v K A A' c c' l m ws ms (wk t) t z w0 wx h hl hm hw hs hA hA' hL ht hblk HSZ.out (by rw [← hl, HWL.out]; exact div_le_cnt _ _ (by omega)) (by rw [← hm, HML.out, HWL.out]; exact div_le_cnt _ _ (by omega)))
  have H117 := Lib.hid (fun wx (K : Bk) (h : RSt base b v w0 wx K) (hL : K.len < 4398046511104) (t : ByteArray) (ht : t.size ≤ 524288) => f117_calls base b blk size v K A A' c c' l m ws ms t w0 wx h hl hm hw hs hA hA' hL ht hblk HSZ.out HWL.out HML.out)
  have HW := Lib.hid hw
  have HS := Lib.hid hs
  have HAA := Lib.hid hA
  have HAS := Lib.hid hA'
  have HB0 : Hid (w0.heap.size ≤ w.heap.size) := Lib.hid hR.mods.size
  obtain ⟨R, hRR⟩ : ∃ R, R = mkP size blk M TL s := ⟨_, rfl⟩
  have HRR := Lib.hid hRR.symm
  rw [← hRR]
  unfold mkP at HRR
  suffices HH : Calls Try.prog 70 #[.pointer (some ⟨b, 0, none⟩), .agg #[.int .i64 blk, .int .i64 size, .slice A l c, .slice A' m c'], .string s] w (fun e w' => ∃ A2 c2, e = .returned (.tuple #[.slice A2 R.length c2, .int .i64 0]) ∧ w'.ownsRow w.heap.size 117 3 (.slice A2 R.length c2) R.length (stps R) ∧ ∃ k K, k ≤ s.size + 1 ∧ Good k K ∧ RSt base b v w0 w' K) from
    HH.mono fun e w' ⟨A2, c2, h1, h2, h3⟩ => ⟨⟨A2, c2, h1, h2⟩, h3⟩
  clear hw hs hz hok hG hRR hR hA hA' hl hm hL hAns hwl2
  go_enter Try.func70, Try.ntmps70
  go_wp2_with fail
  have HBOX := Lib.hid (heap_alloc_new w (.cells #[.int .i64 blk, .int .i64 size, .slice A l c, .slice A' m c'] 31))
  have HRa := Lib.hid (HR.out.nope ((Mods.refl _ _).alloc (.cells #[.int .i64 blk, .int .i64 size, .slice A l c, .slice A' m c'] 31)))
  have hBa : w.heap.size ≤ (w.alloc (.cells #[.int .i64 blk, .int .i64 size, .slice A l c, .slice A' m c'] 31)).heap.size := by simp
  generalize w.alloc (.cells #[.int .i64 blk, .int .i64 size, .slice A l c, .slice A' m c'] 31) = wa at *
  generalize hB : w.heap.size = B at *
  have HBE := Lib.hid hB
  clear hB
  refine (HC.out _ (HRa.out.rd HW.out HAA.out) (HRa.out.rd HS.out HAS.out)).mono ?_; rintro e w1 ⟨rfl, h1⟩
  have HR1 := Lib.hid (HRa.out.nope h1)
  have HBX := Lib.hid (h1.row HBOX.out (fun h => h))
  have hB1 : B ≤ w1.heap.size := Nat.le_trans hBa h1.size
  clear h1 HR HRa HBOX hBa HC
  go_upto_region 9 with fail
  go_loopg [8, 9, 10, 11] (s.size + 1) (fun gk lv tv wn av wr => ∃ (a : Nat) (z : Int), gk = s.size + 1 - a ∧ wn = .int .i64 z ∧ av = .int .i64 a ∧ 0 ≤ z ∧ z ≤ 600000 ∧ MkRt base b v w0 wr B B blk size #[.int .i64 blk, .int .i64 size, .slice A l c, .slice A' m c'] Good M TL s R a z lv tv)
  case atStart => exact ⟨0, 0, rfl, rfl, rfl, by omega, by omega, ⟨⟨[], ⟨#[]⟩, none, 0, 0, K0, s.size + 1, rfl, rfl, HR1.out, HG.out, World.ownsRow_nil _ _ _ _, Nat.le_refl _, Nat.le_refl _, (fun x hx => by simp at hx), HRR.out, by omega⟩, HBX.out, hB1, Nat.zero_le _⟩⟩
  case round =>
    clear HR1 HBX hB1 HRR
    obtain ⟨a, z, hgk, rfl, rfl, hz0, hz1, hM⟩ := hrel
    obtain ⟨l9, t9, A9, c9, k9, K9, f9, rfl, rfl, hR9, hG9, ho9, hk9, hl9, hf9, hm9, hs9⟩ := hM.ex
    have hle := hM.le
    have hBr := hM.base
    have HBX := Lib.hid hM.box
    have HR9 := Lib.hid hR9
    have HG9 := Lib.hid hG9
    have HO9 := Lib.hid ho9
    have HF9 := Lib.hid hf9
    have HM9 := Lib.hid hm9
    obtain ⟨b0, b1, b2, b3⟩ := cells4 hM.box
    clear hM hR9 hG9 ho9 hf9 hm9
    by_cases hroom : a + blk ≤ s.size
    · have hd1 : decide ((blk : Int) ≤ (s.size : Int) - (a : Int)) = true := by simp; omega
      obtain ⟨f, rfl⟩ : ∃ f, f9 = f + 1 := ⟨f9 - 1, by omega⟩
      obtain ⟨e1, he1⟩ : ∃ e1, e1 = a + blk := ⟨_, rfl⟩
      have hei : (a : Int) + (blk : Int) = (e1 : Int) := by omega
      have hes : e1 ≤ s.size := by omega
      have hae : a ≤ e1 := by omega
      have hew : s.extract a e1 = win s a blk := by rw [he1]; rfl
      have HE1 := Lib.hid he1
      clear he1
      obtain ⟨t1, t2⟩ := HAN.out.mt k9 K9 (win s a blk) z HG9.out (by omega) (win_size hroom)
      have h114 := fun wx h => H114.out wx K9 h (by have := HLN.out k9 K9 HG9.out (by omega); omega) (win s a blk) (by rw [win_size hroom]; omega) z
      simp only [t1] at h114
      have H4 := Lib.hid h114
      have HG5 := Lib.hid t2
      obtain ⟨r1, r2⟩ := HAN.out.rng (win s a blk) z
      have HRS : Hid ((if M (win s a blk) z < 0 then mkGo size blk M TL s f (a + 1) z l9 (t9 ++ s.extract a (a + 1)) else mkGo size blk M TL s f (a + blk) (M (win s a blk) z + 1) (cpy (l9 ++ chunks t9) (M (win s a blk) z * blk) blk) ⟨#[]⟩) = R) := by
        have h := HM9.out
        rw [mkGo, if_pos hroom] at h
        exact h
      have hwz : (win s a blk).size ≤ 524288 := by rw [win_size hroom]; omega
      clear h114 t1 t2 HM9
      generalize M (win s a blk) z = iv at *
      generalize (mtcB ws (size / blk) blk K9 (wk (win s a blk)) (win s a blk)) = K5 at *
      go_upto_region 11 with fail
      try rw [hew]
      generalize win s a blk = wn at *
      go_region_held3 (fun w' => w'.cell? ⟨B, 0, none⟩ = some (.int .i64 blk) ∧ w'.cell? ⟨B, 1, none⟩ = some (.int .i64 size) ∧ w'.cell? ⟨B, 2, none⟩ = some (.slice A l c) ∧ w'.cell? ⟨B, 3, none⟩ = some (.slice A' m c')) (go_keep)
        (first
          | (go_at_call 59; refine (f59_calls _ _ hwz).mono ?_; rintro e w2 ⟨rfl, rfl⟩)
          | (go_at_call 114; refine (H4.out _ (HR9.out.nope (by repeat (with_reducible first | exact Mods.refl _ _ | apply Mods.drew | apply Mods.drewN)))).mono ?_; rintro e w3 ⟨rfl, hr3, hk3⟩
             have HR3 := Lib.hid hr3
             have HK3 : Hid (Keeps wr w3) := Keeps.trans (Keeps.nope (by repeat (with_reducible first | exact Mods.refl _ _ | apply Mods.drew | apply Mods.drewN))) hk3
             have HBX3 := Lib.hid (HK3.out.row _ _ _ _ (by decide) (by decide) HBX.out)
             have hx0 := (cells4 HBX3.out).1
             have hx1 := (cells4 HBX3.out).2.1
             have hx2 := (cells4 HBX3.out).2.2.1
             have hx3 := (cells4 HBX3.out).2.2.2
             have HO3 := Lib.hid (HK3.out.owns HO9.out (by decide) (by decide))
             have hB3 : B ≤ w3.heap.size := Nat.le_trans hBr HK3.out.size
             clear hr3 hk3))
      all_goals
        clear H4 H114 H117 HR9 HBX HO9
        by_cases hneg : iv < 0
        · have hdn : decide (iv < 0) = true := decide_eq_true hneg
          rw [if_pos hneg] at HRS
          obtain ⟨a9, ha9⟩ : ∃ a9, a9 = a + 1 := ⟨_, rfl⟩
          have hai : (a : Int) + 1 = (a9 : Int) := by omega
          have ha9s : a9 ≤ s.size := by omega
          have haa9 : a ≤ a9 := by omega
          have hx9 : (s.extract a a9).size = 1 := by rw [ByteArray.size_extract]; omega
          have ht9z : (t9 ++ s.extract a a9).size = t9.size + 1 := by rw [ByteArray.size_append, hx9]
          have HMK : Hid (MkRt base b v w0 w3 B B blk size #[.int .i64 blk, .int .i64 size, .slice A l c, .slice A' m c'] Good M TL s R a9 z (.slice A9 l9.length c9) (.string (t9 ++ s.extract a a9))) :=
            ⟨⟨l9, t9 ++ s.extract a a9, A9, c9, k9 + 1, K5, f, rfl, rfl, HR3.out, HG5.out, HO3.out, by omega, by omega, HF9.out, by rw [ha9]; exact HRS.out, by omega⟩, HBX3.out, hB3, ha9s⟩
          have hms : s.size + 1 - a9 < gk := by omega
          clear ha9 hneg HRS HO3 HR3 hx9
          go_wp2_with fail
          go_roundg (s.size + 1 - a9)
          case measure => omega
          case rel => exact ⟨a9, z, rfl, rfl, rfl, hz0, hz1, HMK.out⟩
        · have hdn : decide (iv < 0) = false := decide_eq_false hneg
          rw [if_neg hneg] at HRS
          obtain ⟨i, rfl⟩ := Int.eq_ofNat_of_zero_le (Int.not_lt.1 hneg)
          obtain ⟨p, hp⟩ : ∃ p, p = i * blk := ⟨_, rfl⟩
          have hpi : (i : Int) * (blk : Int) = (p : Int) := by rw [hp]; push_cast; rfl
          rw [hpi] at HRS
          have hpz : p + blk ≤ size := by
            have h1 : i + 1 ≤ size / blk := by omega
            have h2 := Nat.mul_le_mul_right blk h1
            have h3 := Nat.div_mul_le_self size blk
            rw [Nat.add_mul, Nat.one_mul] at h2
            omega
          have hpz2 : p + blk ≤ 524288 := Nat.le_trans hpz HSZ.out
          have hii : i ≤ 524288 := by have := Nat.div_le_self size blk; have := HSZ.out; omega
          obtain ⟨i1, hi1⟩ : ∃ i1, i1 = i + 1 := ⟨_, rfl⟩
          have hi1i : (i : Int) + 1 = (i1 : Int) := by omega
          have hi1b : i1 ≤ 524289 := by omega
          rw [hi1i] at HRS
          have hcl := chunks_len t9
          clear hp hi1 r1 r2 hneg
          have HFT : Hid (∀ x ∈ l9 ++ chunks t9, Fine x) := fun x hx => (List.mem_append.1 hx).elim (HF9.out x) (fine_chunks t9 x)
          have HLT : Hid ((l9 ++ chunks t9).length ≤ a) := by unfold Hid; rw [List.length_append]; omega
          have H115 := Lib.hid (f115_calls B A9 c9 l9.length l9 t9 w3 rfl hB3 HO3.out (by omega))
          generalize HLL : l9 ++ chunks t9 = L at *
          go_wp2_with fail
          refine H115.out.mono ?_; rintro e w4 ⟨⟨A4, c4, rfl, ho4⟩, hm4⟩
          have hlt := HLT.out
          have HR4 := Lib.hid (HR3.out.ofT HB0.out hm4)
          have HBX4 := Lib.hid (OfT.row hm4 HBX3.out (by decide))
          have HO4 := Lib.hid ho4
          have hB4 : B ≤ w4.heap.size := Nat.le_trans hB3 hm4.size
          clear hm4 ho4 hx0 hx1 hx2 hx3
          obtain ⟨y0, y1, y2, y3⟩ := cells4 HBX4.out
          have H116 := Lib.hid (f116_calls B A4 c4 L.length L (p : Int) (blk : Int) w4 rfl hB4 HO4.out (by omega) HFT.out (by omega) (by omega) (by omega))
          have HF5 := Lib.hid (fine_cpy HFT.out (a := (p : Int)) (n := (blk : Int)) (by omega) (by omega) (by omega))
          have HL5 := Lib.hid (cpy_len L (p : Int) (blk : Int))
          generalize cpy L (p : Int) (blk : Int) = L5 at *
          go_wp2_with fail
          refine H116.out.mono ?_; rintro e w5 ⟨⟨A5, c5, rfl, ho5⟩, hm5⟩
          have HR5 := Lib.hid (HR4.out.ofT HB0.out hm5)
          have HBX5 := Lib.hid (OfT.row hm5 HBX4.out (by decide))
          have HO5 := Lib.hid ho5
          have hB5 : B ≤ w5.heap.size := Nat.le_trans hB4 hm5.size
          clear hm5 ho5 y0 y1 y2 y3
          obtain ⟨y0, y1, y2, y3⟩ := cells4 HBX5.out
          have he0 : (⟨#[]⟩ : ByteArray).size = 0 := rfl
          have HMK : Hid (MkRt base b v w0 w5 B B blk size #[.int .i64 blk, .int .i64 size, .slice A l c, .slice A' m c'] Good M TL s R e1 (i1 : Int) (.slice A5 L5.length c5) (.string ⟨#[]⟩)) :=
            ⟨⟨L5, ⟨#[]⟩, A5, c5, k9 + 1, K5, f, rfl, rfl, HR5.out, HG5.out, HO5.out, by have := HE1.out; omega, by have := HE1.out; have := HL5.out; rw [he0]; omega, HF5.out, by rw [HE1.out]; exact HRS.out, by have := HE1.out; omega⟩, HBX5.out, hB5, hes⟩
          go_wp2_with fail
          go_roundg (s.size + 1 - e1)
          case measure => have := HE1.out; omega
          case rel => exact ⟨e1, i1, rfl, rfl, rfl, by omega, by omega, HMK.out⟩
    · have hd1 : decide ((blk : Int) ≤ (s.size : Int) - (a : Int)) = false := by simp; omega
      have HRE : Hid (endP size blk TL l9 t9 (s.extract a s.size) = R) := by
        unfold Hid
        rw [← HM9.out]
        rcases f9 with _ | f9
        · rfl
        · rw [mkGo, if_neg hroom]
      obtain ⟨r, hr⟩ : ∃ r, r = size % blk := ⟨_, rfl⟩
      have hni : (size : Int).tmod (blk : Int) = (r : Int) := by rw [hr]; rfl
      have hni2 : (size : Int) % (blk : Int) = (r : Int) := by rw [hr]; rfl
      have hrb : r < blk := by rw [hr]; exact Nat.mod_lt _ (by omega)
      have hrz : r ≤ size := by rw [hr]; exact Nat.mod_le _ _
      have hsz := HSZ.out
      have hxz : (s.extract a s.size).size = s.size - a := by rw [ByteArray.size_extract]; omega
      unfold endP at HRE
      rw [← hr, hxz] at HRE
      have HRR := Lib.hid hr
      clear hr HM9 H114
      go_upto_region 21 with fail
      by_cases c1 : r ≤ s.size - a
      · have hd2 : decide ((r : Int) ≤ (s.size : Int) - (a : Int)) = true := by simp; omega
        obtain ⟨d, hd⟩ : ∃ d, d = s.size - r := ⟨_, rfl⟩
        have hdi : (s.size : Int) - (r : Int) = (d : Int) := by omega
        have hds : d ≤ s.size := by omega
        have had : a ≤ d := by omega
        have hex1 : (s.extract a s.size).extract (s.size - a - r) (s.size - a) = s.extract d s.size := by
          rw [ByteArray.extract_extract]
          congr 1 <;> omega
        have hex2 : (s.extract a s.size).extract 0 (s.size - a - r) = s.extract a d := by
          rw [ByteArray.extract_extract]
          congr 1 <;> omega
        rw [hex1, hex2] at HRE
        have hdz : (s.extract d s.size).size = r := by rw [ByteArray.size_extract]; omega
        have haz : (s.extract a d).size = d - a := by rw [ByteArray.size_extract]; omega
        obtain ⟨t1, t2⟩ := HAN.out.tl k9 K9 (s.extract d s.size) HG9.out (by omega)
        have HPOS : Hid (TL (s.extract d s.size) = true → 0 < r) := by
          intro h
          rw [← t1] at h
          unfold tl at h
          rw [decide_eq_true_eq] at h
          rw [HRR.out]
          exact h.1
        have h117 := fun wx h => H117.out wx K9 h (by have := HLN.out k9 K9 HG9.out (by omega); omega) (s.extract d s.size) (by rw [hdz]; omega)
        simp only [t1] at h117
        have H7 := Lib.hid h117
        have HG5 := Lib.hid t2
        have HDD := Lib.hid hd
        clear h117 t1 t2 hex1 hex2 hd
        generalize (tlB ws blk size K9 (s.extract d s.size)) = K5 at *
        generalize (TL (s.extract d s.size)) = tlb at *
        have hwp : IntKind.i64.wrap ((s.size : Int) - (a : Int)) = (s.size : Int) - (a : Int) := by rw [IntKind.wrap_i64]; omega
        have hwp2 : IntKind.i64.wrap (d : Int) = (d : Int) := by rw [IntKind.wrap_i64]; omega
        have hdii : (d : Int) ≤ (s.size : Int) := by omega
        have hdi0 : (0 : Int) ≤ (d : Int) := by omega
        go_region_held3 (fun w' => w'.cell? ⟨B, 0, none⟩ = some (.int .i64 blk) ∧ w'.cell? ⟨B, 1, none⟩ = some (.int .i64 size) ∧ w'.cell? ⟨B, 2, none⟩ = some (.slice A l c) ∧ w'.cell? ⟨B, 3, none⟩ = some (.slice A' m c')) (go_keep)
          (first
            | (go_at_call 117; refine (H7.out _ (HR9.out.nope (by repeat (with_reducible first | exact Mods.refl _ _ | apply Mods.drew | apply Mods.drewN)))).mono ?_; rintro e w3 ⟨rfl, hr3, hk3⟩
               have HR3 := Lib.hid hr3
               have HK3 : Hid (Keeps wr w3) := Keeps.trans (Keeps.nope (by repeat (with_reducible first | exact Mods.refl _ _ | apply Mods.drew | apply Mods.drewN))) hk3
               have HBX3 := Lib.hid (HK3.out.row _ _ _ _ (by decide) (by decide) HBX.out)
               have hx0 := (cells4 HBX3.out).1
               have hx1 := (cells4 HBX3.out).2.1
               have hx2 := (cells4 HBX3.out).2.2.1
               have hx3 := (cells4 HBX3.out).2.2.2
               have HO3 := Lib.hid (HK3.out.owns HO9.out (by decide) (by decide))
               have hB3 : B ≤ w3.heap.size := Nat.le_trans hBr HK3.out.size
               clear hr3 hk3))
        all_goals
          clear H7 H117 HR9 HBX HO9 hwp hwp2
          cases tlb
          · have HRF : Hid (l9 ++ chunks (t9 ++ s.extract a s.size) = R) := by
              unfold Hid
              rw [← HRE.out, if_neg (fun h => by simp at h)]
            go_wp2_with fail
            refine (f115_calls B A9 c9 l9.length l9 (t9 ++ s.extract a s.size) w3 rfl hB3 HO3.out (by rw [ByteArray.size_append, hxz]; omega)).mono ?_; rintro e w4 ⟨⟨A4, c4, rfl, ho4⟩, hm4⟩
            rw [HRF.out] at ho4 ⊢
            have HR4 := Lib.hid (HR3.out.ofT HB0.out hm4)
            have HO4 := Lib.hid ho4
            clear ho4 hm4
            go_wp2
            go_ret2
            exact ⟨_, _, rfl, by rw [HBE.out]; exact HO4.out, _, _, by omega, HG5.out, HR4.out⟩
          · have hrp := HPOS.out rfl
            have HRF : Hid (cpy (l9 ++ chunks (t9 ++ s.extract a d)) ((size - r : Nat) : Int) (r : Int) = R) := by
              unfold Hid
              rw [← HRE.out, if_pos ⟨c1, rfl⟩]
            have hnd : (size : Int) - (r : Int) = ((size - r : Nat) : Int) := by omega
            have H115 := Lib.hid (f115_calls B A9 c9 l9.length l9 (t9 ++ s.extract a d) w3 rfl hB3 HO3.out (by rw [ByteArray.size_append, haz]; omega))
            have HFT : Hid (∀ x ∈ l9 ++ chunks (t9 ++ s.extract a d), Fine x) := fun x hx => (List.mem_append.1 hx).elim (HF9.out x) (fine_chunks _ x)
            have HLT : Hid ((l9 ++ chunks (t9 ++ s.extract a d)).length ≤ 1000000) := by
              unfold Hid
              have h1 := chunks_len (t9 ++ s.extract a d)
              rw [ByteArray.size_append, haz] at h1
              rw [List.length_append]
              omega
            generalize HLL : l9 ++ chunks (t9 ++ s.extract a d) = L at *
            have hcz : (t9 ++ s.extract a d).size ≤ 1048576 := by rw [ByteArray.size_append, haz]; omega
            go_wp2_with fail
            refine H115.out.mono ?_; rintro e w4 ⟨⟨A4, c4, rfl, ho4⟩, hm4⟩
            have HR4 := Lib.hid (HR3.out.ofT HB0.out hm4)
            have HBX4 := Lib.hid (OfT.row hm4 HBX3.out (by decide))
            have HO4 := Lib.hid ho4
            have hB4 : B ≤ w4.heap.size := Nat.le_trans hB3 hm4.size
            clear hm4 ho4 hx0 hx1 hx2 hx3
            obtain ⟨y0, y1, y2, y3⟩ := cells4 HBX4.out
            have H116 := Lib.hid (f116_calls B A4 c4 L.length L ((size - r : Nat) : Int) (r : Int) w4 rfl hB4 HO4.out HLT.out HFT.out (by omega) (by omega) (by omega))
            rw [HRF.out] at H116
            have hnd0 : 0 ≤ (size : Int) - (r : Int) := by omega
            rw [← hnd] at H116
            clear hnd
            go_wp2_with fail
            refine H116.out.mono ?_; rintro e w5 ⟨⟨A5, c5, rfl, ho5⟩, hm5⟩
            have HR5 := Lib.hid (HR4.out.ofT HB0.out hm5)
            have HO5 := Lib.hid ho5
            clear hm5 ho5
            go_wp2
            go_ret2
            exact ⟨_, _, rfl, by rw [HBE.out]; exact HO5.out, _, _, by omega, HG5.out, HR5.out⟩
      · have hd2 : decide ((r : Int) ≤ (s.size : Int) - (a : Int)) = false := by simp; omega
        have HRF : Hid (l9 ++ chunks (t9 ++ s.extract a s.size) = R) := by
          unfold Hid
          rw [← HRE.out, if_neg (fun h => c1 h.1)]
        have hwp : IntKind.i64.wrap ((s.size : Int) - (a : Int)) = (s.size : Int) - (a : Int) := by rw [IntKind.wrap_i64]; omega
        go_quiet (fail)
        clear hwp
        have HRq := Lib.hid (HR9.out.nope ((Mods.refl _ _).drewN nq))
        have HOq := Lib.hid (show (wr.drewN nq).ownsRow B 117 3 (.slice A9 l9.length c9) l9.length (stps l9) from HO9.out)
        have hBq : B ≤ (wr.drewN nq).heap.size := hBr
        clear H117 HR9 HBX HO9 hBr
        generalize wr.drewN nq = w3 at *
        go_wp2_with fail
        refine (f115_calls B A9 c9 l9.length l9 (t9 ++ s.extract a s.size) w3 rfl hBq HOq.out (by rw [ByteArray.size_append, hxz]; omega)).mono ?_; rintro e w4 ⟨⟨A4, c4, rfl, ho4⟩, hm4⟩
        rw [HRF.out] at ho4 ⊢
        have HR4 := Lib.hid (HRq.out.ofT HB0.out hm4)
        have HO4 := Lib.hid ho4
        clear ho4 hm4
        go_wp2
        go_ret2
        exact ⟨_, _, rfl, by rw [HBE.out]; exact HO4.out, _, _, by omega, HG9.out, HR4.out⟩
end Go.Proofs.Ytblhbbgkkijkfaa
