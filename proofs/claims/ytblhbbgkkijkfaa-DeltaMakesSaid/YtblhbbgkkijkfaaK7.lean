/- delta.Make, walked. -/
import Derived.Test.YtblhbbgkkijkfaaK6
namespace Go.Proofs.Ytblhbbgkkijkfaa
open Go.RowKit Go.Maps
/-- The steps for a text. -/
def mkGo (size blk : Nat) (M : ByteArray → Int → Int) (TL : ByteArray → Bool) (s : ByteArray) : Nat → Nat → Int → List Stp → ByteArray → List Stp
  | 0, at_, _, l, t => endP size blk TL l t (s.extract at_ s.size)
  | f + 1, at_, wanted, l, t =>
    if at_ + blk ≤ s.size then
      (if M (win s at_ blk) wanted < 0 then mkGo size blk M TL s f (at_ + 1) wanted l (t ++ s.extract at_ (at_ + 1))
       else mkGo size blk M TL s f (at_ + blk) (M (win s at_ blk) wanted + 1) (cpy (l ++ chunks t) (M (win s at_ blk) wanted * blk) blk) ⟨#[]⟩)
    else endP size blk TL l t (s.extract at_ s.size)
def mkP (size blk : Nat) (M : ByteArray → Int → Int) (TL : ByteArray → Bool) (s : ByteArray) : List Stp := mkGo size blk M TL s (s.size + 1) 0 0 [] ⟨#[]⟩
theorem cpy_len (l : List Stp) (a n : Int) : (cpy l a n).length ≤ l.length + 1 := by
  rcases List.eq_nil_or_concat l with rfl | ⟨l0, x, rfl⟩
  · simp [cpy_nil]
  · rw [List.concat_eq_append, cpy_snoc]
    split <;> simp
theorem cpy_in {l : List Stp} {a n : Int} (h : ∀ x ∈ l, StpIn x) (ha : 0 ≤ a) (hn : 0 ≤ n) (han : a + n ≤ 524288) : ∀ x ∈ cpy l a n, StpIn x := by
  have hnew : StpIn ⟨a, n, ⟨#[]⟩⟩ := ⟨ha, hn, han⟩
  rcases List.eq_nil_or_concat l with rfl | ⟨l0, x, rfl⟩
  · intro y hy
    rw [cpy_nil] at hy
    rw [List.mem_singleton.1 hy]
    exact hnew
  · rw [List.concat_eq_append] at h ⊢
    rw [cpy_snoc]
    have hx := h x (by simp)
    split
    · rename_i hc
      intro y hy
      rcases List.mem_append.1 hy with hy | hy
      · exact h y (by simp [hy])
      · rw [List.mem_singleton.1 hy]
        exact ⟨hx.1, by have := hx.2.1; show 0 ≤ x.len + n; omega, by show x.pos + (x.len + n) ≤ 524288; omega⟩
    · intro y hy
      rcases List.mem_append.1 hy with hy | hy
      · exact h y hy
      · rw [List.mem_singleton.1 hy]
        exact hnew
theorem Sess.past {w0 wr wz : World} {b mb B T blk size : Nat} {ws : List Int} {ms : List ByteArray} {bs : List Int} {wv sv kv bv : Value} {K0 K : Bk} (h : Sess w0 wr b mb B T blk size ws ms bs wv sv kv bv K0 K) (hm : Mods Nope wz w0) : Mods (MK K0 mb) wz wr :=
  (hm.any _).then h.mods (fun _ hi e => e.elim id (fun e => absurd (Nat.lt_of_lt_of_le hi hm.size) (Nat.not_lt.2 e)))
theorem strCells_one (t : ByteArray) {s : ByteArray} {a : Nat} (h : a < s.size) : Lib.strCells (t ++ s.extract a (a + 1)) = Lib.strCells t ++ [.int .u8 (s[a]'h).toNat] := by
  rw [strCells_append]
  congr 1
  have hz : s.data.toList.length = s.size := by rw [Array.length_toList]; rfl
  have hx : (s.extract a (a + 1)).data.toList = [s[a]'h] := by
    simp only [ByteArray.data_extract, Array.toList_extract, List.extract]
    rw [List.drop_eq_getElem_cons (by omega), show a + 1 - a = 1 by omega]
    rfl
  simp only [Lib.strCells]
  rw [hx]
  rfl
/-- The maker while the window rolls. -/
theorem MakerAt.rolled {w wx : World} {N m g : Nat} {l : List Stp} {t : ByteArray} {sv tv : Value} {cs : Array Value} (h : MakerAt w N m l t sv tv) (_ : w.heap[g]? = some (.cells cs 159 (0, 0))) (hg : g < N) (hgm : g ≠ m) (hm : Mods (fun j => j = g) w wx) : MakerAt wx N m l t sv tv :=
  h.mods hm (fun _ hk _ e => hk.elim (fun h2 => absurd hg (Nat.not_lt.2 (e ▸ h2))) (fun h2 => hgm (e ▸ h2)))
/-- What Make leaves. -/
structure MakePost (b mb : Nat) (K0 : Bk) (Good : Nat → Bk → Prop) (R : List Stp) (n : Nat) (w : World) (e : Ending) (w' : World) : Prop where
  ex : ∃ v, e = .returned (.tuple #[v, .int .i64 0]) ∧ w'.ownsRow w.heap.size 117 3 v R.length (stps R)
  book : ∃ k K, k ≤ n + 1 ∧ Good k K ∧ IsBook w' b mb K ∧ MK K mb = MK K0 mb
  mods : Mods (MK K0 mb) w w'
/-- What Make's loop holds. -/
structure MkAt (w0 wr : World) (N b mb B T m g blk size : Nat) (ws : List Int) (ms : List ByteArray) (bs : List Int) (wv sv kv bv : Value) (K0 : Bk) (Good : Nat → Bk → Prop) (M : ByteArray → Int → Int) (TL : ByteArray → Bool) (s : ByteArray) (R : List Stp) (at_ : Nat) (wanted : Int) (rolls : Bool) : Prop where
  ex : ∃ (l : List Stp) (t : ByteArray) (sv' tv' : Value) (k : Nat) (K : Bk) (f : Nat), Sess w0 wr b mb B T blk size ws ms bs wv sv kv bv K0 K ∧ Good k K ∧ MakerAt wr N m l t sv' tv' ∧ k ≤ at_ ∧ l.length + t.size ≤ at_ ∧ (∀ x ∈ l, StpIn x) ∧ mkGo size blk M TL s f at_ wanted l t = R ∧ s.size < at_ + f
  le : at_ ≤ s.size
  roll : rolls = true → RollAt wr g s at_ blk ∧ w0.heap.size ≤ g ∧ g < N ∧ g ≠ m
  stop : rolls = false → s.size < at_ + blk
  sep : w0.heap.size ≤ m ∧ m < N ∧ w0.heap.size ≤ N
set_option maxRecDepth 100000 in
set_option maxHeartbeats 4000000 in
theorem f69_bad (b : Nat) (blk size : Int) (A A' : Option Addr) (c c' l m : Nat) (ws : List Int) (ms : List ByteArray) (s : ByteArray) (w : World) (hl : ws.length = l) (hm : ms.length = m) (hw : Rd w A (ints ws)) (hs : Rd w A' (strs ms)) (hz : ∀ m ∈ ms, m.size ≤ maxLen) (hok : sigB blk size ws ms = false) :
    Calls Try.prog 69 #[.pointer (some ⟨b, 0, none⟩), .agg #[.int .i64 blk, .int .i64 size, .slice A l c, .slice A' m c'], .string s] w fun e w' => e = .returned (.tuple #[.slice none 0 0, .int .i64 1]) ∧ Mods Nope w w' := by
  have HC := Lib.hid (fun wx h1 h2 => f57_bad blk size A A' c c' l m ws ms wx hl hm h1 h2 hz hok)
  have HW := Lib.hid (hw.alloc (.cells #[.int .i64 blk, .int .i64 size, .slice A l c, .slice A' m c'] 31))
  have HS := Lib.hid (hs.alloc (.cells #[.int .i64 blk, .int .i64 size, .slice A l c, .slice A' m c'] 31))
  clear hl hm hw hs hz hok
  go_enter Try.func69, Try.ntmps69
  go_wp2_with fail
  go_step3
  go_wp2_with fail
  refine (HC.out _ HW.out HS.out).mono ?_; rintro e w1 ⟨rfl, h1⟩
  have H := Lib.hid (((Mods.refl Nope w).alloc _).trans h1)
  clear h1
  go_wp2
  try rw [Exit.noGoto_ret]
  go_ret2
  exact ⟨rfl, H.out⟩
set_option maxRecDepth 100000 in
set_option maxHeartbeats 4000000 in
theorem f69_long (b : Nat) (blk size : Int) (A A' : Option Addr) (c c' l m : Nat) (ws : List Int) (ms : List ByteArray) (s : ByteArray) (w : World) (hl : ws.length = l) (hm : ms.length = m) (hw : Rd w A (ints ws)) (hs : Rd w A' (strs ms)) (hz : ∀ m ∈ ms, m.size ≤ maxLen) (hok : SigOK blk size ws ms) (hlong : 524288 < s.size) (hs2 : s.size ≤ maxLen) :
    Calls Try.prog 69 #[.pointer (some ⟨b, 0, none⟩), .agg #[.int .i64 blk, .int .i64 size, .slice A l c, .slice A' m c'], .string s] w fun e w' => e = .returned (.tuple #[.slice none 0 0, .int .i64 4]) ∧ Mods Nope w w' := by
  have HC := Lib.hid (fun wx h1 h2 => f57_ok blk size A A' c c' l m ws ms wx hl hm h1 h2 hz hok)
  have HW := Lib.hid (hw.alloc (.cells #[.int .i64 blk, .int .i64 size, .slice A l c, .slice A' m c'] 31))
  have HS := Lib.hid (hs.alloc (.cells #[.int .i64 blk, .int .i64 size, .slice A l c, .slice A' m c'] 31))
  have hd : decide ((524288 : Int) < (s.size : Int)) = true := by simp; omega
  have HS2 := Lib.hid hs2
  clear hl hm hw hs hz hok hs2
  go_enter Try.func69, Try.ntmps69
  go_wp2_with fail
  go_step3
  go_wp2_with fail
  refine (HC.out _ HW.out HS.out).mono ?_; rintro e w1 ⟨T, wv, sv, kv, bv, bs, rfl, _, _, _, h1⟩
  have H := Lib.hid (((Mods.refl Nope w).alloc _).trans h1)
  clear h1
  go_wp2
  try rw [Exit.noGoto_ret]
  go_ret2
  exact ⟨rfl, H.out⟩
set_option maxRecDepth 100000 in
set_option maxHeartbeats 4000000 in
theorem f69_ok (b mb blk size : Nat) (K0 : Bk) (Good : Nat → Bk → Prop) (M : ByteArray → Int → Int) (TL : ByteArray → Bool) (A A' : Option Addr) (c c' l m : Nat) (ws : List Int) (ms : List ByteArray) (s : ByteArray) (w : World) (hl : ws.length = l) (hm : ms.length = m) (hw : Rd w A (ints ws)) (hs : Rd w A' (strs ms)) (hz : ∀ m ∈ ms, m.size ≤ maxLen) (hok : SigOK blk size ws ms) (hlen : s.size ≤ 524288)
    (hb : IsBook w b mb K0) (hA : Ans ws ms (size / blk) blk size mb K0 Good M TL) (hG : Good 0 K0) :
    Calls Try.prog 69 #[.pointer (some ⟨b, 0, none⟩), .agg #[.int .i64 blk, .int .i64 size, .slice A l c, .slice A' m c'], .string s] w (MakePost b mb K0 Good (mkP size blk M TL s) s.size w) := by
  have HC := Lib.hid (fun wx h1 h2 => f57_ok blk size A A' c c' l m ws ms wx hl hm h1 h2 hz hok)
  have HW := Lib.hid (hw.alloc (.cells #[.int .i64 blk, .int .i64 size, .slice A l c, .slice A' m c'] 31))
  have HS := Lib.hid (hs.alloc (.cells #[.int .i64 blk, .int .i64 size, .slice A l c, .slice A' m c'] 31))
  have hd : decide ((524288 : Int) < (s.size : Int)) = false := by simp; omega
  have HB := Lib.hid hb
  have HG := Lib.hid hG
  have hblk : 16 ≤ blk := by have := hok.1; omega
  have hblk2 : blk ≤ 1024 := by have := hok.2.1; omega
  have HSZ : Hid (size ≤ 524288) := by unfold Hid; have := hok.2.2.2.1; omega
  have HWL : Hid (ws.length = cnt size blk) := by have := hok.2.2.2.2.1; rwa [Int.toNat_natCast, Int.toNat_natCast] at this
  have HML : Hid (ms.length = ws.length) := hok.2.2.2.2.2.1
  obtain ⟨R, hR⟩ : ∃ R, R = mkP size blk M TL s := ⟨_, rfl⟩
  have HR := Lib.hid hR.symm
  rw [← hR]
  unfold mkP at HR
  clear hw hs hz hok hb hG hR
  go_enter Try.func69, Try.ntmps69
  go_wp2_with fail
  go_step3
  go_wp2_with fail
  refine (HC.out _ HW.out HS.out).mono ?_; rintro e w1 ⟨T, wv, sv, kv, bv, bs, rfl, ht, hp, hso, h1⟩
  simp only [Int.toNat_natCast] at hp
  have H1 := Lib.hid (((Mods.refl Nope w).alloc _).trans h1)
  have HT := Lib.hid ht
  have HP := Lib.hid hp
  have HSO := Lib.hid hso
  have HB1 := Lib.hid (HB.out.nope H1.out)
  clear h1 ht hp hso HB
  go_upto_region 8 with fail
  go_cut [13, 9] (fun r e wx => ∃ (N g : Nat) (rolls : Bool), r = (if rolls then .pointer (some ⟨g, 0, none⟩) else .pointer none) ∧ e = .int .i64 (if rolls then 0 else 3) ∧ MkAt w1 wx N b mb (w.alloc (.cells #[.int .i64 blk, .int .i64 size, .slice A l c, .slice A' m c'] 31)).heap.size T w1.heap.size g blk size ws ms bs wv sv kv bv K0 Good M TL s R 0 0 rolls)
  case first =>
    go_wp2_with fail
    refine (f44_calls _ _ _ _ _ _ _ _ _ _ _ _ (HT.out.nope ((Mods.refl _ _).alloc _))).mono ?_; rintro e w2 ⟨rfl, rfl⟩
    have HROW : Hid ((w1.alloc (.cells #[.slice none 0 0, .slice none 0 0] 133)).heap[w1.heap.size]? = some (.cells #[.slice none 0 0, .slice none 0 0] 133 (0, 0))) := heap_alloc_new _ _
    have HN2 : Hid (Mods Nope w1 (w1.alloc (.cells #[.slice none 0 0, .slice none 0 0] 133))) := (Mods.refl _ _).alloc _
    have hsz1 : (w1.alloc (.cells #[.slice none 0 0, .slice none 0 0] 133)).heap.size = w1.heap.size + 1 := by simp
    generalize w1.alloc (.cells #[.slice none 0 0, .slice none 0 0] 133) = w2 at *
    by_cases hsh : s.size < blk
    · go_wp2_with fail
      refine (f108_short s blk w2 (by omega) hblk2 hsh).mono ?_; rintro e w3 ⟨rfl, rfl⟩
      go_wp2_with fail
      go_meet
      refine ⟨w3.heap.size, 0, false, rfl, rfl, ⟨⟨[], ⟨#[]⟩, _, _, 0, K0, s.size + 1, ⟨HT.out, HB1.out, HB1.out.nope HN2.out, rfl, HN2.out.any _⟩, HG.out, ⟨Nat.le_refl _, HROW.out, World.ownsRow_nil _ _ _ _, .inl ⟨rfl, rfl⟩⟩, Nat.le_refl _, Nat.le_refl _, (fun x hx => by simp at hx), HR.out, by omega⟩, Nat.zero_le _, (fun h => by simp at h), (fun _ => by omega), ⟨Nat.le_refl _, by omega, by omega⟩⟩⟩
    · go_wp2_with fail
      refine (f108_new s blk w2 (by omega) hblk2 (by omega)).mono ?_; rintro e w3 ⟨g, rfl, hr3, hg3, hm3⟩
      have HR3 := Lib.hid hr3
      have HM3 := Lib.hid hm3
      clear hr3 hm3
      go_wp2_with fail
      go_meet
      refine ⟨w3.heap.size, g, true, rfl, rfl, ⟨⟨[], ⟨#[]⟩, _, _, 0, K0, s.size + 1, ⟨HT.out, HB1.out, HB1.out.nope (HN2.out.trans HM3.out), rfl, (HN2.out.trans HM3.out).any _⟩, HG.out, ⟨Nat.le_refl _, HM3.out.row HROW.out (fun h => h), World.ownsRow_nil _ _ _ _, .inl ⟨rfl, rfl⟩⟩, Nat.le_refl _, Nat.le_refl _, (fun x hx => by simp at hx), HR.out, by omega⟩, Nat.zero_le _, (fun _ => ⟨HR3.out, by omega, row_lt HR3.out.row, by omega⟩), (fun h => by simp at h), ⟨Nat.le_refl _, by have := HM3.out.size; omega, by have := HM3.out.size; omega⟩⟩⟩
  case rest =>
    obtain ⟨N, g, rolls, rfl, rfl, hMK⟩ := hcut
    have HMK := Lib.hid hMK
    clear hMK
    cases rolls
    · go_wp2_with fail
      go_step3
      go_wp2_with fail
      go_loopg [11, 12] 0 (fun gk at_ wn wr => at_ = .int .i64 0 ∧ wn = .int .i64 0 ∧ MkAt w1 wr N b mb (w.alloc (.cells #[.int .i64 blk, .int .i64 size, .slice A l c, .slice A' m c'] 31)).heap.size T w1.heap.size g blk size ws ms bs wv sv kv bv K0 Good M TL s R 0 0 false)
      case atStart => exact ⟨rfl, rfl, HMK.out⟩
      case round =>
        clear HMK
        obtain ⟨rfl, rfl, hMK⟩ := hrel
        have HMK := Lib.hid hMK
        clear hMK
        obtain ⟨l9, t9, sv9, tv9, k9, K9, f9, hS9, hG9, hM9, hk9, hl9, hi9, hR9, hf9⟩ := HMK.out.ex
        have HR9 : Hid (endP size blk TL l9 t9 s = R) := by
          unfold Hid
          rw [← hR9]
          conv => lhs; rw [← ByteArray.extract_zero_size (b := s)]
          rcases f9 with _ | f9
          · rfl
          · rw [mkGo, if_neg (by have := HMK.out.stop rfl; omega)]
        have HS9 := Lib.hid hS9
        have hle9 := HMK.out.le
        have hsep9 := HMK.out.sep
        have hst9 := HMK.out.stop rfl
        have H113 := Lib.hid (f113_calls hA hS9 hG9 (by omega) hM9 hsep9.1 (by omega) hblk HSZ.out HWL.out HML.out hi9 s (by omega))
        clear hS9 hG9 hM9 hi9 hR9
        go_wp2_with fail
        refine H113.out.mono ?_; rintro e w' ⟨rfl, hE⟩
        obtain ⟨K8, sv8, tv8, hS8, hG8, hM8, _⟩ := hE.ex
        rw [HR9.out] at hM8
        have HS8 := Lib.hid hS8
        have HG8 := Lib.hid hG8
        have HM8 := Lib.hid hM8
        clear hE hS8 hG8 hM8
        obtain ⟨m0, m1, mf⟩ := cells2 HM8.out.row
        obtain ⟨A8, c8, hA8, _, _, _, _⟩ := Rd.of_owns HM8.out.steps
        subst hA8
        go_wp2
        try rw [Exit.noGoto_ret]
        go_ret2
        exact ⟨⟨_, rfl, own_base HM8.out.steps (by have := H1.out.size; omega)⟩, ⟨_, _, by omega, HG8.out, HS8.out.book, HS8.out.kind⟩, HS8.out.past H1.out⟩
    · go_wp2_with fail
      go_step3
      go_wp2_with fail
      go_loopg [11, 12] (s.size + 1) (fun gk at_ wn wr => ∃ (a : Nat) (z : Int), gk = s.size + 1 - a ∧ at_ = .int .i64 a ∧ wn = .int .i64 z ∧ 0 ≤ z ∧ z ≤ 600000 ∧ MkAt w1 wr N b mb (w.alloc (.cells #[.int .i64 blk, .int .i64 size, .slice A l c, .slice A' m c'] 31)).heap.size T w1.heap.size g blk size ws ms bs wv sv kv bv K0 Good M TL s R a z true)
      case atStart => exact ⟨0, 0, rfl, rfl, rfl, by omega, by omega, HMK.out⟩
      case round =>
        clear HMK
        obtain ⟨a, z, hgk, rfl, rfl, hz0, hz1, hMK⟩ := hrel
        have HMK := Lib.hid hMK
        clear hMK
        obtain ⟨l9, t9, sv9, tv9, k9, K9, f9, hS9, hG9, hM9, hk9, hl9, hi9, hR9, hf9⟩ := HMK.out.ex
        have hle := HMK.out.le
        have hsep := HMK.out.sep
        obtain ⟨hroll, hg1, hg2, hg3⟩ := HMK.out.roll rfl
        have hroom := hroll.room
        have HS9 := Lib.hid hS9
        have HG9 := Lib.hid hG9
        have HM9 := Lib.hid hM9
        have HI9 := Lib.hid hi9
        have HR9 := Lib.hid hR9
        have HRL := Lib.hid hroll
        clear hS9 hG9 hM9 hi9 hR9 hroll
        obtain ⟨f, rfl⟩ : ∃ f, f9 = f + 1 := ⟨f9 - 1, by omega⟩
        obtain ⟨e1, he1⟩ : ∃ e1, e1 = a + blk := ⟨_, rfl⟩
        have hei : (a : Int) + (blk : Int) = (e1 : Int) := by omega
        have hes : e1 ≤ s.size := by omega
        have hae : a ≤ e1 := by omega
        have hew : s.extract a e1 = win s a blk := by rw [he1]; rfl
        have HE1 := Lib.hid he1
        clear he1
        go_wp2_with fail
        refine (f109_calls g s a blk _ HRL.out).mono ?_; rintro e w3 ⟨rfl, h3⟩
        have HS3 := Lib.hid (HS9.out.other h3 (fun h => h.elim))
        have HM3 := Lib.hid (HM9.out.mods h3 (fun _ _ _ h => h))
        have HRL3 := Lib.hid (HRL.out.mods h3 (fun h => h))
        clear h3 HS9 HM9 HRL
        go_wp2_with fail
        refine (f44_calls _ _ _ _ _ _ _ _ _ _ _ _ HS3.out.tbl).mono ?_; rintro e w4 ⟨rfl, rfl⟩
        go_wp2_with fail
        have h41 := f41_calls _ T (size / blk) b mb blk K9 size ws ms bs wv sv kv bv (wk (win s a blk)) (win s a blk) z w4 HS3.out.tbl HP.out HSO.out (Nat.le_trans (Nat.div_le_self _ _) HSZ.out) (by rw [HML.out, HWL.out]; exact div_le_cnt _ _ (by omega)) HS3.out.book (hA.len _ _ HG9.out (by omega)) (by rw [win_size hroom]; omega)
        unfold MtcPost at h41
        obtain ⟨t1, t2⟩ := hA.mt k9 K9 (win s a blk) z HG9.out (by omega) (win_size hroom)
        rw [t1] at h41
        have H41 := Lib.hid h41
        have HG5 := Lib.hid t2
        obtain ⟨r1, r2⟩ := hA.rng (win s a blk) z
        have HRS : Hid ((if M (win s a blk) z < 0 then mkGo size blk M TL s f (a + 1) z l9 (t9 ++ s.extract a (a + 1)) else mkGo size blk M TL s f (a + blk) (M (win s a blk) z + 1) (cpy (l9 ++ chunks t9) (M (win s a blk) z * blk) blk) ⟨#[]⟩) = R) := by
          have h := HR9.out
          rw [mkGo, if_pos hroom] at h
          exact h
        clear h41 t1 t2 HR9
        generalize M (win s a blk) z = iv at *
        refine H41.out.mono ?_; rintro e w5 ⟨rfl, hb5, hm5⟩
        have HS5 := Lib.hid (HS3.out.mark hm5 hb5 (hA.kind _ _ HG5.out))
        have HM5 := Lib.hid (HM3.out.marked HS3.out hsep.1 hsep.2.2 hm5)
        have HRL5 := Lib.hid (HRL3.out.mods hm5 (fun e => absurd (HS3.out.below e) (Nat.not_lt.2 hg1)))
        clear hb5 hm5 H41 HS3 HM3 HRL3
        generalize (mtcB ws (size / blk) blk K9 (wk (win s a blk)) (win s a blk)) = K5 at *
        by_cases hneg : iv < 0
        · have hdn : decide (iv < 0) = true := decide_eq_true hneg
          rw [if_pos hneg] at HRS
          have hlt : a < s.size := by omega
          have HY := Lib.hid (strCells_one t9 hlt)
          have HO : Hid (OwnsAt w5 N 5 tv9 (Lib.strCells t9)) := HM5.out.text
          have hBw := HM5.out.base
          have hsl := Lib.strCells_length t9
          obtain ⟨m0, m1, mf⟩ := cells2 HM5.out.row
          obtain ⟨a9, ha9⟩ : ∃ a9, a9 = a + 1 := ⟨_, rfl⟩
          have hai : (a : Int) + 1 = (a9 : Int) := by omega
          have HA9 := Lib.hid ha9
          clear ha9
          go_upto_region 12 with fail
          have ha1 : ∀ o, (w5.alloc o).cell? ⟨w1.heap.size, 1, none⟩ = some tv9 := fun o => ((Mods.refl Nope _).alloc o).cell m1 (fun h => h)
          go_region_law (first
            | (refine step_at1 _ rfl _ _ 89 5 (.int .u8 0) 1 rfl Try.underlying89 info5 rfl (by decide) tv9 (Lib.strCells t9) (.int .u8 s[a].toNat) _ rfl rfl (by simp) rfl N (by exact HO.out.mods (((Mods.refl Nope w5).alloc _).drew) (fun _ _ h => h)) (by simp; omega) (by omega) ?_; intro A3 cap3 w6 hown6 hg6
               rw [← HY.out] at hown6
               have HADD := Lib.hid (HM5.out.addText (s.extract a (a + 1)) (((Mods.refl Nope w5).alloc _).drew) hown6 hg6)
               have hcc : w6.cell? ⟨w1.heap.size, 1, none⟩ = some tv9 := by rw [row_cell HADD.out.2.1]; rfl
               have hff : w6.frozen? ⟨w1.heap.size, 1, none⟩ = false := row_frozen HADD.out.2.1 1
               clear hown6 hg6))
          all_goals
            rw [hsl] at HADD
            obtain ⟨hM6, _, hm6⟩ := HADD.out
            have HS6 := Lib.hid (HS5.out.other hm6 (fun e => e.elim (Nat.le_trans hsep.2.2) (fun e => e ▸ hsep.1)))
            have HM6 := Lib.hid hM6
            have HRL6 := Lib.hid (HRL5.out.mods hm6 (fun e => e.elim (fun e => absurd hg2 (Nat.not_lt.2 e)) hg3))
            clear hM6 hm6 HADD hcc hff m0 m1 mf HO HM5 HS5 HRL5 ha1 HY
            generalize w6.setCell ⟨w1.heap.size, 1, none⟩ (.slice A3 (t9.size + 1) cap3) = w7 at *
            have ht9 : (t9 ++ s.extract a (a + 1)).size = t9.size + 1 := by rw [ByteArray.size_append, ByteArray.size_extract]; omega
            have ha9 : a9 ≤ s.size := by have := HA9.out; omega
            by_cases hend : a + blk = s.size
            · go_wp2_with fail
              refine (f110_end g s a blk _ HRL6.out (by omega) hblk2 hlen hend).mono ?_; rintro e w8 ⟨rfl, h8⟩
              have HMK : Hid (MkAt w1 w8 N b mb (w.alloc (.cells #[.int .i64 blk, .int .i64 size, .slice A l c, .slice A' m c'] 31)).heap.size T w1.heap.size g blk size ws ms bs wv sv kv bv K0 Good M TL s R a9 z false) :=
                ⟨⟨l9, t9 ++ s.extract a (a + 1), sv9, _, k9 + 1, K5, f, HS6.out.other h8 (fun h => h.elim), HG5.out, HM6.out.mods h8 (fun _ _ _ h => h), by have := HA9.out; omega, by have := HA9.out; omega, HI9.out, by rw [HA9.out]; exact HRS.out, by have := HA9.out; omega⟩, ha9, (fun h => by simp at h), (fun _ => by have := HA9.out; omega), hsep⟩
              clear h8 HS6 HM6 HRL6 HRS HG5 HI9
              obtain ⟨l9, t9, sv9, tv9, k9, K9, f9, hS9, hG9, hM9, hk9, hl9, hi9, hR9, hf9⟩ := HMK.out.ex
              have HR9 : Hid (endP size blk TL l9 t9 (s.extract a9 s.size) = R) := by
                unfold Hid
                rw [← hR9]
                rcases f9 with _ | f9
                · rfl
                · rw [mkGo, if_neg (by have := HMK.out.stop rfl; omega)]
              have HS9 := Lib.hid hS9
              have hle9 := HMK.out.le
              have hsep9 := HMK.out.sep
              have hx9 : (s.extract a9 s.size).size = s.size - a9 := by rw [ByteArray.size_extract]; omega
              have H113 := Lib.hid (f113_calls hA hS9 hG9 (by omega) hM9 hsep9.1 (by omega) hblk HSZ.out HWL.out HML.out hi9 (s.extract a9 s.size) (by omega))
              clear hS9 hG9 hM9 hi9 hR9
              go_wp2_with fail
              refine H113.out.mono ?_; rintro e w' ⟨rfl, hE⟩
              obtain ⟨K8, sv8, tv8, hS8, hG8, hM8, _⟩ := hE.ex
              rw [HR9.out] at hM8
              have HS8 := Lib.hid hS8
              have HG8 := Lib.hid hG8
              have HM8 := Lib.hid hM8
              clear hE hS8 hG8 hM8
              obtain ⟨m0, m1, mf⟩ := cells2 HM8.out.row
              obtain ⟨A8, c8, hA8, _, _, _, _⟩ := Rd.of_owns HM8.out.steps
              subst hA8
              go_wp2
              try rw [Exit.noGoto_ret]
              go_ret2
              exact ⟨⟨_, rfl, own_base HM8.out.steps (by have := H1.out.size; omega)⟩, ⟨_, _, by omega, HG8.out, HS8.out.book, HS8.out.kind⟩, HS8.out.past H1.out⟩
            · go_wp2_with fail
              refine (f110_next g s a blk _ HRL6.out (by omega) hblk2 hlen (by omega)).mono ?_; rintro e w8 ⟨rfl, hr8, h8⟩
              have HMK : Hid (MkAt w1 w8 N b mb (w.alloc (.cells #[.int .i64 blk, .int .i64 size, .slice A l c, .slice A' m c'] 31)).heap.size T w1.heap.size g blk size ws ms bs wv sv kv bv K0 Good M TL s R a9 z true) :=
                ⟨⟨l9, t9 ++ s.extract a (a + 1), sv9, _, k9 + 1, K5, f, HS6.out.other h8 (fun h => h ▸ hg1), HG5.out, HM6.out.rolled HRL6.out.row hg2 hg3 h8, by have := HA9.out; omega, by have := HA9.out; omega, HI9.out, by rw [HA9.out]; exact HRS.out, by have := HA9.out; omega⟩, ha9, (fun _ => ⟨by rw [HA9.out]; exact hr8, hg1, hg2, hg3⟩), (fun h => by simp at h), hsep⟩
              clear h8 hr8 HS6 HM6 HRL6 HRS HG5 HI9
              go_wp2_with fail
              go_roundg (s.size + 1 - a9)
              case measure => have := HA9.out; omega
              case rel => exact ⟨a9, z, rfl, rfl, rfl, hz0, hz1, HMK.out⟩
        · have hdn : decide (iv < 0) = false := decide_eq_false hneg
          rw [if_neg hneg] at HRS
          obtain ⟨i, rfl⟩ := Int.eq_ofNat_of_zero_le (Int.not_lt.1 hneg)
          obtain ⟨p, hp⟩ : ∃ p, p = i * blk := ⟨_, rfl⟩
          have hpi : (i : Int) * (blk : Int) = (p : Int) := by rw [hp]; push_cast; rfl
          rw [hpi] at HRS
          have hpz : p + blk ≤ size := by
            have h1 : i + 1 ≤ size / blk := by omega
            have h2 := Nat.mul_le_mul_right blk h1
            have h3 := Nat.div_mul_le_self size blk
            rw [Nat.add_mul, Nat.one_mul] at h2
            omega
          have hpz2 : p + blk ≤ 524288 := Nat.le_trans hpz HSZ.out
          have hii : i ≤ 524288 := by have := Nat.div_le_self size blk; have := HSZ.out; omega
          obtain ⟨i1, hi1⟩ : ∃ i1, i1 = i + 1 := ⟨_, rfl⟩
          have hi1i : (i : Int) + 1 = (i1 : Int) := by omega
          have hi1b : i1 ≤ 524289 := by omega
          rw [hi1i] at HRS
          clear hp hi1 r1 r2 hneg hei
          have HEI : Hid ((a : Int) + (blk : Int) = (e1 : Int)) := by unfold Hid; have := HE1.out; omega
          have hei := HEI.out
          go_wp2_with fail
          refine (f44_calls _ _ _ _ _ _ _ _ _ _ _ _ HS5.out.tbl).mono ?_; rintro e w6 ⟨rfl, rfl⟩
          go_wp2_with fail
          refine (f44_calls _ _ _ _ _ _ _ _ _ _ _ _ HS5.out.tbl).mono ?_; rintro e w7 ⟨rfl, rfl⟩
          go_wp2_with fail
          refine (f111_calls N w1.heap.size l9 t9 sv9 tv9 (p : Int) (blk : Int) _ HM5.out (by omega) HI9.out (by omega) (by omega) (by omega)).mono ?_; rintro e w8 ⟨sv8, tv8, rfl, hM8, hm8⟩
          have HS8 := Lib.hid (HS5.out.other hm8 (fun e => e.elim (Nat.le_trans hsep.2.2) (fun e => e ▸ hsep.1)))
          have HM8 := Lib.hid hM8
          have HRL8 := Lib.hid (HRL5.out.mods hm8 (fun e => e.elim (fun e => absurd hg2 (Nat.not_lt.2 e)) hg3))
          clear hM8 hm8 HS5 HM5 HRL5
          have HL8 : Hid ((cpy (l9 ++ chunks t9) (p : Int) (blk : Int)).length ≤ a + 1) := by
            unfold Hid
            have h1 := cpy_len (l9 ++ chunks t9) (p : Int) (blk : Int)
            have h2 := chunks_len t9
            rw [List.length_append] at h1
            omega
          have HI8 : Hid (∀ x ∈ cpy (l9 ++ chunks t9) (p : Int) (blk : Int), StpIn x) := cpy_in (fun x hx => (List.mem_append.1 hx).elim (HI9.out x) (chunks_in t9 x)) (by omega) (by omega) (by omega)
          have he0 : (⟨#[]⟩ : ByteArray).size = 0 := rfl
          generalize cpy (l9 ++ chunks t9) (p : Int) (blk : Int) = l8 at *
          go_wp2_with fail
          refine (f44_calls _ _ _ _ _ _ _ _ _ _ _ _ HS8.out.tbl).mono ?_; rintro e w9 ⟨rfl, rfl⟩
          go_wp2_with fail
          refine (f44_calls _ _ _ _ _ _ _ _ _ _ _ _ HS8.out.tbl).mono ?_; rintro e w10 ⟨rfl, rfl⟩
          by_cases hend : s.size < a + blk + blk
          · go_wp2_with fail
            refine (f112_end g s a blk _ HRL8.out (by omega) hblk2 hlen hend).mono ?_; rintro e w11 ⟨rfl, h11⟩
            have HMK : Hid (MkAt w1 w11 N b mb (w.alloc (.cells #[.int .i64 blk, .int .i64 size, .slice A l c, .slice A' m c'] 31)).heap.size T w1.heap.size g blk size ws ms bs wv sv kv bv K0 Good M TL s R e1 (i1 : Int) false) :=
              ⟨⟨l8, ⟨#[]⟩, sv8, tv8, k9 + 1, K5, f, HS8.out.other h11 (fun h => h.elim), HG5.out, HM8.out.mods h11 (fun _ _ _ h => h), by have := HE1.out; omega, by have := HE1.out; have := HL8.out; rw [he0]; omega, HI8.out, by rw [HE1.out]; exact HRS.out, by have := HE1.out; omega⟩, hes, (fun h => by simp at h), (fun _ => by have := HE1.out; omega), hsep⟩
            clear h11 HS8 HM8 HRL8 HRS HG5 HI9 HI8
            obtain ⟨l9, t9, sv9, tv9, k9, K9, f9, hS9, hG9, hM9, hk9, hl9, hi9, hR9, hf9⟩ := HMK.out.ex
            have HR9 : Hid (endP size blk TL l9 t9 (s.extract e1 s.size) = R) := by
              unfold Hid
              rw [← hR9]
              rcases f9 with _ | f9
              · rfl
              · rw [mkGo, if_neg (by have := HMK.out.stop rfl; omega)]
            have HS9 := Lib.hid hS9
            have hle9 := HMK.out.le
            have hsep9 := HMK.out.sep
            have hx9 : (s.extract e1 s.size).size = s.size - e1 := by rw [ByteArray.size_extract]; omega
            have H113 := Lib.hid (f113_calls hA hS9 hG9 (by omega) hM9 hsep9.1 (by omega) hblk HSZ.out HWL.out HML.out hi9 (s.extract e1 s.size) (by omega))
            clear hS9 hG9 hM9 hi9 hR9
            go_wp2_with fail
            refine H113.out.mono ?_; rintro e w' ⟨rfl, hE⟩
            obtain ⟨K8, sv8, tv8, hS8, hG8, hM8, _⟩ := hE.ex
            rw [HR9.out] at hM8
            have HS8 := Lib.hid hS8
            have HG8 := Lib.hid hG8
            have HM8 := Lib.hid hM8
            clear hE hS8 hG8 hM8
            obtain ⟨m0, m1, mf⟩ := cells2 HM8.out.row
            obtain ⟨A8, c8, hA8, _, _, _, _⟩ := Rd.of_owns HM8.out.steps
            subst hA8
            go_wp2
            try rw [Exit.noGoto_ret]
            go_ret2
            exact ⟨⟨_, rfl, own_base HM8.out.steps (by have := H1.out.size; omega)⟩, ⟨_, _, by omega, HG8.out, HS8.out.book, HS8.out.kind⟩, HS8.out.past H1.out⟩
          · go_wp2_with fail
            refine (f112_skip g s a blk _ HRL8.out (by omega) hblk2 hlen (by omega)).mono ?_; rintro e w11 ⟨rfl, hr11, h11⟩
            have HMK : Hid (MkAt w1 w11 N b mb (w.alloc (.cells #[.int .i64 blk, .int .i64 size, .slice A l c, .slice A' m c'] 31)).heap.size T w1.heap.size g blk size ws ms bs wv sv kv bv K0 Good M TL s R e1 (i1 : Int) true) :=
              ⟨⟨l8, ⟨#[]⟩, sv8, tv8, k9 + 1, K5, f, HS8.out.other h11 (fun h => h ▸ hg1), HG5.out, HM8.out.rolled HRL8.out.row hg2 hg3 h11, by have := HE1.out; omega, by have := HE1.out; have := HL8.out; rw [he0]; omega, HI8.out, by rw [HE1.out]; exact HRS.out, by have := HE1.out; omega⟩, hes, (fun _ => ⟨by rw [HE1.out]; exact hr11, hg1, hg2, hg3⟩), (fun h => by simp at h), hsep⟩
            clear h11 hr11 HS8 HM8 HRL8 HRS HG5 HI9 HI8
            go_wp2_with fail
            go_roundg (s.size + 1 - e1)
            case measure => have := HE1.out; omega
            case rel => exact ⟨e1, i1, rfl, rfl, rfl, by omega, by omega, HMK.out⟩
end Go.Proofs.Ytblhbbgkkijkfaa
