/- symMerge at whatever lengths. -/
import Derived.Test.YtblhbbgkkijkfaaT5
namespace Go.Proofs.Ytblhbbgkkijkfaa
open Go.RowKit Go.Maps
theorem f150_all (g cap N G : Nat) (A : Option Addr) (c : Nat) (ws : List Int) (hgG : g ≠ G) (hAg : ∀ ad, A = some ad → ad.block ≠ g) (hcap : N ≤ 1000000) : ∀ (F : Nat)
    (p l r q : List Int) (ai mi bi : Int) (w : World), l.length + r.length ≤ F → SymPre g cap N G A c ws p l r q w → ai = p.length → mi = ai + l.length → bi = mi + r.length → Calls Try.prog 150 #[.slice (some ⟨g, 0, none⟩) N cap, .int .i64 ai, .int .i64 mi, .int .i64 bi, cmpV G] w (SymPost ws g cap p l r q w) := by
  intro F
  induction F with
  | zero => intro p l r q ai mi bi w hF h _ _ _; have := h.l0; omega
  | succ F ih =>
    intro p l r q ai mi bi w hF h ha hm hb
    obtain rfl : mi = ((p.length + l.length : Nat) : Int) := by omega
    obtain rfl : bi = ((p.length + l.length + r.length : Nat) : Int) := by omega
    subst ha
    have h1 := h.l0
    have h2 := h.r0
    by_cases hl : l.length = 1
    · obtain ⟨x0, rfl⟩ := List.length_eq_one_iff.1 hl
      exact f150_one g cap N G A c ws p r q x0 _ _ _ w h.arr h.len rfl rfl rfl h.ks (h.inl x0 (by simp)) h.inr h.sr (fun y hy => h.cross x0 (by simp) y hy) hcap
    · by_cases hr : r.length = 1
      · obtain ⟨x0, rfl⟩ := List.length_eq_one_iff.1 hr
        exact f150_last g cap N G A c ws p l q x0 _ _ _ w h.arr h.len rfl rfl rfl (by omega) h.ks (h.inr x0 (by simp)) h.inl h.sl (fun y hy => h.cross y hy x0 (by simp)) hcap
      · exact f150_step g cap N G A c ws hgG hAg hcap F ih p l r q _ _ _ w hF h rfl rfl rfl (by omega) (by omega)
theorem f150_calls (g cap N G : Nat) (A : Option Addr) (c : Nat) (ws : List Int) (hgG : g ≠ G) (hAg : ∀ ad, A = some ad → ad.block ≠ g) (hcap : N ≤ 1000000)
    (p l r q : List Int) (ai mi bi : Int) (w : World) (h : SymPre g cap N G A c ws p l r q w) (ha : ai = p.length) (hm : mi = ai + l.length) (hb : bi = mi + r.length) :
    Calls Try.prog 150 #[.slice (some ⟨g, 0, none⟩) N cap, .int .i64 ai, .int .i64 mi, .int .i64 bi, cmpV G] w (SymPost ws g cap p l r q w) :=
  f150_all g cap N G A c ws hgG hAg hcap _ p l r q ai mi bi w (Nat.le_refl _) h ha hm hb
/-! ### Chunks -/
/-- A list in chunks of so many, each in order, each below what follows. -/
inductive Ch (ws : List Int) (B : Nat) : List Int → Prop where
  | last (xs : List Int) : xs.length ≤ B → xs.Pairwise (Rl ws) → Ch ws B xs
  | cons (c xs : List Int) : c.length = B → c.Pairwise (Rl ws) → (∀ x ∈ c, ∀ y ∈ xs, x < y) → Ch ws B xs → Ch ws B (c ++ xs)
theorem Ch.small {ws : List Int} {B : Nat} {xs : List Int} (h : Ch ws B xs) (hl : xs.length ≤ B) : xs.Pairwise (Rl ws) := by
  cases h with
  | last _ h1 h2 => exact h2
  | cons c xs h1 h2 h3 h4 =>
    rw [List.length_append] at hl
    obtain rfl : xs = [] := List.eq_nil_of_length_eq_zero (by omega)
    simpa using h2
/-- A first chunk, if there is more than one. -/
theorem Ch.take {ws : List Int} {B : Nat} {xs : List Int} (h : Ch ws B xs) (hl : B ≤ xs.length) : ∃ c t, xs = c ++ t ∧ c.length = B ∧ c.Pairwise (Rl ws) ∧ (∀ x ∈ c, ∀ y ∈ t, x < y) ∧ Ch ws B t := by
  cases h with
  | last _ h1 h2 => exact ⟨xs, [], by simp, by omega, h2, fun _ _ y hy => (by simp at hy), .last [] (by simp) .nil⟩
  | cons c xs h1 h2 h3 h4 => exact ⟨c, xs, rfl, h1, h2, h3, h4⟩
/-- What the passes hold: what is done goes with whatever the rest becomes. -/
def Goes (ws : List Int) (B : Nat) (done todo : List Int) : Prop := ∀ t, Ch ws B t → t.Perm todo → Ch ws B (done ++ t)
theorem Goes.start (ws : List Int) (B : Nat) (xs : List Int) : Goes ws B [] xs := fun _ ht _ => ht
theorem Goes.step {ws : List Int} {B : Nat} {done c todo s : List Int} (h : Goes ws B done (c ++ todo)) (hs : s.Perm c) (hl : s.length = B) (ho : s.Pairwise (Rl ws)) (hx : ∀ x ∈ c, ∀ y ∈ todo, x < y) : Goes ws B (done ++ s) todo := by
  intro t ht hp
  rw [List.append_assoc]
  refine h (s ++ t) (.cons s t hl ho (fun x hx' y hy => hx x (hs.subset hx') y (hp.subset hy)) ht) (List.Perm.append hs hp)
end Go.Proofs.Ytblhbbgkkijkfaa
