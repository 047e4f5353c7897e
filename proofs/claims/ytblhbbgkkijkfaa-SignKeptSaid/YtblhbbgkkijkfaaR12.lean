/-
  The law SignKept of chapter 5 is proved: a table keeps no list that it was handed or has handed out.
  Conditions: none beyond the given statement's own.
-/
import Derived.Test.YtblhbbgkkijkfaaRows
import Derived.WalkKit
import Derived.ProofKit
import Derived.OpenShut
import Derived.ShutString
import Derived.ChangeOld
import Derived.Below
import Derived.Test.YtblhbbgkkijkfaaL12
import Derived.Test.YtblhbbgkkijkfaaF0
import Derived.Test.YtblhbbgkkijkfaaSO
namespace Go.Proofs.Ytblhbbgkkijkfaa.signKept
open Go.ChangeShapes Go.WideShapes Go.ChangeAt Go.RowKit
open Go.ChangeMaps (open_string shut_string)
set_option linter.unusedVariables false

theorem own : ownKnob Try.prog.godebug = none := by kernel_rfl
theorem laidOut : laidOutB Try.prog = true := by kernel_rfl

set_option maxRecDepth 100000 in
theorem lifted (os : Os) (started : os.Started) (H : Type) (enc : TypeId × Value → H) :
    ReturnsInHanded {} Try.checked os 12 .any (Rows.signKeptSpec.pre6 enc Try.prog Try.f12 Rows.signKeptRow.domain false) (Rows.signKeptSpec.post enc Try.prog Try.f12 false true false false) := by
  refine returnsInHanded_of_change (C := Try.checked) own started (by kernel_rfl) Try.func12
    (ChangeSpec.witness6 (enc := enc) (C := Try.checked) false ⟨#[], #[.agg #[.int .i64 0, .int .i64 0, .slice none 0 0, .slice none 0 0], .int .i64 0], []⟩ 8 (by kernel_rfl) (by kernel_rfl) (by kernel_rfl) (by kernel_rfl)) ?_
  intro W base args ds gs before hval0 hW hcnd _
  have hval : ∀ (j : Nat) t v, Try.f12.params[j]? = some t → args[j]? = some v → Value.okWide Try.prog W .any base t v := hval0
  have hW' := hW
  obtain ⟨p, q, hA0, hV, rfl, hfz, hnd⟩ := hW
  have hA : DataW.TrodAll enc Try.prog W 0 (fun _ => true) true Try.f12.params.toList args.toList ds p := hA0
  rw [Try.params12] at hA hval
  obtain ⟨v0, vs0, d0, ds0, p0, q0, hargs, rfl, rfl, h0, r0⟩ := trodAll_cons hA
  obtain ⟨v1, vs1, d1, ds1, p1, q1, rfl, rfl, rfl, h1, r1⟩ := trodAll_cons r0
  obtain ⟨rfl, rfl, rfl⟩ := trodAll_nil r1
  obtain rfl : args = #[v0, v1] := by cases args; simp_all
  obtain ⟨rfl, rfl⟩ := trodVars_none hV
  have k0 := h0
  have lt0 : ∀ x ∈ p0, x.block < W.heap.size := by obtain ⟨m, hm⟩ := k0; exact DataW.trod_lt m _ _ _ hm
  obtain ⟨blk, size, A, A', c, c', l, m, ws, ms, rfl, wb, wz, hl, hm, hw, hs, hwf, hz, hlc, hmc, hc, hc'⟩ := open_sig (hval 0 31 v0 rfl rfl) h0
  obtain ⟨a1, rfl, rfl, rfl, w1⟩ := open_int Try.underlying3 (hval 1 3 v1 rfl rfl) h1
  clear hA0 hval0
  simp only [List.append_nil] at hW'
  refine (signKept_walk blk size A A' c c' l m ws ms a1 W hl hm hw hs hz hlc hmc hc hc').mono fun e W' ⟨he, hmo⟩ => ?_
  subst he
  have bel := hmo.nope
  exact ⟨_, rfl, _, _, _, [], _, [], hW', trodAll_mk1 (shut_bool Try.underlying4 _), (trodAll_cons_mk (Below.trod laidOut (by kernel_rfl) (of_decide_eq_true (by kernel_rfl)) k0 bel lt0) (trodAll_cons_mk (shut_int Try.underlying3 w1) trodAll_mk0)), rfl, bel.frame _, fun h => by cases h⟩

theorem k1 : Rows.signKeptRow.wf (OpenSpec.ofChange Rows.signKeptSpec) = true := by kernel_rfl
theorem k4 : Try.f12.params.all (Try.prog.readableRec ·) = true := by kernel_rfl
theorem k5 : namedTie Try.prog Rows.signKeptRow.named Rows.signKeptSpec.vars = true := by kernel_rfl
theorem k10 : (Rows.signKeptRow.inPlace == Try.prog.inPlace 12) = true := by kernel_rfl
theorem k11 : (Rows.signKeptRow.unfollowed == Try.prog.unfollowed 12) = true := by kernel_rfl
theorem k12 : (Rows.signKeptRow.recurses == Try.prog.recurses 12) = true := by kernel_rfl
theorem k13 : (Rows.signKeptRow.named == Try.prog.varsNamed 12) = true := by kernel_rfl
theorem k14 : (Rows.signKeptRow.maps == (Try.f12.params.toList ++ Rows.signKeptSpec.plain.varTypes Try.prog).any (Try.prog.mapsRec ·)) = true := by kernel_rfl
theorem k15 : (Rows.signKeptRow.ifaces == (Try.f12.params.toList ++ Rows.signKeptSpec.plain.varTypes Try.prog).any (Try.prog.ifacesRec ·)) = true := by kernel_rfl
theorem k16 : (Rows.signKeptRow.mapsOut == Try.prog.mapsAmong Try.f12.resultTypes.toList) = true := by kernel_rfl
theorem k17 : (Rows.signKeptRow.loops == (Try.f12.params.toList ++ Rows.signKeptSpec.plain.varTypes Try.prog).any (Try.prog.loopsFrom ·)) = true := by kernel_rfl
theorem k18 : (Rows.signKeptRow.wideKeys == (Try.f12.params.toList ++ Rows.signKeptSpec.plain.varTypes Try.prog ++ Try.f12.resultTypes.toList).any (Try.prog.wideKeysFrom ·)) = true := by kernel_rfl
theorem k19 : Rows.signKeptSpec.vars.all (Try.prog.varReadable ·) = true := by kernel_rfl
theorem k20 : Try.f12.resultTypes.all (fun t => Try.prog.readableRec t && decide (t < Try.prog.types.size)) = true := by kernel_rfl
theorem k21 : (Rows.signKeptRow.ifacesOut == Try.f12.resultTypes.toList.any (Try.prog.ifacesRec ·)) = true := by kernel_rfl
theorem k22 : (Rows.signKeptRow.loopsOut == Try.f12.resultTypes.toList.any (Try.prog.loopsFrom ·)) = true := by kernel_rfl
theorem k29 : (Rows.signKeptRow.kinds == (if Rows.signKeptRow.domain.isEmpty then [] else Try.f12.params.toList.map fun t => match Try.prog.underlying t with | some (.int k) => some k | _ => none)) = true := by kernel_rfl
theorem k30 : (Rows.signKeptRow.pinned == Rows.signKeptRow.pinnedBy) = true := by kernel_rfl
theorem k31 : (Rows.signKeptRow.veiled == (Try.f12.params.toList ++ Rows.signKeptSpec.plain.varTypes Try.prog ++ Try.f12.resultTypes.toList).any (Try.prog.veiledRec ·)) = true := by kernel_rfl
theorem k32 : Rows.signKeptRow.veiledFits Try.prog Try.f12.params.toList (Try.f12.params.toList ++ Rows.signKeptSpec.plain.varTypes Try.prog ++ Try.f12.resultTypes.toList) = true := by kernel_rfl
set_option maxRecDepth 100000 in
theorem closed : joinedFacts Try.prog 12 Try.f12 Rows.signKeptSpec Rows.signKeptRow = true :=
  joined_of prog_laid prog_maps prog_stops prog_knobs prog_plain prog_heard prog_mayEnter prog_liftsFinal prog_make k1 k4 k5 rfl rfl k10 k11 k12 k13 k14 k15 k16 k17 k18 k19 k20 k21 k22 rfl rfl rfl rfl k29 k30 k31 k32
theorem named_is : Try.prog.funcNamed Rows.signKeptRow.func = some 12 := by kernel_rfl
theorem inst_is : Try.f12.isInstance Try.prog Rows.signKeptRow.origin Rows.signKeptRow.targs := of_decide_eq_true (by kernel_rfl)
theorem wrap_is : Try.f12.isWrapper Try.prog Rows.signKeptRow.wrapper Rows.signKeptRow.mainSum := by unfold Func.isWrapper; first | (rw [if_pos (by decide +kernel)]; kernel_rfl) | (rw [if_neg (by decide +kernel)]; exact ⟨rfl, rfl⟩)
theorem over : Rows.signKeptRow.holds Try.pinned (OpenSpec.ofChange Rows.signKeptSpec) :=
  OpenClaim.holds_of_wide 12 Try.f12 rfl rfl rfl rfl rfl rfl rfl ⟨rfl, rfl, rfl, rfl, rfl⟩ rfl rfl rfl rfl rfl named_is Try.func12 closed inst_is wrap_is
    (fun os started H enc _ => lifted os started H enc)

theorem proved : Rows.SignKeptSaid :=
  over
#print axioms proved
end Go.Proofs.Ytblhbbgkkijkfaa.signKept
