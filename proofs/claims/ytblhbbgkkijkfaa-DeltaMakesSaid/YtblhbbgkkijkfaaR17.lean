/-
  The law DeltaMakes of chapter 6 is proved: the steps for any text by the signature of any other are the reference's, or both refuse.
  Conditions: none beyond the given statement's own.
-/
import Derived.Test.YtblhbbgkkijkfaaRows
import Derived.WalkKit
import Derived.ProofKit
import Derived.OpenShut
import Derived.ShutString
import Derived.ChangeOld
import Derived.Below
import Derived.Test.YtblhbbgkkijkfaaL17
import Derived.Test.YtblhbbgkkijkfaaF0
namespace Go.Proofs.Ytblhbbgkkijkfaa.deltaMakes
open Go.ChangeShapes Go.WideShapes Go.ChangeAt Go.RowKit
open Go.ChangeMaps (open_string shut_string)
set_option linter.unusedVariables false

theorem own : ownKnob Try.prog.godebug = none := by kernel_rfl
theorem laidOut : laidOutB Try.prog = true := by kernel_rfl

set_option maxRecDepth 100000 in
theorem lifted (os : Os) (started : os.Started) (H : Type) (enc : TypeId × Value → H) :
    ReturnsInHanded {} Try.checked os 17 .any (Rows.deltaMakesSpec.pre6 enc Try.prog Try.f17 Rows.deltaMakesRow.domain false) (Rows.deltaMakesSpec.post enc Try.prog Try.f17 false true false false) := by
  refine returnsInHanded_of_change (C := Try.checked) own started (by kernel_rfl) Try.func17
    (ChangeSpec.witness6 (enc := enc) (C := Try.checked) false ⟨#[], #[.string ByteArray.empty, .string ByteArray.empty, .int .i64 0], []⟩ 8 (by kernel_rfl) (by kernel_rfl) (by kernel_rfl) (by kernel_rfl)) ?_
  intro W base args ds gs before hval0 hW hcnd _
  have hval : ∀ (j : Nat) t v, Try.f17.params[j]? = some t → args[j]? = some v → Value.okWide Try.prog W .any base t v := hval0
  have hW' := hW
  obtain ⟨p, q, hA0, hV, rfl, hfz, hnd⟩ := hW
  have hA : DataW.TrodAll enc Try.prog W 0 (fun _ => true) true Try.f17.params.toList args.toList ds p := hA0
  rw [Try.params17] at hA hval
  obtain ⟨v0, vs0, d0, ds0, p0, q0, hargs, rfl, rfl, h0, r0⟩ := trodAll_cons hA
  obtain ⟨v1, vs1, d1, ds1, p1, q1, rfl, rfl, rfl, h1, r1⟩ := trodAll_cons r0
  obtain ⟨v2, vs2, d2, ds2, p2, q2, rfl, rfl, rfl, h2, r2⟩ := trodAll_cons r1
  obtain ⟨rfl, rfl, rfl⟩ := trodAll_nil r2
  obtain rfl : args = #[v0, v1, v2] := by cases args; simp_all
  obtain ⟨rfl, rfl⟩ := trodVars_none hV
  obtain ⟨a0, rfl, rfl, rfl, w0⟩ := open_string Try.underlying9 (hval 0 9 v0 rfl rfl) h0
  obtain ⟨a1, rfl, rfl, rfl, w1⟩ := open_string Try.underlying9 (hval 1 9 v1 rfl rfl) h1
  obtain ⟨a2, rfl, rfl, rfl, w2⟩ := open_int Try.underlying3 (hval 2 3 v2 rfl rfl) h2
  clear hA0 hval0
  simp only [List.append_nil] at hW'
  refine (deltaMakes_walk a0 a1 a2 w0 w1 w2 W).mono fun e W' ⟨he, hmo⟩ => ?_
  subst he
  have bel := hmo.nope
  exact ⟨_, rfl, _, _, _, [], [], [], hW', trodAll_mk1 (shut_bool Try.underlying4 _), (trodAll_cons_mk (shut_string Try.underlying9 w0) (trodAll_cons_mk (shut_string Try.underlying9 w1) (trodAll_cons_mk (shut_int Try.underlying3 w2) trodAll_mk0))), rfl, bel.frame _, fun h => by cases h⟩

theorem k1 : Rows.deltaMakesRow.wf (OpenSpec.ofChange Rows.deltaMakesSpec) = true := by kernel_rfl
theorem k4 : Try.f17.params.all (Try.prog.readableRec ·) = true := by kernel_rfl
theorem k5 : namedTie Try.prog Rows.deltaMakesRow.named Rows.deltaMakesSpec.vars = true := by kernel_rfl
theorem k10 : (Rows.deltaMakesRow.inPlace == Try.prog.inPlace 17) = true := by kernel_rfl
theorem k11 : (Rows.deltaMakesRow.unfollowed == Try.prog.unfollowed 17) = true := by kernel_rfl
theorem k12 : (Rows.deltaMakesRow.recurses == Try.prog.recurses 17) = true := by kernel_rfl
theorem k13 : (Rows.deltaMakesRow.named == Try.prog.varsNamed 17) = true := by kernel_rfl
theorem k14 : (Rows.deltaMakesRow.maps == (Try.f17.params.toList ++ Rows.deltaMakesSpec.plain.varTypes Try.prog).any (Try.prog.mapsRec ·)) = true := by kernel_rfl
theorem k15 : (Rows.deltaMakesRow.ifaces == (Try.f17.params.toList ++ Rows.deltaMakesSpec.plain.varTypes Try.prog).any (Try.prog.ifacesRec ·)) = true := by kernel_rfl
theorem k16 : (Rows.deltaMakesRow.mapsOut == Try.prog.mapsAmong Try.f17.resultTypes.toList) = true := by kernel_rfl
theorem k17 : (Rows.deltaMakesRow.loops == (Try.f17.params.toList ++ Rows.deltaMakesSpec.plain.varTypes Try.prog).any (Try.prog.loopsFrom ·)) = true := by kernel_rfl
theorem k18 : (Rows.deltaMakesRow.wideKeys == (Try.f17.params.toList ++ Rows.deltaMakesSpec.plain.varTypes Try.prog ++ Try.f17.resultTypes.toList).any (Try.prog.wideKeysFrom ·)) = true := by kernel_rfl
theorem k19 : Rows.deltaMakesSpec.vars.all (Try.prog.varReadable ·) = true := by kernel_rfl
theorem k20 : Try.f17.resultTypes.all (fun t => Try.prog.readableRec t && decide (t < Try.prog.types.size)) = true := by kernel_rfl
theorem k21 : (Rows.deltaMakesRow.ifacesOut == Try.f17.resultTypes.toList.any (Try.prog.ifacesRec ·)) = true := by kernel_rfl
theorem k22 : (Rows.deltaMakesRow.loopsOut == Try.f17.resultTypes.toList.any (Try.prog.loopsFrom ·)) = true := by kernel_rfl
theorem k29 : (Rows.deltaMakesRow.kinds == (if Rows.deltaMakesRow.domain.isEmpty then [] else Try.f17.params.toList.map fun t => match Try.prog.underlying t with | some (.int k) => some k | _ => none)) = true := by kernel_rfl
theorem k30 : (Rows.deltaMakesRow.pinned == Rows.deltaMakesRow.pinnedBy) = true := by kernel_rfl
theorem k31 : (Rows.deltaMakesRow.veiled == (Try.f17.params.toList ++ Rows.deltaMakesSpec.plain.varTypes Try.prog ++ Try.f17.resultTypes.toList).any (Try.prog.veiledRec ·)) = true := by kernel_rfl
theorem k32 : Rows.deltaMakesRow.veiledFits Try.prog Try.f17.params.toList (Try.f17.params.toList ++ Rows.deltaMakesSpec.plain.varTypes Try.prog ++ Try.f17.resultTypes.toList) = true := by kernel_rfl
set_option maxRecDepth 100000 in
theorem closed : joinedFacts Try.prog 17 Try.f17 Rows.deltaMakesSpec Rows.deltaMakesRow = true :=
  joined_of prog_laid prog_maps prog_stops prog_knobs prog_plain prog_heard prog_mayEnter prog_liftsFinal prog_make k1 k4 k5 rfl rfl k10 k11 k12 k13 k14 k15 k16 k17 k18 k19 k20 k21 k22 rfl rfl rfl rfl k29 k30 k31 k32
theorem named_is : Try.prog.funcNamed Rows.deltaMakesRow.func = some 17 := by kernel_rfl
theorem inst_is : Try.f17.isInstance Try.prog Rows.deltaMakesRow.origin Rows.deltaMakesRow.targs := of_decide_eq_true (by kernel_rfl)
theorem wrap_is : Try.f17.isWrapper Try.prog Rows.deltaMakesRow.wrapper Rows.deltaMakesRow.mainSum := by unfold Func.isWrapper; first | (rw [if_pos (by decide +kernel)]; kernel_rfl) | (rw [if_neg (by decide +kernel)]; exact ⟨rfl, rfl⟩)
theorem over : Rows.deltaMakesRow.holds Try.pinned (OpenSpec.ofChange Rows.deltaMakesSpec) :=
  OpenClaim.holds_of_wide 17 Try.f17 rfl rfl rfl rfl rfl rfl rfl ⟨rfl, rfl, rfl, rfl, rfl⟩ rfl rfl rfl rfl rfl named_is Try.func17 closed inst_is wrap_is
    (fun os started H enc _ => lifted os started H enc)

theorem proved : Rows.DeltaMakesSaid :=
  over
#print axioms proved
end Go.Proofs.Ytblhbbgkkijkfaa.deltaMakes
