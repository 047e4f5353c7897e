/-
  The law DeltaSame of chapter 6 is proved: for a text by its own signature no byte is sent.
  Conditions: none beyond the given statement's own.
-/
import Derived.Test.YtblhbbgkkijkfaaRows
import Derived.WalkKit
import Derived.ProofKit
import Derived.OpenShut
import Derived.ShutString
import Derived.ChangeOld
import Derived.Below
import Derived.Test.YtblhbbgkkijkfaaL16
import Derived.Test.YtblhbbgkkijkfaaF0
namespace Go.Proofs.Ytblhbbgkkijkfaa.deltaSame
open Go.ChangeShapes Go.WideShapes Go.ChangeAt Go.RowKit
open Go.ChangeMaps (open_string shut_string)
set_option linter.unusedVariables false

theorem own : ownKnob Try.prog.godebug = none := by kernel_rfl
theorem laidOut : laidOutB Try.prog = true := by kernel_rfl

set_option maxRecDepth 100000 in
theorem lifted (os : Os) (started : os.Started) (H : Type) (enc : TypeId × Value → H) :
    ReturnsInHanded {} Try.checked os 16 .any (Rows.deltaSameSpec.pre6 enc Try.prog Try.f16 Rows.deltaSameRow.domain false) (Rows.deltaSameSpec.post enc Try.prog Try.f16 false true false false) := by
  refine returnsInHanded_of_change (C := Try.checked) own started (by kernel_rfl) Try.func16
    (ChangeSpec.witness6 (enc := enc) (C := Try.checked) false ⟨#[], #[.string ByteArray.empty, .int .i64 0], []⟩ 8 (by kernel_rfl) (by kernel_rfl) (by kernel_rfl) (by kernel_rfl)) ?_
  intro W base args ds gs before hval0 hW hcnd _
  have hval : ∀ (j : Nat) t v, Try.f16.params[j]? = some t → args[j]? = some v → Value.okWide Try.prog W .any base t v := hval0
  have hW' := hW
  obtain ⟨p, q, hA0, hV, rfl, hfz, hnd⟩ := hW
  have hA : DataW.TrodAll enc Try.prog W 0 (fun _ => true) true Try.f16.params.toList args.toList ds p := hA0
  rw [Try.params16] at hA hval
  obtain ⟨v0, vs0, d0, ds0, p0, q0, hargs, rfl, rfl, h0, r0⟩ := trodAll_cons hA
  obtain ⟨v1, vs1, d1, ds1, p1, q1, rfl, rfl, rfl, h1, r1⟩ := trodAll_cons r0
  obtain ⟨rfl, rfl, rfl⟩ := trodAll_nil r1
  obtain rfl : args = #[v0, v1] := by cases args; simp_all
  obtain ⟨rfl, rfl⟩ := trodVars_none hV
  obtain ⟨a0, rfl, rfl, rfl, w0⟩ := open_string Try.underlying9 (hval 0 9 v0 rfl rfl) h0
  obtain ⟨a1, rfl, rfl, rfl, w1⟩ := open_int Try.underlying3 (hval 1 3 v1 rfl rfl) h1
  clear hA0 hval0
  simp only [List.append_nil] at hW'
  refine (deltaSame_walk a0 a1 w0 w1 W).mono fun e W' ⟨he, hmo⟩ => ?_
  subst he
  have bel := hmo.nope
  exact ⟨_, rfl, _, _, _, [], [], [], hW', trodAll_mk1 (shut_bool Try.underlying4 _), (trodAll_cons_mk (shut_string Try.underlying9 w0) (trodAll_cons_mk (shut_int Try.underlying3 w1) trodAll_mk0)), rfl, bel.frame _, fun h => by cases h⟩

theorem k1 : Rows.deltaSameRow.wf (OpenSpec.ofChange Rows.deltaSameSpec) = true := by kernel_rfl
theorem k4 : Try.f16.params.all (Try.prog.readableRec ·) = true := by kernel_rfl
theorem k5 : namedTie Try.prog Rows.deltaSameRow.named Rows.deltaSameSpec.vars = true := by kernel_rfl
theorem k10 : (Rows.deltaSameRow.inPlace == Try.prog.inPlace 16) = true := by kernel_rfl
theorem k11 : (Rows.deltaSameRow.unfollowed == Try.prog.unfollowed 16) = true := by kernel_rfl
theorem k12 : (Rows.deltaSameRow.recurses == Try.prog.recurses 16) = true := by kernel_rfl
theorem k13 : (Rows.deltaSameRow.named == Try.prog.varsNamed 16) = true := by kernel_rfl
theorem k14 : (Rows.deltaSameRow.maps == (Try.f16.params.toList ++ Rows.deltaSameSpec.plain.varTypes Try.prog).any (Try.prog.mapsRec ·)) = true := by kernel_rfl
theorem k15 : (Rows.deltaSameRow.ifaces == (Try.f16.params.toList ++ Rows.deltaSameSpec.plain.varTypes Try.prog).any (Try.prog.ifacesRec ·)) = true := by kernel_rfl
theorem k16 : (Rows.deltaSameRow.mapsOut == Try.prog.mapsAmong Try.f16.resultTypes.toList) = true := by kernel_rfl
theorem k17 : (Rows.deltaSameRow.loops == (Try.f16.params.toList ++ Rows.deltaSameSpec.plain.varTypes Try.prog).any (Try.prog.loopsFrom ·)) = true := by kernel_rfl
theorem k18 : (Rows.deltaSameRow.wideKeys == (Try.f16.params.toList ++ Rows.deltaSameSpec.plain.varTypes Try.prog ++ Try.f16.resultTypes.toList).any (Try.prog.wideKeysFrom ·)) = true := by kernel_rfl
theorem k19 : Rows.deltaSameSpec.vars.all (Try.prog.varReadable ·) = true := by kernel_rfl
theorem k20 : Try.f16.resultTypes.all (fun t => Try.prog.readableRec t && decide (t < Try.prog.types.size)) = true := by kernel_rfl
theorem k21 : (Rows.deltaSameRow.ifacesOut == Try.f16.resultTypes.toList.any (Try.prog.ifacesRec ·)) = true := by kernel_rfl
theorem k22 : (Rows.deltaSameRow.loopsOut == Try.f16.resultTypes.toList.any (Try.prog.loopsFrom ·)) = true := by kernel_rfl
theorem k29 : (Rows.deltaSameRow.kinds == (if Rows.deltaSameRow.domain.isEmpty then [] else Try.f16.params.toList.map fun t => match Try.prog.underlying t with | some (.int k) => some k | _ => none)) = true := by kernel_rfl
theorem k30 : (Rows.deltaSameRow.pinned == Rows.deltaSameRow.pinnedBy) = true := by kernel_rfl
theorem k31 : (Rows.deltaSameRow.veiled == (Try.f16.params.toList ++ Rows.deltaSameSpec.plain.varTypes Try.prog ++ Try.f16.resultTypes.toList).any (Try.prog.veiledRec ·)) = true := by kernel_rfl
theorem k32 : Rows.deltaSameRow.veiledFits Try.prog Try.f16.params.toList (Try.f16.params.toList ++ Rows.deltaSameSpec.plain.varTypes Try.prog ++ Try.f16.resultTypes.toList) = true := by kernel_rfl
set_option maxRecDepth 100000 in
theorem closed : joinedFacts Try.prog 16 Try.f16 Rows.deltaSameSpec Rows.deltaSameRow = true :=
  joined_of prog_laid prog_maps prog_stops prog_knobs prog_plain prog_heard prog_mayEnter prog_liftsFinal prog_make k1 k4 k5 rfl rfl k10 k11 k12 k13 k14 k15 k16 k17 k18 k19 k20 k21 k22 rfl rfl rfl rfl k29 k30 k31 k32
theorem named_is : Try.prog.funcNamed Rows.deltaSameRow.func = some 16 := by kernel_rfl
theorem inst_is : Try.f16.isInstance Try.prog Rows.deltaSameRow.origin Rows.deltaSameRow.targs := of_decide_eq_true (by kernel_rfl)
theorem wrap_is : Try.f16.isWrapper Try.prog Rows.deltaSameRow.wrapper Rows.deltaSameRow.mainSum := by unfold Func.isWrapper; first | (rw [if_pos (by decide +kernel)]; kernel_rfl) | (rw [if_neg (by decide +kernel)]; exact ⟨rfl, rfl⟩)
theorem over : Rows.deltaSameRow.holds Try.pinned (OpenSpec.ofChange Rows.deltaSameSpec) :=
  OpenClaim.holds_of_wide 16 Try.f16 rfl rfl rfl rfl rfl rfl rfl ⟨rfl, rfl, rfl, rfl, rfl⟩ rfl rfl rfl rfl rfl named_is Try.func16 closed inst_is wrap_is
    (fun os started H enc _ => lifted os started H enc)

theorem proved : Rows.DeltaSameSaid :=
  over
#print axioms proved
end Go.Proofs.Ytblhbbgkkijkfaa.deltaSame
