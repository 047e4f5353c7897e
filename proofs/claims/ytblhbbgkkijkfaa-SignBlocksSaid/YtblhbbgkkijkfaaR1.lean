/-
  The law SignBlocks of chapter 5 is proved: for every number the program's size of blocks is the reference's, and lies between 16 and 1024.
  Conditions: none beyond the given statement's own.
-/
import Derived.Test.YtblhbbgkkijkfaaRows
import Derived.WalkKit
import Derived.ProofKit
import Derived.OpenShut
import Derived.ShutString
import Derived.ChangeOld
import Derived.Below
import Derived.Test.YtblhbbgkkijkfaaL1
import Derived.Test.YtblhbbgkkijkfaaF0
namespace Go.Proofs.Ytblhbbgkkijkfaa.signBlocks
open Go.ChangeShapes Go.WideShapes Go.ChangeAt Go.RowKit
open Go.ChangeMaps (open_string shut_string)
set_option linter.unusedVariables false

theorem own : ownKnob Try.prog.godebug = none := by kernel_rfl
theorem laidOut : laidOutB Try.prog = true := by kernel_rfl

set_option maxRecDepth 100000 in
theorem lifted (os : Os) (started : os.Started) (H : Type) (enc : TypeId × Value → H) :
    ReturnsInHanded {} Try.checked os 3 .any (Rows.signBlocksSpec.pre6 enc Try.prog Try.f3 Rows.signBlocksRow.domain false) (Rows.signBlocksSpec.post enc Try.prog Try.f3 false true false false) := by
  refine returnsInHanded_of_change (C := Try.checked) own started (by kernel_rfl) Try.func3
    (ChangeSpec.witness6 (enc := enc) (C := Try.checked) false ⟨#[], #[.int .i64 0], []⟩ 8 (by kernel_rfl) (by kernel_rfl) (by kernel_rfl) (by kernel_rfl)) ?_
  intro W base args ds gs before hval0 hW hcnd _
  have hval : ∀ (j : Nat) t v, Try.f3.params[j]? = some t → args[j]? = some v → Value.okWide Try.prog W .any base t v := hval0
  have hW' := hW
  obtain ⟨p, q, hA0, hV, rfl, hfz, hnd⟩ := hW
  have hA : DataW.TrodAll enc Try.prog W 0 (fun _ => true) true Try.f3.params.toList args.toList ds p := hA0
  rw [Try.params3] at hA hval
  obtain ⟨v0, vs0, d0, ds0, p0, q0, hargs, rfl, rfl, h0, r0⟩ := trodAll_cons hA
  obtain ⟨rfl, rfl, rfl⟩ := trodAll_nil r0
  obtain rfl : args = #[v0] := by cases args; simp_all
  obtain ⟨rfl, rfl⟩ := trodVars_none hV
  obtain ⟨a0, rfl, rfl, rfl, w0⟩ := open_int Try.underlying3 (hval 0 3 v0 rfl rfl) h0
  clear hA0 hval0
  simp only [List.append_nil] at hW'
  refine (signBlocks_walk a0 w0 W).mono fun e W' ⟨he, hm⟩ => ?_
  subst he
  have bel := hm.nope
  exact ⟨_, rfl, _, _, _, [], [], [], hW', trodAll_mk1 (shut_bool Try.underlying4 _), (trodAll_cons_mk (shut_int Try.underlying3 w0) trodAll_mk0), rfl, bel.frame _, fun h => by cases h⟩

theorem k1 : Rows.signBlocksRow.wf (OpenSpec.ofChange Rows.signBlocksSpec) = true := by kernel_rfl
theorem k4 : Try.f3.params.all (Try.prog.readableRec ·) = true := by kernel_rfl
theorem k5 : namedTie Try.prog Rows.signBlocksRow.named Rows.signBlocksSpec.vars = true := by kernel_rfl
theorem k10 : (Rows.signBlocksRow.inPlace == Try.prog.inPlace 3) = true := by kernel_rfl
theorem k11 : (Rows.signBlocksRow.unfollowed == Try.prog.unfollowed 3) = true := by kernel_rfl
theorem k12 : (Rows.signBlocksRow.recurses == Try.prog.recurses 3) = true := by kernel_rfl
theorem k13 : (Rows.signBlocksRow.named == Try.prog.varsNamed 3) = true := by kernel_rfl
theorem k14 : (Rows.signBlocksRow.maps == (Try.f3.params.toList ++ Rows.signBlocksSpec.plain.varTypes Try.prog).any (Try.prog.mapsRec ·)) = true := by kernel_rfl
theorem k15 : (Rows.signBlocksRow.ifaces == (Try.f3.params.toList ++ Rows.signBlocksSpec.plain.varTypes Try.prog).any (Try.prog.ifacesRec ·)) = true := by kernel_rfl
theorem k16 : (Rows.signBlocksRow.mapsOut == Try.prog.mapsAmong Try.f3.resultTypes.toList) = true := by kernel_rfl
theorem k17 : (Rows.signBlocksRow.loops == (Try.f3.params.toList ++ Rows.signBlocksSpec.plain.varTypes Try.prog).any (Try.prog.loopsFrom ·)) = true := by kernel_rfl
theorem k18 : (Rows.signBlocksRow.wideKeys == (Try.f3.params.toList ++ Rows.signBlocksSpec.plain.varTypes Try.prog ++ Try.f3.resultTypes.toList).any (Try.prog.wideKeysFrom ·)) = true := by kernel_rfl
theorem k19 : Rows.signBlocksSpec.vars.all (Try.prog.varReadable ·) = true := by kernel_rfl
theorem k20 : Try.f3.resultTypes.all (fun t => Try.prog.readableRec t && decide (t < Try.prog.types.size)) = true := by kernel_rfl
theorem k21 : (Rows.signBlocksRow.ifacesOut == Try.f3.resultTypes.toList.any (Try.prog.ifacesRec ·)) = true := by kernel_rfl
theorem k22 : (Rows.signBlocksRow.loopsOut == Try.f3.resultTypes.toList.any (Try.prog.loopsFrom ·)) = true := by kernel_rfl
theorem k29 : (Rows.signBlocksRow.kinds == (if Rows.signBlocksRow.domain.isEmpty then [] else Try.f3.params.toList.map fun t => match Try.prog.underlying t with | some (.int k) => some k | _ => none)) = true := by kernel_rfl
theorem k30 : (Rows.signBlocksRow.pinned == Rows.signBlocksRow.pinnedBy) = true := by kernel_rfl
theorem k31 : (Rows.signBlocksRow.veiled == (Try.f3.params.toList ++ Rows.signBlocksSpec.plain.varTypes Try.prog ++ Try.f3.resultTypes.toList).any (Try.prog.veiledRec ·)) = true := by kernel_rfl
theorem k32 : Rows.signBlocksRow.veiledFits Try.prog Try.f3.params.toList (Try.f3.params.toList ++ Rows.signBlocksSpec.plain.varTypes Try.prog ++ Try.f3.resultTypes.toList) = true := by kernel_rfl
set_option maxRecDepth 100000 in
theorem closed : joinedFacts Try.prog 3 Try.f3 Rows.signBlocksSpec Rows.signBlocksRow = true :=
  joined_of prog_laid prog_maps prog_stops prog_knobs prog_plain prog_heard prog_mayEnter prog_liftsFinal prog_make k1 k4 k5 rfl rfl k10 k11 k12 k13 k14 k15 k16 k17 k18 k19 k20 k21 k22 rfl rfl rfl rfl k29 k30 k31 k32
theorem named_is : Try.prog.funcNamed Rows.signBlocksRow.func = some 3 := by kernel_rfl
theorem inst_is : Try.f3.isInstance Try.prog Rows.signBlocksRow.origin Rows.signBlocksRow.targs := of_decide_eq_true (by kernel_rfl)
theorem wrap_is : Try.f3.isWrapper Try.prog Rows.signBlocksRow.wrapper Rows.signBlocksRow.mainSum := by unfold Func.isWrapper; first | (rw [if_pos (by decide +kernel)]; kernel_rfl) | (rw [if_neg (by decide +kernel)]; exact ⟨rfl, rfl⟩)
theorem over : Rows.signBlocksRow.holds Try.pinned (OpenSpec.ofChange Rows.signBlocksSpec) :=
  OpenClaim.holds_of_wide 3 Try.f3 rfl rfl rfl rfl rfl rfl rfl ⟨rfl, rfl, rfl, rfl, rfl⟩ rfl rfl rfl rfl rfl named_is Try.func3 closed inst_is wrap_is
    (fun os started H enc _ => lifted os started H enc)

theorem proved : Rows.SignBlocksSaid :=
  over
#print axioms proved
end Go.Proofs.Ytblhbbgkkijkfaa.signBlocks
