/-
  The law DeltaRuns of chapter 6 is proved: the text that any steps make of any basis (or why they make none) is the same in the program and in the reference.
  Conditions: none beyond the given statement's own.
-/
import Derived.Test.YtblhbbgkkijkfaaRows
import Derived.WalkKit
import Derived.ProofKit
import Derived.OpenShut
import Derived.ShutString
import Derived.ChangeOld
import Derived.Below
import Derived.Test.YtblhbbgkkijkfaaL18
import Derived.Test.YtblhbbgkkijkfaaF0
import Derived.Test.YtblhbbgkkijkfaaSP
namespace Go.Proofs.Ytblhbbgkkijkfaa.deltaRuns
open Go.ChangeShapes Go.WideShapes Go.ChangeAt Go.RowKit
open Go.ChangeMaps (open_string shut_string)
set_option linter.unusedVariables false

theorem own : ownKnob Try.prog.godebug = none := by kernel_rfl
theorem laidOut : laidOutB Try.prog = true := by kernel_rfl

set_option maxRecDepth 100000 in
theorem lifted (os : Os) (started : os.Started) (H : Type) (enc : TypeId × Value → H) :
    ReturnsInHanded {} Try.checked os 18 .any (Rows.deltaRunsSpec.pre6 enc Try.prog Try.f18 Rows.deltaRunsRow.domain false) (Rows.deltaRunsSpec.post enc Try.prog Try.f18 false true false false) := by
  refine returnsInHanded_of_change (C := Try.checked) own started (by kernel_rfl) Try.func18
    (ChangeSpec.witness6 (enc := enc) (C := Try.checked) false ⟨#[], #[.string ByteArray.empty, .slice none 0 0], []⟩ 8 (by kernel_rfl) (by kernel_rfl) (by kernel_rfl) (by kernel_rfl)) ?_
  intro W base args ds gs before hval0 hW hcnd _
  have hval : ∀ (j : Nat) t v, Try.f18.params[j]? = some t → args[j]? = some v → Value.okWide Try.prog W .any base t v := hval0
  have hW' := hW
  obtain ⟨p, q, hA0, hV, rfl, hfz, hnd⟩ := hW
  have hA : DataW.TrodAll enc Try.prog W 0 (fun _ => true) true Try.f18.params.toList args.toList ds p := hA0
  rw [Try.params18] at hA hval
  obtain ⟨v0, vs0, d0, ds0, p0, q0, hargs, rfl, rfl, h0, r0⟩ := trodAll_cons hA
  obtain ⟨v1, vs1, d1, ds1, p1, q1, rfl, rfl, rfl, h1, r1⟩ := trodAll_cons r0
  obtain ⟨rfl, rfl, rfl⟩ := trodAll_nil r1
  obtain rfl : args = #[v0, v1] := by cases args; simp_all
  obtain ⟨rfl, rfl⟩ := trodVars_none hV
  obtain ⟨a0, rfl, rfl, rfl, w0⟩ := open_string Try.underlying9 (hval 0 9 v0 rfl rfl) h0
  have k1 := h1
  have lt1 : ∀ x ∈ p1, x.block < W.heap.size := by obtain ⟨m, hm⟩ := k1; exact DataW.trod_lt m _ _ _ hm
  obtain ⟨A, n, c, l, rfl, hl, hr, ht, hnc, hc⟩ := open_steps_arg (hval 1 54 v1 rfl rfl) h1
  clear hA0 hval0
  simp only [List.append_nil] at hW'
  refine (deltaRuns_walk a0 A n c l W w0 hl hr ht hnc).mono fun e W' ⟨he, hmo⟩ => ?_
  subst he
  have bel := hmo.nope
  exact ⟨_, rfl, _, _, _, [], _, [], hW', trodAll_mk1 (shut_bool Try.underlying4 _), (trodAll_cons_mk (shut_string Try.underlying9 w0) (trodAll_cons_mk (Below.trod laidOut (by kernel_rfl) (of_decide_eq_true (by kernel_rfl)) k1 bel lt1) trodAll_mk0)), rfl, bel.frame _, fun h => by cases h⟩

theorem k1 : Rows.deltaRunsRow.wf (OpenSpec.ofChange Rows.deltaRunsSpec) = true := by kernel_rfl
theorem k4 : Try.f18.params.all (Try.prog.readableRec ·) = true := by kernel_rfl
theorem k5 : namedTie Try.prog Rows.deltaRunsRow.named Rows.deltaRunsSpec.vars = true := by kernel_rfl
theorem k10 : (Rows.deltaRunsRow.inPlace == Try.prog.inPlace 18) = true := by kernel_rfl
theorem k11 : (Rows.deltaRunsRow.unfollowed == Try.prog.unfollowed 18) = true := by kernel_rfl
theorem k12 : (Rows.deltaRunsRow.recurses == Try.prog.recurses 18) = true := by kernel_rfl
theorem k13 : (Rows.deltaRunsRow.named == Try.prog.varsNamed 18) = true := by kernel_rfl
theorem k14 : (Rows.deltaRunsRow.maps == (Try.f18.params.toList ++ Rows.deltaRunsSpec.plain.varTypes Try.prog).any (Try.prog.mapsRec ·)) = true := by kernel_rfl
theorem k15 : (Rows.deltaRunsRow.ifaces == (Try.f18.params.toList ++ Rows.deltaRunsSpec.plain.varTypes Try.prog).any (Try.prog.ifacesRec ·)) = true := by kernel_rfl
theorem k16 : (Rows.deltaRunsRow.mapsOut == Try.prog.mapsAmong Try.f18.resultTypes.toList) = true := by kernel_rfl
theorem k17 : (Rows.deltaRunsRow.loops == (Try.f18.params.toList ++ Rows.deltaRunsSpec.plain.varTypes Try.prog).any (Try.prog.loopsFrom ·)) = true := by kernel_rfl
theorem k18 : (Rows.deltaRunsRow.wideKeys == (Try.f18.params.toList ++ Rows.deltaRunsSpec.plain.varTypes Try.prog ++ Try.f18.resultTypes.toList).any (Try.prog.wideKeysFrom ·)) = true := by kernel_rfl
theorem k19 : Rows.deltaRunsSpec.vars.all (Try.prog.varReadable ·) = true := by kernel_rfl
theorem k20 : Try.f18.resultTypes.all (fun t => Try.prog.readableRec t && decide (t < Try.prog.types.size)) = true := by kernel_rfl
theorem k21 : (Rows.deltaRunsRow.ifacesOut == Try.f18.resultTypes.toList.any (Try.prog.ifacesRec ·)) = true := by kernel_rfl
theorem k22 : (Rows.deltaRunsRow.loopsOut == Try.f18.resultTypes.toList.any (Try.prog.loopsFrom ·)) = true := by kernel_rfl
theorem k29 : (Rows.deltaRunsRow.kinds == (if Rows.deltaRunsRow.domain.isEmpty then [] else Try.f18.params.toList.map fun t => match Try.prog.underlying t with | some (.int k) => some k | _ => none)) = true := by kernel_rfl
theorem k30 : (Rows.deltaRunsRow.pinned == Rows.deltaRunsRow.pinnedBy) = true := by kernel_rfl
theorem k31 : (Rows.deltaRunsRow.veiled == (Try.f18.params.toList ++ Rows.deltaRunsSpec.plain.varTypes Try.prog ++ Try.f18.resultTypes.toList).any (Try.prog.veiledRec ·)) = true := by kernel_rfl
theorem k32 : Rows.deltaRunsRow.veiledFits Try.prog Try.f18.params.toList (Try.f18.params.toList ++ Rows.deltaRunsSpec.plain.varTypes Try.prog ++ Try.f18.resultTypes.toList) = true := by kernel_rfl
set_option maxRecDepth 100000 in
theorem closed : joinedFacts Try.prog 18 Try.f18 Rows.deltaRunsSpec Rows.deltaRunsRow = true :=
  joined_of prog_laid prog_maps prog_stops prog_knobs prog_plain prog_heard prog_mayEnter prog_liftsFinal prog_make k1 k4 k5 rfl rfl k10 k11 k12 k13 k14 k15 k16 k17 k18 k19 k20 k21 k22 rfl rfl rfl rfl k29 k30 k31 k32
theorem named_is : Try.prog.funcNamed Rows.deltaRunsRow.func = some 18 := by kernel_rfl
theorem inst_is : Try.f18.isInstance Try.prog Rows.deltaRunsRow.origin Rows.deltaRunsRow.targs := of_decide_eq_true (by kernel_rfl)
theorem wrap_is : Try.f18.isWrapper Try.prog Rows.deltaRunsRow.wrapper Rows.deltaRunsRow.mainSum := by unfold Func.isWrapper; first | (rw [if_pos (by decide +kernel)]; kernel_rfl) | (rw [if_neg (by decide +kernel)]; exact ⟨rfl, rfl⟩)
theorem over : Rows.deltaRunsRow.holds Try.pinned (OpenSpec.ofChange Rows.deltaRunsSpec) :=
  OpenClaim.holds_of_wide 18 Try.f18 rfl rfl rfl rfl rfl rfl rfl ⟨rfl, rfl, rfl, rfl, rfl⟩ rfl rfl rfl rfl rfl named_is Try.func18 closed inst_is wrap_is
    (fun os started H enc _ => lifted os started H enc)

theorem proved : Rows.DeltaRunsSaid :=
  over
#print axioms proved
end Go.Proofs.Ytblhbbgkkijkfaa.deltaRuns
