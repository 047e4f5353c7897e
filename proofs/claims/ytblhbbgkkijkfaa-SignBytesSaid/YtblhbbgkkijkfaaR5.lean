/-
  The law SignBytes of chapter 5 is proved: of any signature (cut to three hundred blocks) the program's bytes are the reference's, and so is its word on whether it may be.
  Conditions: none beyond the given statement's own.
-/
import Derived.Test.YtblhbbgkkijkfaaRows
import Derived.WalkKit
import Derived.ProofKit
import Derived.OpenShut
import Derived.ShutString
import Derived.ChangeOld
import Derived.Below
import Derived.Test.YtblhbbgkkijkfaaL5
import Derived.Test.YtblhbbgkkijkfaaSO
import Derived.Test.YtblhbbgkkijkfaaF0
namespace Go.Proofs.Ytblhbbgkkijkfaa.signBytes
open Go.ChangeShapes Go.WideShapes Go.ChangeAt Go.RowKit
open Go.ChangeMaps (open_string shut_string)
set_option linter.unusedVariables false

theorem own : ownKnob Try.prog.godebug = none := by kernel_rfl
theorem laidOut : laidOutB Try.prog = true := by kernel_rfl

set_option maxRecDepth 100000 in
theorem lifted (os : Os) (started : os.Started) (H : Type) (enc : TypeId × Value → H) :
    ReturnsInHanded {} Try.checked os 5 .any (Rows.signBytesSpec.pre6 enc Try.prog Try.f5 Rows.signBytesRow.domain false) (Rows.signBytesSpec.post enc Try.prog Try.f5 false true false false) := by
  refine returnsInHanded_of_change (C := Try.checked) own started (by kernel_rfl) Try.func5
    (ChangeSpec.witness6 (enc := enc) (C := Try.checked) false ⟨#[], #[.agg #[.int .i64 0, .int .i64 0, .slice none 0 0, .slice none 0 0]], []⟩ 8 (by kernel_rfl) (by kernel_rfl) (by kernel_rfl) (by kernel_rfl)) ?_
  intro W base args ds gs before hval0 hW hcnd _
  have hval : ∀ (j : Nat) t v, Try.f5.params[j]? = some t → args[j]? = some v → Value.okWide Try.prog W .any base t v := hval0
  have hW' := hW
  obtain ⟨p, q, hA0, hV, rfl, hfz, hnd⟩ := hW
  have hA : DataW.TrodAll enc Try.prog W 0 (fun _ => true) true Try.f5.params.toList args.toList ds p := hA0
  rw [Try.params5] at hA hval
  obtain ⟨v0, vs0, d0, ds0, p0, q0, hargs, rfl, rfl, h0, r0⟩ := trodAll_cons hA
  obtain ⟨rfl, rfl, rfl⟩ := trodAll_nil r0
  obtain rfl : args = #[v0] := by cases args; simp_all
  obtain ⟨rfl, rfl⟩ := trodVars_none hV
  have k0 := h0
  have lt0 : ∀ x ∈ p0, x.block < W.heap.size := by obtain ⟨m, hm⟩ := k0; exact DataW.trod_lt m _ _ _ hm
  obtain ⟨blk, size, A, A', c, c', l, m, ws, ms, rfl, w0, w1, hl, hm, hw, hs, hwf, hz, hlc, hmc, hc, hc'⟩ := open_sig (hval 0 31 v0 rfl rfl) h0
  clear hA0 hval0
  refine (signBytes_walk blk size A A' c c' l m ws ms W hl hm hw hs hz hlc hmc hc hc').mono fun e W' ⟨he, hmo⟩ => ?_
  subst he
  have bel := hmo.nope
  exact ⟨_, rfl, _, _, _, [], _, [], hW', trodAll_mk1 (shut_bool Try.underlying4 _), (trodAll_cons_mk (Below.trod laidOut (by kernel_rfl) (of_decide_eq_true (by kernel_rfl)) k0 bel lt0) trodAll_mk0), rfl, bel.frame _, fun h => by cases h⟩

theorem k1 : Rows.signBytesRow.wf (OpenSpec.ofChange Rows.signBytesSpec) = true := by kernel_rfl
theorem k4 : Try.f5.params.all (Try.prog.readableRec ·) = true := by kernel_rfl
theorem k5 : namedTie Try.prog Rows.signBytesRow.named Rows.signBytesSpec.vars = true := by kernel_rfl
theorem k10 : (Rows.signBytesRow.inPlace == Try.prog.inPlace 5) = true := by kernel_rfl
theorem k11 : (Rows.signBytesRow.unfollowed == Try.prog.unfollowed 5) = true := by kernel_rfl
theorem k12 : (Rows.signBytesRow.recurses == Try.prog.recurses 5) = true := by kernel_rfl
theorem k13 : (Rows.signBytesRow.named == Try.prog.varsNamed 5) = true := by kernel_rfl
theorem k14 : (Rows.signBytesRow.maps == (Try.f5.params.toList ++ Rows.signBytesSpec.plain.varTypes Try.prog).any (Try.prog.mapsRec ·)) = true := by kernel_rfl
theorem k15 : (Rows.signBytesRow.ifaces == (Try.f5.params.toList ++ Rows.signBytesSpec.plain.varTypes Try.prog).any (Try.prog.ifacesRec ·)) = true := by kernel_rfl
theorem k16 : (Rows.signBytesRow.mapsOut == Try.prog.mapsAmong Try.f5.resultTypes.toList) = true := by kernel_rfl
theorem k17 : (Rows.signBytesRow.loops == (Try.f5.params.toList ++ Rows.signBytesSpec.plain.varTypes Try.prog).any (Try.prog.loopsFrom ·)) = true := by kernel_rfl
theorem k18 : (Rows.signBytesRow.wideKeys == (Try.f5.params.toList ++ Rows.signBytesSpec.plain.varTypes Try.prog ++ Try.f5.resultTypes.toList).any (Try.prog.wideKeysFrom ·)) = true := by kernel_rfl
theorem k19 : Rows.signBytesSpec.vars.all (Try.prog.varReadable ·) = true := by kernel_rfl
theorem k20 : Try.f5.resultTypes.all (fun t => Try.prog.readableRec t && decide (t < Try.prog.types.size)) = true := by kernel_rfl
theorem k21 : (Rows.signBytesRow.ifacesOut == Try.f5.resultTypes.toList.any (Try.prog.ifacesRec ·)) = true := by kernel_rfl
theorem k22 : (Rows.signBytesRow.loopsOut == Try.f5.resultTypes.toList.any (Try.prog.loopsFrom ·)) = true := by kernel_rfl
theorem k29 : (Rows.signBytesRow.kinds == (if Rows.signBytesRow.domain.isEmpty then [] else Try.f5.params.toList.map fun t => match Try.prog.underlying t with | some (.int k) => some k | _ => none)) = true := by kernel_rfl
theorem k30 : (Rows.signBytesRow.pinned == Rows.signBytesRow.pinnedBy) = true := by kernel_rfl
theorem k31 : (Rows.signBytesRow.veiled == (Try.f5.params.toList ++ Rows.signBytesSpec.plain.varTypes Try.prog ++ Try.f5.resultTypes.toList).any (Try.prog.veiledRec ·)) = true := by kernel_rfl
theorem k32 : Rows.signBytesRow.veiledFits Try.prog Try.f5.params.toList (Try.f5.params.toList ++ Rows.signBytesSpec.plain.varTypes Try.prog ++ Try.f5.resultTypes.toList) = true := by kernel_rfl
set_option maxRecDepth 100000 in
theorem closed : joinedFacts Try.prog 5 Try.f5 Rows.signBytesSpec Rows.signBytesRow = true :=
  joined_of prog_laid prog_maps prog_stops prog_knobs prog_plain prog_heard prog_mayEnter prog_liftsFinal prog_make k1 k4 k5 rfl rfl k10 k11 k12 k13 k14 k15 k16 k17 k18 k19 k20 k21 k22 rfl rfl rfl rfl k29 k30 k31 k32
theorem named_is : Try.prog.funcNamed Rows.signBytesRow.func = some 5 := by kernel_rfl
theorem inst_is : Try.f5.isInstance Try.prog Rows.signBytesRow.origin Rows.signBytesRow.targs := of_decide_eq_true (by kernel_rfl)
theorem wrap_is : Try.f5.isWrapper Try.prog Rows.signBytesRow.wrapper Rows.signBytesRow.mainSum := by unfold Func.isWrapper; first | (rw [if_pos (by decide +kernel)]; kernel_rfl) | (rw [if_neg (by decide +kernel)]; exact ⟨rfl, rfl⟩)
theorem over : Rows.signBytesRow.holds Try.pinned (OpenSpec.ofChange Rows.signBytesSpec) :=
  OpenClaim.holds_of_wide 5 Try.f5 rfl rfl rfl rfl rfl rfl rfl ⟨rfl, rfl, rfl, rfl, rfl⟩ rfl rfl rfl rfl rfl named_is Try.func5 closed inst_is wrap_is
    (fun os started H enc _ => lifted os started H enc)

theorem proved : Rows.SignBytesSaid :=
  over
#print axioms proved
end Go.Proofs.Ytblhbbgkkijkfaa.signBytes
