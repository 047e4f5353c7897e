/- Closed facts about the loaded program that every row of this seat asks for: they are stated once, each by itself. -/
import Derived.Test.YtblhbbgkkijkfaaRows
import Derived.JoinedOf
import Derived.KernelRfl
namespace Go.Proofs.Ytblhbbgkkijkfaa
open Go
/-- The head of the translation, sign by sign. -/
def initCodes : List Nat := [104, 97, 114, 110, 101, 115, 115, 32, 51, 50, 97, 102, 97, 98, 98, 53, 50, 49, 57, 52, 51, 97, 56, 48, 98, 52, 53, 52, 97, 53, 98, 97, 102, 56, 51, 53, 57, 54, 97, 100, 53, 54, 50, 55, 54, 52, 53, 97, 101, 101, 55, 101, 54, 100, 98, 50, 53, 48, 56, 56, 56, 55, 49, 57, 54, 97, 51, 100, 56, 98, 55, 53, 32, 99, 117, 116, 32, 97, 116, 32, 98, 97, 114, 113, 117, 101, 47, 98, 97, 114, 113, 117, 101, 108, 97, 119, 48, 53, 46, 83, 105, 103, 110, 66, 108, 111, 99, 107, 115, 32, 98, 97, 114, 113, 117, 101, 47, 98, 97, 114, 113, 117, 101, 108, 97, 119, 48, 53, 46, 83, 105, 103, 110, 83, 105, 103, 110, 115, 32, 98, 97, 114, 113, 117, 101, 47, 98, 97, 114, 113, 117, 101, 108, 97, 119, 48, 53, 46, 83, 105, 103, 110, 66, 121, 116, 101, 115, 32, 98, 97, 114, 113, 117, 101, 47, 98, 97, 114, 113, 117, 101, 108, 97, 119, 48, 53, 46, 83, 105, 103, 110, 78, 111, 98, 111, 100, 121, 32, 98, 97, 114, 113, 117, 101, 47, 98, 97, 114, 113, 117, 101, 108, 97, 119, 48, 53, 46, 83, 105, 103, 110, 82, 101, 97, 108, 115, 32, 98, 97, 114, 113, 117, 101, 47, 98, 97, 114, 113, 117, 101, 108, 97, 119, 48, 54, 46, 68, 101, 108, 116, 97, 65, 112, 112, 108, 105, 101, 115, 32, 98, 97, 114, 113, 117, 101, 47, 98, 97, 114, 113, 117, 101, 108, 97, 119, 48, 53, 46, 83, 105, 103, 110, 82, 101, 97, 100, 115, 32, 98, 97, 114, 113, 117, 101, 47, 98, 97, 114, 113, 117, 101, 108, 97, 119, 48, 54, 46, 68, 101, 108, 116, 97, 84, 104, 101, 114, 101, 32, 98, 97, 114, 113, 117, 101, 47, 98, 97, 114, 113, 117, 101, 108, 97, 119, 48, 53, 46, 83, 105, 103, 110, 66, 97, 99, 107, 32, 98, 97, 114, 113, 117, 101, 47, 98, 97, 114, 113, 117, 101, 108, 97, 119, 48, 53, 46, 83, 105, 103, 110, 75, 101, 112, 116, 32, 98, 97, 114, 113, 117, 101, 47, 98, 97, 114, 113, 117, 101, 108, 97, 119, 48, 53, 46, 83, 105, 103, 110, 70, 105, 110, 100, 115, 32, 98, 97, 114, 113, 117, 101, 47, 98, 97, 114, 113, 117, 101, 108, 97, 119, 48, 53, 46, 83, 105, 103, 110, 77, 97, 116, 99, 104, 101, 115, 32, 98, 97, 114, 113, 117, 101, 47, 98, 97, 114, 113, 117, 101, 108, 97, 119, 48, 53, 46, 83, 105, 103, 110, 79, 119, 110, 32, 98, 97, 114, 113, 117, 101, 47, 98, 97, 114, 113, 117, 101, 108, 97, 119, 48, 54, 46, 68, 101, 108, 116, 97, 83, 97, 109, 101, 32, 98, 97, 114, 113, 117, 101, 47, 98, 97, 114, 113, 117, 101, 108, 97, 119, 48, 54, 46, 68, 101, 108, 116, 97, 77, 97, 107, 101, 115, 32, 98, 97, 114, 113, 117, 101, 47, 98, 97, 114, 113, 117, 101, 108, 97, 119, 48, 54, 46, 68, 101, 108, 116, 97, 82, 117, 110, 115, 32, 98, 97, 114, 113, 117, 101, 47, 98, 97, 114, 113, 117, 101, 108, 97, 119, 48, 54, 46, 68, 101, 108, 116, 97, 87, 114, 111, 110, 103, 32, 98, 97, 114, 113, 117, 101, 47, 98, 97, 114, 113, 117, 101, 108, 97, 119, 48, 54, 46, 68, 101, 108, 116, 97, 66, 121, 116, 101, 115, 32, 98, 97, 114, 113, 117, 101, 47, 98, 97, 114, 113, 117, 101, 108, 97, 119, 48, 54, 46, 68, 101, 108, 116, 97, 83, 105, 103, 110, 101, 100, 32, 98, 97, 114, 113, 117, 101, 47, 98, 97, 114, 113, 117, 101, 108, 97, 119, 48, 54, 46, 68, 101, 108, 116, 97, 66, 97, 99, 107, 32, 98, 97, 114, 113, 117, 101, 47, 98, 97, 114, 113, 117, 101, 108, 97, 119, 48, 54, 46, 68, 101, 108, 116, 97, 82, 101, 97, 100, 115, 32, 98, 97, 114, 113, 117, 101, 47, 98, 97, 114, 113, 117, 101, 108, 97, 119, 48, 54, 46, 68, 101, 108, 116, 97, 82, 101, 97, 108]
/-- Its words, behind the harness's own two. -/
def wordCodes : List (List Nat) := [[99, 117, 116], [97, 116], [98, 97, 114, 113, 117, 101, 47, 98, 97, 114, 113, 117, 101, 108, 97, 119, 48, 53, 46, 83, 105, 103, 110, 66, 108, 111, 99, 107, 115], [98, 97, 114, 113, 117, 101, 47, 98, 97, 114, 113, 117, 101, 108, 97, 119, 48, 53, 46, 83, 105, 103, 110, 83, 105, 103, 110, 115], [98, 97, 114, 113, 117, 101, 47, 98, 97, 114, 113, 117, 101, 108, 97, 119, 48, 53, 46, 83, 105, 103, 110, 66, 121, 116, 101, 115], [98, 97, 114, 113, 117, 101, 47, 98, 97, 114, 113, 117, 101, 108, 97, 119, 48, 53, 46, 83, 105, 103, 110, 78, 111, 98, 111, 100, 121], [98, 97, 114, 113, 117, 101, 47, 98, 97, 114, 113, 117, 101, 108, 97, 119, 48, 53, 46, 83, 105, 103, 110, 82, 101, 97, 108, 115], [98, 97, 114, 113, 117, 101, 47, 98, 97, 114, 113, 117, 101, 108, 97, 119, 48, 54, 46, 68, 101, 108, 116, 97, 65, 112, 112, 108, 105, 101, 115], [98, 97, 114, 113, 117, 101, 47, 98, 97, 114, 113, 117, 101, 108, 97, 119, 48, 53, 46, 83, 105, 103, 110, 82, 101, 97, 100, 115], [98, 97, 114, 113, 117, 101, 47, 98, 97, 114, 113, 117, 101, 108, 97, 119, 48, 54, 46, 68, 101, 108, 116, 97, 84, 104, 101, 114, 101], [98, 97, 114, 113, 117, 101, 47, 98, 97, 114, 113, 117, 101, 108, 97, 119, 48, 53, 46, 83, 105, 103, 110, 66, 97, 99, 107], [98, 97, 114, 113, 117, 101, 47, 98, 97, 114, 113, 117, 101, 108, 97, 119, 48, 53, 46, 83, 105, 103, 110, 75, 101, 112, 116], [98, 97, 114, 113, 117, 101, 47, 98, 97, 114, 113, 117, 101, 108, 97, 119, 48, 53, 46, 83, 105, 103, 110, 70, 105, 110, 100, 115], [98, 97, 114, 113, 117, 101, 47, 98, 97, 114, 113, 117, 101, 108, 97, 119, 48, 53, 46, 83, 105, 103, 110, 77, 97, 116, 99, 104, 101, 115], [98, 97, 114, 113, 117, 101, 47, 98, 97, 114, 113, 117, 101, 108, 97, 119, 48, 53, 46, 83, 105, 103, 110, 79, 119, 110], [98, 97, 114, 113, 117, 101, 47, 98, 97, 114, 113, 117, 101, 108, 97, 119, 48, 54, 46, 68, 101, 108, 116, 97, 83, 97, 109, 101], [98, 97, 114, 113, 117, 101, 47, 98, 97, 114, 113, 117, 101, 108, 97, 119, 48, 54, 46, 68, 101, 108, 116, 97, 77, 97, 107, 101, 115], [98, 97, 114, 113, 117, 101, 47, 98, 97, 114, 113, 117, 101, 108, 97, 119, 48, 54, 46, 68, 101, 108, 116, 97, 82, 117, 110, 115], [98, 97, 114, 113, 117, 101, 47, 98, 97, 114, 113, 117, 101, 108, 97, 119, 48, 54, 46, 68, 101, 108, 116, 97, 87, 114, 111, 110, 103], [98, 97, 114, 113, 117, 101, 47, 98, 97, 114, 113, 117, 101, 108, 97, 119, 48, 54, 46, 68, 101, 108, 116, 97, 66, 121, 116, 101, 115], [98, 97, 114, 113, 117, 101, 47, 98, 97, 114, 113, 117, 101, 108, 97, 119, 48, 54, 46, 68, 101, 108, 116, 97, 83, 105, 103, 110, 101, 100], [98, 97, 114, 113, 117, 101, 47, 98, 97, 114, 113, 117, 101, 108, 97, 119, 48, 54, 46, 68, 101, 108, 116, 97, 66, 97, 99, 107], [98, 97, 114, 113, 117, 101, 47, 98, 97, 114, 113, 117, 101, 108, 97, 119, 48, 54, 46, 68, 101, 108, 116, 97, 82, 101, 97, 100, 115], [98, 97, 114, 113, 117, 101, 47, 98, 97, 114, 113, 117, 101, 108, 97, 119, 48, 54, 46, 68, 101, 108, 116, 97, 82, 101, 97, 108]]
theorem words_are : behindMainWord (wordsSigns (initCodes.map Char.ofNat)) = wordCodes.map (List.map Char.ofNat) := by kernel_rfl
theorem init_is : Try.prog.initOrder = String.ofList (initCodes.map Char.ofNat) := by kernel_rfl
def cutWord : List Char := [99, 117, 116].map Char.ofNat
theorem words_cons : ∃ rest, wordCodes.map (List.map Char.ofNat) = cutWord :: rest := ⟨_, rfl⟩
theorem init_words : ∃ rest, behindMainWord (wordsSigns Try.prog.initOrder.toList) = cutWord :: rest := by
  rw [init_is, String.toList_ofList, words_are]
  exact words_cons
theorem cut_not : (cutWord == "gc".toList || cutWord == "spec".toList) = false := by kernel_rfl
theorem cut_is : (cutWord == "cut".toList) = true := by kernel_rfl
theorem make_of {P : Program} {rest : List (List Char)} (h : behindMainWord (wordsSigns P.initOrder.toList) = cutWord :: rest) : P.make = some .cut := by
  unfold Program.make
  rw [h]
  simp only [cut_not, cut_is, Bool.false_eq_true, if_false, Bool.true_or, if_true]
theorem strip_cut (rest : List (List Char)) : stripLifts liftWords (cutWord :: rest) = ([], cutWord :: rest) := by rfl
theorem mayEnter_of {P : Program} {rest : List (List Char)} (h : behindMainWord (wordsSigns P.initOrder.toList) = cutWord :: rest) (h1 : P.laysLater = false) (h2 : P.bearsReflect = false) (h3 : P.doorFits [] = true) : P.mayEnter = true := by
  unfold Program.mayEnter
  rw [h]
  simp only [strip_cut, h1, h2, h3, List.head?_cons]
  have e : (some cutWord == some "cut".toList) = true := by kernel_rfl
  rw [e]
  simp
theorem liftsFinal_of {P : Program} {rest : List (List Char)} (h : behindMainWord (wordsSigns P.initOrder.toList) = cutWord :: rest) : P.liftsFinal = false := by
  unfold Program.liftsFinal Program.headLifts
  simp only
  rw [h]
  simp only [strip_cut, List.head?_cons]
  have e : (some cutWord == some "carried".toList) = false := by kernel_rfl
  rw [e]
  simp
theorem laysLater_no : Try.prog.laysLater = false := by kernel_rfl
theorem bearsReflect_no : Try.prog.bearsReflect = false := by kernel_rfl
theorem doorFits_yes : Try.prog.doorFits [] = true := by kernel_rfl
theorem checked_is : Try.checked.prog = Try.prog := rfl
theorem prog_make : Try.prog.make = some .cut := init_words.elim fun _ h => make_of h
theorem prog_mayEnter : Try.prog.mayEnter = true := init_words.elim fun _ h => mayEnter_of h laysLater_no bearsReflect_no doorFits_yes
theorem prog_liftsFinal : Try.prog.liftsFinal = false := init_words.elim fun _ h => liftsFinal_of h
theorem prog_laid : laidOutB Try.prog = true := by kernel_rfl
theorem prog_maps : mapsRowed Try.prog = true := by kernel_rfl
theorem prog_heard : Try.prog.stopsHeard = true := by kernel_rfl
theorem prog_plain : Try.prog.plainKeys = true := by kernel_rfl
theorem prog_stops : Try.prog.stops = [] := by kernel_rfl
theorem prog_knobs : Try.prog.stopKnobs = [] := by kernel_rfl
/-- The closed facts of a row, one by one. -/
theorem joined_of {P : Program} {f : FuncId} {fn : Func} {s : ChangeSpec} {c : OpenClaim}
    (g2 : laidOutB P = true) (g3 : mapsRowed P = true) (g7 : P.stops = []) (g9 : P.stopKnobs = []) (g23 : P.plainKeys = true) (g25 : P.stopsHeard = true) (g26 : P.mayEnter = true) (g27 : P.liftsFinal = false) (g28 : P.make = some .cut)
    (k1 : c.wf (OpenSpec.ofChange s) = true) (k4 : fn.params.all (P.readableRec ·) = true) (k5 : namedTie P c.named s.vars = true) (k6 : c.stops = []) (k8 : c.knobs = [])
    (k10 : (c.inPlace == P.inPlace f) = true) (k11 : (c.unfollowed == P.unfollowed f) = true) (k12 : (c.recurses == P.recurses f) = true) (k13 : (c.named == P.varsNamed f) = true)
    (k14 : (c.maps == (fn.params.toList ++ s.plain.varTypes P).any (P.mapsRec ·)) = true) (k15 : (c.ifaces == (fn.params.toList ++ s.plain.varTypes P).any (P.ifacesRec ·)) = true) (k16 : (c.mapsOut == P.mapsAmong fn.resultTypes.toList) = true)
    (k17 : (c.loops == (fn.params.toList ++ s.plain.varTypes P).any (P.loopsFrom ·)) = true) (k18 : (c.wideKeys == (fn.params.toList ++ s.plain.varTypes P ++ fn.resultTypes.toList).any (P.wideKeysFrom ·)) = true)
    (k19 : s.vars.all (P.varReadable ·) = true) (k20 : fn.resultTypes.all (fun t => P.readableRec t && decide (t < P.types.size)) = true) (k21 : (c.ifacesOut == fn.resultTypes.toList.any (P.ifacesRec ·)) = true) (k22 : (c.loopsOut == fn.resultTypes.toList.any (P.loopsFrom ·)) = true)
    (k23 : c.plainKeys = true) (k24 : c.shortTexts.isNone = true) (k27 : c.lifted = false) (k28 : c.make = .cut)
    (k29 : (c.kinds == (if c.domain.isEmpty then [] else fn.params.toList.map fun t => match P.underlying t with | some (.int k) => some k | _ => none)) = true) (k30 : (c.pinned == c.pinnedBy) = true)
    (k31 : (c.veiled == (fn.params.toList ++ s.plain.varTypes P ++ fn.resultTypes.toList).any (P.veiledRec ·)) = true) (k32 : c.veiledFits P fn.params.toList (fn.params.toList ++ s.plain.varTypes P ++ fn.resultTypes.toList) = true) :
    joinedFacts P f fn s c = true := by
  unfold joinedFacts
  simp only [Bool.and_eq_true]
  refine ⟨⟨⟨⟨⟨⟨⟨⟨⟨⟨⟨⟨⟨⟨⟨⟨⟨⟨⟨⟨⟨⟨⟨⟨⟨⟨⟨⟨⟨⟨⟨k1, g2⟩, g3⟩, k4⟩, k5⟩, ?_⟩, ?_⟩, ?_⟩, ?_⟩, k10⟩, k11⟩, k12⟩, k13⟩, k14⟩, k15⟩, k16⟩, k17⟩, k18⟩, k19⟩, k20⟩, k21⟩, k22⟩, ?_⟩, k24⟩, g25⟩, g26⟩, ?_⟩, ?_⟩, k29⟩, k30⟩, k31⟩, k32⟩
  · rw [k6]; rfl
  · rw [g7]; rfl
  · rw [k8]; rfl
  · rw [g9]; rfl
  · rw [k23, g23]; rfl
  · rw [k27, g27]; rfl
  · rw [k28, g28]; rfl
end Go.Proofs.Ytblhbbgkkijkfaa
