/-
  No cell of these rows narrows 'for every input' (looked for: loops, veiled, ifaces, maps, wideKeys, modest, calm, conditions, laid).
  DERIVED. THE GIVEN ROWS OF THIS SEAT. 22 by the template 'for every input the law returns true; each argument reads behind the call as it read before'; 0 by the template 'total and deterministic' (their statements: YtblhbbgkkijkfaaTotals.lean).
  GIVEN WITH THE SEED: the statements are not yours to turn. If you find one false, say at which input.
  Laid BY PROGRAM, IN A SANDBOX (cutbox-rows.mjs): the forced cells as the released guide's own fill.sh prints them over the translation e57c6dbb6bf180cb… (all of the seat's roots in one cut). By AI agents, Wed Nov 11 2026. No macro, syntax, notation, axiom, sorry.
-/
import Derived.Test.YtblhbbgkkijkfaaChecked
import GoSem.Claim
import GoSem.ClaimJoined
import GoSem.ClaimMapViews
import Derived.JoinedTies
import Derived.KernelRfl
namespace Go.Proofs.Ytblhbbgkkijkfaa
/- THE CELL 'sum', in the pinned program and in every row, IS THE sha256 OF THE DUMP (.gsa) THAT YtblhbbgkkijkfaaProg.lean LOADS. Nothing in Lean hashes anything: it is a label: what it is worth is what the hold of that sum in a sandbox is worth. -/
noncomputable def Try.pinned : Pinned := { name := "ytblhbbgkkijkfaa", sum := "e57c6dbb6bf180cba20a523472e510516258bacb1a02eb55c5a6441b51c87c4b", checked := Try.checked }
namespace Rows
def none {H : Type} : Left H := { results := [], args := [] }

/-- 'barquelaw05.SignBlocks': WHATEVER THE INPUT: true; the input reads as it did. -/
def signBlocksSpec : ChangeSpec := { name := "signBlocks", fn := fun _ => fun
  | [d] => { results := [.lit (.bool true)], args := [d] }
  | _ => none }
def signBlocksRow : OpenClaim := { program := "ytblhbbgkkijkfaa", sum := "e57c6dbb6bf180cba20a523472e510516258bacb1a02eb55c5a6441b51c87c4b", func := "barque/barquelaw05.SignBlocks", spec := "signBlocks", apart := false }
def SignBlocksSaid : Prop := signBlocksRow.holds Try.pinned (OpenSpec.ofChange signBlocksSpec)

/-- ITS FALSE NEIGHBOUR: 'it returns false'. Refute it at one input. -/
def signBlocksWrong : ChangeSpec := { name := "signBlocks", fn := fun _ => fun
  | [d] => { results := [.lit (.bool false)], args := [d] }
  | _ => none }
def SignBlocksWrongFalsely : Prop := signBlocksRow.holds Try.pinned (OpenSpec.ofChange signBlocksWrong)

/-- 'barquelaw05.SignSigns': WHATEVER THE INPUT: true; the input reads as it did. -/
def signSignsSpec : ChangeSpec := { name := "signSigns", fn := fun _ => fun
  | [d1, d2] => { results := [.lit (.bool true)], args := [d1, d2] }
  | _ => none }
def signSignsRow : OpenClaim := { program := "ytblhbbgkkijkfaa", sum := "e57c6dbb6bf180cba20a523472e510516258bacb1a02eb55c5a6441b51c87c4b", func := "barque/barquelaw05.SignSigns", spec := "signSigns", apart := false }
def SignSignsSaid : Prop := signSignsRow.holds Try.pinned (OpenSpec.ofChange signSignsSpec)

/-- ITS FALSE NEIGHBOUR: 'it returns false'. Refute it at one input. -/
def signSignsWrong : ChangeSpec := { name := "signSigns", fn := fun _ => fun
  | [d1, d2] => { results := [.lit (.bool false)], args := [d1, d2] }
  | _ => none }
def SignSignsWrongFalsely : Prop := signSignsRow.holds Try.pinned (OpenSpec.ofChange signSignsWrong)

/-- 'barquelaw05.SignBytes': WHATEVER THE INPUT: true; the input reads as it did. -/
def signBytesSpec : ChangeSpec := { name := "signBytes", fn := fun _ => fun
  | [d] => { results := [.lit (.bool true)], args := [d] }
  | _ => none }
def signBytesRow : OpenClaim := { program := "ytblhbbgkkijkfaa", sum := "e57c6dbb6bf180cba20a523472e510516258bacb1a02eb55c5a6441b51c87c4b", func := "barque/barquelaw05.SignBytes", spec := "signBytes", inPlace := ["internal/abi.NoEscape"], apart := false }
def SignBytesSaid : Prop := signBytesRow.holds Try.pinned (OpenSpec.ofChange signBytesSpec)

/-- ITS FALSE NEIGHBOUR: 'it returns false'. Refute it at one input. -/
def signBytesWrong : ChangeSpec := { name := "signBytes", fn := fun _ => fun
  | [d] => { results := [.lit (.bool false)], args := [d] }
  | _ => none }
def SignBytesWrongFalsely : Prop := signBytesRow.holds Try.pinned (OpenSpec.ofChange signBytesWrong)

/-- 'barquelaw05.SignNobody': WHATEVER THE INPUT: true; the input reads as it did. -/
def signNobodySpec : ChangeSpec := { name := "signNobody", fn := fun _ => fun
  | [d1, d2] => { results := [.lit (.bool true)], args := [d1, d2] }
  | _ => none }
def signNobodyRow : OpenClaim := { program := "ytblhbbgkkijkfaa", sum := "e57c6dbb6bf180cba20a523472e510516258bacb1a02eb55c5a6441b51c87c4b", func := "barque/barquelaw05.SignNobody", spec := "signNobody", apart := false }
def SignNobodySaid : Prop := signNobodyRow.holds Try.pinned (OpenSpec.ofChange signNobodySpec)

/-- ITS FALSE NEIGHBOUR: 'it returns false'. Refute it at one input. -/
def signNobodyWrong : ChangeSpec := { name := "signNobody", fn := fun _ => fun
  | [d1, d2] => { results := [.lit (.bool false)], args := [d1, d2] }
  | _ => none }
def SignNobodyWrongFalsely : Prop := signNobodyRow.holds Try.pinned (OpenSpec.ofChange signNobodyWrong)

/-- 'barquelaw05.SignReals': WHATEVER THE INPUT: true; the input reads as it did. -/
def signRealsSpec : ChangeSpec := { name := "signReals", fn := fun _ => fun
  | [d1, d2] => { results := [.lit (.bool true)], args := [d1, d2] }
  | _ => none }
def signRealsRow : OpenClaim := { program := "ytblhbbgkkijkfaa", sum := "e57c6dbb6bf180cba20a523472e510516258bacb1a02eb55c5a6441b51c87c4b", func := "barque/barquelaw05.SignReals", spec := "signReals", inPlace := ["math/bits.Add64"], unfollowed := true, recurses := true, apart := false }
def SignRealsSaid : Prop := signRealsRow.holds Try.pinned (OpenSpec.ofChange signRealsSpec)

/-- ITS FALSE NEIGHBOUR: 'it returns false'. Refute it at one input. -/
def signRealsWrong : ChangeSpec := { name := "signReals", fn := fun _ => fun
  | [d1, d2] => { results := [.lit (.bool false)], args := [d1, d2] }
  | _ => none }
def SignRealsWrongFalsely : Prop := signRealsRow.holds Try.pinned (OpenSpec.ofChange signRealsWrong)

/-- 'barquelaw06.DeltaApplies': WHATEVER THE INPUT: true; the input reads as it did. -/
def deltaAppliesSpec : ChangeSpec := { name := "deltaApplies", fn := fun _ => fun
  | [d1, d2] => { results := [.lit (.bool true)], args := [d1, d2] }
  | _ => none }
def deltaAppliesRow : OpenClaim := { program := "ytblhbbgkkijkfaa", sum := "e57c6dbb6bf180cba20a523472e510516258bacb1a02eb55c5a6441b51c87c4b", func := "barque/barquelaw06.DeltaApplies", spec := "deltaApplies", inPlace := ["math/bits.Add64", "internal/abi.NoEscape"], unfollowed := true, recurses := true, apart := false }
def DeltaAppliesSaid : Prop := deltaAppliesRow.holds Try.pinned (OpenSpec.ofChange deltaAppliesSpec)

/-- ITS FALSE NEIGHBOUR: 'it returns false'. Refute it at one input. -/
def deltaAppliesWrong : ChangeSpec := { name := "deltaApplies", fn := fun _ => fun
  | [d1, d2] => { results := [.lit (.bool false)], args := [d1, d2] }
  | _ => none }
def DeltaAppliesWrongFalsely : Prop := deltaAppliesRow.holds Try.pinned (OpenSpec.ofChange deltaAppliesWrong)

/-- 'barquelaw05.SignReads': WHATEVER THE INPUT: true; the input reads as it did. -/
def signReadsSpec : ChangeSpec := { name := "signReads", fn := fun _ => fun
  | [d] => { results := [.lit (.bool true)], args := [d] }
  | _ => none }
def signReadsRow : OpenClaim := { program := "ytblhbbgkkijkfaa", sum := "e57c6dbb6bf180cba20a523472e510516258bacb1a02eb55c5a6441b51c87c4b", func := "barque/barquelaw05.SignReads", spec := "signReads", apart := false }
def SignReadsSaid : Prop := signReadsRow.holds Try.pinned (OpenSpec.ofChange signReadsSpec)

/-- ITS FALSE NEIGHBOUR: 'it returns false'. Refute it at one input. -/
def signReadsWrong : ChangeSpec := { name := "signReads", fn := fun _ => fun
  | [d] => { results := [.lit (.bool false)], args := [d] }
  | _ => none }
def SignReadsWrongFalsely : Prop := signReadsRow.holds Try.pinned (OpenSpec.ofChange signReadsWrong)

/-- 'barquelaw06.DeltaThere': WHATEVER THE INPUT: true; the input reads as it did. -/
def deltaThereSpec : ChangeSpec := { name := "deltaThere", fn := fun _ => fun
  | [d1, d2] => { results := [.lit (.bool true)], args := [d1, d2] }
  | _ => none }
def deltaThereRow : OpenClaim := { program := "ytblhbbgkkijkfaa", sum := "e57c6dbb6bf180cba20a523472e510516258bacb1a02eb55c5a6441b51c87c4b", func := "barque/barquelaw06.DeltaThere", spec := "deltaThere", inPlace := ["internal/abi.NoEscape"], unfollowed := true, recurses := true, apart := false }
def DeltaThereSaid : Prop := deltaThereRow.holds Try.pinned (OpenSpec.ofChange deltaThereSpec)

/-- ITS FALSE NEIGHBOUR: 'it returns false'. Refute it at one input. -/
def deltaThereWrong : ChangeSpec := { name := "deltaThere", fn := fun _ => fun
  | [d1, d2] => { results := [.lit (.bool false)], args := [d1, d2] }
  | _ => none }
def DeltaThereWrongFalsely : Prop := deltaThereRow.holds Try.pinned (OpenSpec.ofChange deltaThereWrong)

/-- 'barquelaw05.SignBack': WHATEVER THE INPUT: true; the input reads as it did. -/
def signBackSpec : ChangeSpec := { name := "signBack", fn := fun _ => fun
  | [d1, d2] => { results := [.lit (.bool true)], args := [d1, d2] }
  | _ => none }
def signBackRow : OpenClaim := { program := "ytblhbbgkkijkfaa", sum := "e57c6dbb6bf180cba20a523472e510516258bacb1a02eb55c5a6441b51c87c4b", func := "barque/barquelaw05.SignBack", spec := "signBack", inPlace := ["internal/abi.NoEscape"], apart := false }
def SignBackSaid : Prop := signBackRow.holds Try.pinned (OpenSpec.ofChange signBackSpec)

/-- ITS FALSE NEIGHBOUR: 'it returns false'. Refute it at one input. -/
def signBackWrong : ChangeSpec := { name := "signBack", fn := fun _ => fun
  | [d1, d2] => { results := [.lit (.bool false)], args := [d1, d2] }
  | _ => none }
def SignBackWrongFalsely : Prop := signBackRow.holds Try.pinned (OpenSpec.ofChange signBackWrong)

/-- 'barquelaw05.SignKept': WHATEVER THE INPUT: true; the input reads as it did. -/
def signKeptSpec : ChangeSpec := { name := "signKept", fn := fun _ => fun
  | [d1, d2] => { results := [.lit (.bool true)], args := [d1, d2] }
  | _ => none }
def signKeptRow : OpenClaim := { program := "ytblhbbgkkijkfaa", sum := "e57c6dbb6bf180cba20a523472e510516258bacb1a02eb55c5a6441b51c87c4b", func := "barque/barquelaw05.SignKept", spec := "signKept", unfollowed := true, recurses := true, apart := false }
def SignKeptSaid : Prop := signKeptRow.holds Try.pinned (OpenSpec.ofChange signKeptSpec)

/-- ITS FALSE NEIGHBOUR: 'it returns false'. Refute it at one input. -/
def signKeptWrong : ChangeSpec := { name := "signKept", fn := fun _ => fun
  | [d1, d2] => { results := [.lit (.bool false)], args := [d1, d2] }
  | _ => none }
def SignKeptWrongFalsely : Prop := signKeptRow.holds Try.pinned (OpenSpec.ofChange signKeptWrong)

/-- 'barquelaw05.SignFinds': WHATEVER THE INPUT: true; the input reads as it did. -/
def signFindsSpec : ChangeSpec := { name := "signFinds", fn := fun _ => fun
  | [d1, d2] => { results := [.lit (.bool true)], args := [d1, d2] }
  | _ => none }
def signFindsRow : OpenClaim := { program := "ytblhbbgkkijkfaa", sum := "e57c6dbb6bf180cba20a523472e510516258bacb1a02eb55c5a6441b51c87c4b", func := "barque/barquelaw05.SignFinds", spec := "signFinds", unfollowed := true, recurses := true, apart := false }
def SignFindsSaid : Prop := signFindsRow.holds Try.pinned (OpenSpec.ofChange signFindsSpec)

/-- ITS FALSE NEIGHBOUR: 'it returns false'. Refute it at one input. -/
def signFindsWrong : ChangeSpec := { name := "signFinds", fn := fun _ => fun
  | [d1, d2] => { results := [.lit (.bool false)], args := [d1, d2] }
  | _ => none }
def SignFindsWrongFalsely : Prop := signFindsRow.holds Try.pinned (OpenSpec.ofChange signFindsWrong)

/-- 'barquelaw05.SignMatches': WHATEVER THE INPUT: true; the input reads as it did. -/
def signMatchesSpec : ChangeSpec := { name := "signMatches", fn := fun _ => fun
  | [d1, d2, d3, d4, d5] => { results := [.lit (.bool true)], args := [d1, d2, d3, d4, d5] }
  | _ => none }
def signMatchesRow : OpenClaim := { program := "ytblhbbgkkijkfaa", sum := "e57c6dbb6bf180cba20a523472e510516258bacb1a02eb55c5a6441b51c87c4b", func := "barque/barquelaw05.SignMatches", spec := "signMatches", unfollowed := true, recurses := true, apart := false }
def SignMatchesSaid : Prop := signMatchesRow.holds Try.pinned (OpenSpec.ofChange signMatchesSpec)

/-- ITS FALSE NEIGHBOUR: 'it returns false'. Refute it at one input. -/
def signMatchesWrong : ChangeSpec := { name := "signMatches", fn := fun _ => fun
  | [d1, d2, d3, d4, d5] => { results := [.lit (.bool false)], args := [d1, d2, d3, d4, d5] }
  | _ => none }
def SignMatchesWrongFalsely : Prop := signMatchesRow.holds Try.pinned (OpenSpec.ofChange signMatchesWrong)

/-- 'barquelaw05.SignOwn': WHATEVER THE INPUT: true; the input reads as it did. -/
def signOwnSpec : ChangeSpec := { name := "signOwn", fn := fun _ => fun
  | [d1, d2] => { results := [.lit (.bool true)], args := [d1, d2] }
  | _ => none }
def signOwnRow : OpenClaim := { program := "ytblhbbgkkijkfaa", sum := "e57c6dbb6bf180cba20a523472e510516258bacb1a02eb55c5a6441b51c87c4b", func := "barque/barquelaw05.SignOwn", spec := "signOwn", unfollowed := true, recurses := true, apart := false }
def SignOwnSaid : Prop := signOwnRow.holds Try.pinned (OpenSpec.ofChange signOwnSpec)

/-- ITS FALSE NEIGHBOUR: 'it returns false'. Refute it at one input. -/
def signOwnWrong : ChangeSpec := { name := "signOwn", fn := fun _ => fun
  | [d1, d2] => { results := [.lit (.bool false)], args := [d1, d2] }
  | _ => none }
def SignOwnWrongFalsely : Prop := signOwnRow.holds Try.pinned (OpenSpec.ofChange signOwnWrong)

/-- 'barquelaw06.DeltaSame': WHATEVER THE INPUT: true; the input reads as it did. -/
def deltaSameSpec : ChangeSpec := { name := "deltaSame", fn := fun _ => fun
  | [d1, d2] => { results := [.lit (.bool true)], args := [d1, d2] }
  | _ => none }
def deltaSameRow : OpenClaim := { program := "ytblhbbgkkijkfaa", sum := "e57c6dbb6bf180cba20a523472e510516258bacb1a02eb55c5a6441b51c87c4b", func := "barque/barquelaw06.DeltaSame", spec := "deltaSame", unfollowed := true, recurses := true, apart := false }
def DeltaSameSaid : Prop := deltaSameRow.holds Try.pinned (OpenSpec.ofChange deltaSameSpec)

/-- ITS FALSE NEIGHBOUR: 'it returns false'. Refute it at one input. -/
def deltaSameWrong : ChangeSpec := { name := "deltaSame", fn := fun _ => fun
  | [d1, d2] => { results := [.lit (.bool false)], args := [d1, d2] }
  | _ => none }
def DeltaSameWrongFalsely : Prop := deltaSameRow.holds Try.pinned (OpenSpec.ofChange deltaSameWrong)

/-- 'barquelaw06.DeltaMakes': WHATEVER THE INPUT: true; the input reads as it did. -/
def deltaMakesSpec : ChangeSpec := { name := "deltaMakes", fn := fun _ => fun
  | [d1, d2, d3] => { results := [.lit (.bool true)], args := [d1, d2, d3] }
  | _ => none }
def deltaMakesRow : OpenClaim := { program := "ytblhbbgkkijkfaa", sum := "e57c6dbb6bf180cba20a523472e510516258bacb1a02eb55c5a6441b51c87c4b", func := "barque/barquelaw06.DeltaMakes", spec := "deltaMakes", unfollowed := true, recurses := true, apart := false }
def DeltaMakesSaid : Prop := deltaMakesRow.holds Try.pinned (OpenSpec.ofChange deltaMakesSpec)

/-- ITS FALSE NEIGHBOUR: 'it returns false'. Refute it at one input. -/
def deltaMakesWrong : ChangeSpec := { name := "deltaMakes", fn := fun _ => fun
  | [d1, d2, d3] => { results := [.lit (.bool false)], args := [d1, d2, d3] }
  | _ => none }
def DeltaMakesWrongFalsely : Prop := deltaMakesRow.holds Try.pinned (OpenSpec.ofChange deltaMakesWrong)

/-- 'barquelaw06.DeltaRuns': WHATEVER THE INPUT: true; the input reads as it did. -/
def deltaRunsSpec : ChangeSpec := { name := "deltaRuns", fn := fun _ => fun
  | [d1, d2] => { results := [.lit (.bool true)], args := [d1, d2] }
  | _ => none }
def deltaRunsRow : OpenClaim := { program := "ytblhbbgkkijkfaa", sum := "e57c6dbb6bf180cba20a523472e510516258bacb1a02eb55c5a6441b51c87c4b", func := "barque/barquelaw06.DeltaRuns", spec := "deltaRuns", inPlace := ["internal/abi.NoEscape"], unfollowed := true, recurses := true, apart := false }
def DeltaRunsSaid : Prop := deltaRunsRow.holds Try.pinned (OpenSpec.ofChange deltaRunsSpec)

/-- ITS FALSE NEIGHBOUR: 'it returns false'. Refute it at one input. -/
def deltaRunsWrong : ChangeSpec := { name := "deltaRuns", fn := fun _ => fun
  | [d1, d2] => { results := [.lit (.bool false)], args := [d1, d2] }
  | _ => none }
def DeltaRunsWrongFalsely : Prop := deltaRunsRow.holds Try.pinned (OpenSpec.ofChange deltaRunsWrong)

/-- 'barquelaw06.DeltaWrong': WHATEVER THE INPUT: true; the input reads as it did. -/
def deltaWrongSpec : ChangeSpec := { name := "deltaWrong", fn := fun _ => fun
  | [d1, d2, d3, d4] => { results := [.lit (.bool true)], args := [d1, d2, d3, d4] }
  | _ => none }
def deltaWrongRow : OpenClaim := { program := "ytblhbbgkkijkfaa", sum := "e57c6dbb6bf180cba20a523472e510516258bacb1a02eb55c5a6441b51c87c4b", func := "barque/barquelaw06.DeltaWrong", spec := "deltaWrong", inPlace := ["internal/abi.NoEscape"], unfollowed := true, recurses := true, apart := false }
def DeltaWrongSaid : Prop := deltaWrongRow.holds Try.pinned (OpenSpec.ofChange deltaWrongSpec)

/-- ITS FALSE NEIGHBOUR: 'it returns false'. Refute it at one input. -/
def deltaWrongWrong : ChangeSpec := { name := "deltaWrong", fn := fun _ => fun
  | [d1, d2, d3, d4] => { results := [.lit (.bool false)], args := [d1, d2, d3, d4] }
  | _ => none }
def DeltaWrongWrongFalsely : Prop := deltaWrongRow.holds Try.pinned (OpenSpec.ofChange deltaWrongWrong)

/-- 'barquelaw06.DeltaBytes': WHATEVER THE INPUT: true; the input reads as it did. -/
def deltaBytesSpec : ChangeSpec := { name := "deltaBytes", fn := fun _ => fun
  | [d] => { results := [.lit (.bool true)], args := [d] }
  | _ => none }
def deltaBytesRow : OpenClaim := { program := "ytblhbbgkkijkfaa", sum := "e57c6dbb6bf180cba20a523472e510516258bacb1a02eb55c5a6441b51c87c4b", func := "barque/barquelaw06.DeltaBytes", spec := "deltaBytes", inPlace := ["internal/abi.NoEscape"], unfollowed := true, recurses := true, apart := false }
def DeltaBytesSaid : Prop := deltaBytesRow.holds Try.pinned (OpenSpec.ofChange deltaBytesSpec)

/-- ITS FALSE NEIGHBOUR: 'it returns false'. Refute it at one input. -/
def deltaBytesWrong : ChangeSpec := { name := "deltaBytes", fn := fun _ => fun
  | [d] => { results := [.lit (.bool false)], args := [d] }
  | _ => none }
def DeltaBytesWrongFalsely : Prop := deltaBytesRow.holds Try.pinned (OpenSpec.ofChange deltaBytesWrong)

/-- 'barquelaw06.DeltaSigned': WHATEVER THE INPUT: true; the input reads as it did. -/
def deltaSignedSpec : ChangeSpec := { name := "deltaSigned", fn := fun _ => fun
  | [d1, d2] => { results := [.lit (.bool true)], args := [d1, d2] }
  | _ => none }
def deltaSignedRow : OpenClaim := { program := "ytblhbbgkkijkfaa", sum := "e57c6dbb6bf180cba20a523472e510516258bacb1a02eb55c5a6441b51c87c4b", func := "barque/barquelaw06.DeltaSigned", spec := "deltaSigned", inPlace := ["math/bits.Add64"], unfollowed := true, recurses := true, apart := false }
def DeltaSignedSaid : Prop := deltaSignedRow.holds Try.pinned (OpenSpec.ofChange deltaSignedSpec)

/-- ITS FALSE NEIGHBOUR: 'it returns false'. Refute it at one input. -/
def deltaSignedWrong : ChangeSpec := { name := "deltaSigned", fn := fun _ => fun
  | [d1, d2] => { results := [.lit (.bool false)], args := [d1, d2] }
  | _ => none }
def DeltaSignedWrongFalsely : Prop := deltaSignedRow.holds Try.pinned (OpenSpec.ofChange deltaSignedWrong)

/-- 'barquelaw06.DeltaBack': WHATEVER THE INPUT: true; the input reads as it did. -/
def deltaBackSpec : ChangeSpec := { name := "deltaBack", fn := fun _ => fun
  | [d1, d2, d3] => { results := [.lit (.bool true)], args := [d1, d2, d3] }
  | _ => none }
def deltaBackRow : OpenClaim := { program := "ytblhbbgkkijkfaa", sum := "e57c6dbb6bf180cba20a523472e510516258bacb1a02eb55c5a6441b51c87c4b", func := "barque/barquelaw06.DeltaBack", spec := "deltaBack", inPlace := ["internal/abi.NoEscape"], unfollowed := true, recurses := true, apart := false }
def DeltaBackSaid : Prop := deltaBackRow.holds Try.pinned (OpenSpec.ofChange deltaBackSpec)

/-- ITS FALSE NEIGHBOUR: 'it returns false'. Refute it at one input. -/
def deltaBackWrong : ChangeSpec := { name := "deltaBack", fn := fun _ => fun
  | [d1, d2, d3] => { results := [.lit (.bool false)], args := [d1, d2, d3] }
  | _ => none }
def DeltaBackWrongFalsely : Prop := deltaBackRow.holds Try.pinned (OpenSpec.ofChange deltaBackWrong)

/-- 'barquelaw06.DeltaReads': WHATEVER THE INPUT: true; the input reads as it did. -/
def deltaReadsSpec : ChangeSpec := { name := "deltaReads", fn := fun _ => fun
  | [d] => { results := [.lit (.bool true)], args := [d] }
  | _ => none }
def deltaReadsRow : OpenClaim := { program := "ytblhbbgkkijkfaa", sum := "e57c6dbb6bf180cba20a523472e510516258bacb1a02eb55c5a6441b51c87c4b", func := "barque/barquelaw06.DeltaReads", spec := "deltaReads", unfollowed := true, recurses := true, apart := false }
def DeltaReadsSaid : Prop := deltaReadsRow.holds Try.pinned (OpenSpec.ofChange deltaReadsSpec)

/-- ITS FALSE NEIGHBOUR: 'it returns false'. Refute it at one input. -/
def deltaReadsWrong : ChangeSpec := { name := "deltaReads", fn := fun _ => fun
  | [d] => { results := [.lit (.bool false)], args := [d] }
  | _ => none }
def DeltaReadsWrongFalsely : Prop := deltaReadsRow.holds Try.pinned (OpenSpec.ofChange deltaReadsWrong)

/-- 'barquelaw06.DeltaReal': WHATEVER THE INPUT: true; the input reads as it did. -/
def deltaRealSpec : ChangeSpec := { name := "deltaReal", fn := fun _ => fun
  | [d1, d2, d3] => { results := [.lit (.bool true)], args := [d1, d2, d3] }
  | _ => none }
def deltaRealRow : OpenClaim := { program := "ytblhbbgkkijkfaa", sum := "e57c6dbb6bf180cba20a523472e510516258bacb1a02eb55c5a6441b51c87c4b", func := "barque/barquelaw06.DeltaReal", spec := "deltaReal", inPlace := ["math/bits.Add64", "internal/abi.NoEscape"], unfollowed := true, recurses := true, apart := false }
def DeltaRealSaid : Prop := deltaRealRow.holds Try.pinned (OpenSpec.ofChange deltaRealSpec)

/-- ITS FALSE NEIGHBOUR: 'it returns false'. Refute it at one input. -/
def deltaRealWrong : ChangeSpec := { name := "deltaReal", fn := fun _ => fun
  | [d1, d2, d3] => { results := [.lit (.bool false)], args := [d1, d2, d3] }
  | _ => none }
def DeltaRealWrongFalsely : Prop := deltaRealRow.holds Try.pinned (OpenSpec.ofChange deltaRealWrong)

/- THE SECOND FORM. 'bulk': how many values and letters a reading holds, each counted each time it is reached (what is shared counts as often as it is met; a slice's spare places count too). A statement '..UptoSaid' is the law's where the arguments, and the package variables that the reading takes, are together of bulk at most 1048576: NARROWER than '..Said'. Prove '..Said' where nothing that the law and all that it calls make is longer than what came in: it says more and counts as full. Else prove '..UptoSaid'. A law counts once. -/
mutual
def uptoBulk {H : Type} : DataW H → Nat
  | .lit (.string bytes) => bytes.length + 1
  | .lit _ => 1
  | .nil => 1
  | .ptr d => uptoBulk d + 1
  | .slice elems spare => uptoBulkAll elems + uptoBulkAll spare + 1
  | .agg parts => uptoBulkAll parts + 1
  | .iface _ d => uptoBulk d + 1
  | .map entries => uptoBulkEntries entries + 1
  | .held _ => 1
def uptoBulkAll {H : Type} : List (DataW H) → Nat
  | [] => 0
  | d :: r => uptoBulk d + uptoBulkAll r
def uptoBulkEntries {H : Type} : List (Lit × DataW H) → Nat
  | [] => 0
  | x :: r => uptoBulkEntry x + uptoBulkEntries r
def uptoBulkEntry {H : Type} : Lit × DataW H → Nat
  | (.string bytes, d) => bytes.length + uptoBulk d + 1
  | (_, d) => uptoBulk d + 1
 end
def uptoSmall : (H : Type) → List (DataW H) → Bool := fun _ ds => decide (uptoBulkAll ds ≤ 1048576)
def OpenSpec.upto (s : _root_.Go.ChangeSpec) : _root_.Go.OpenSpec := { _root_.Go.OpenSpec.ofChange s with cond := some uptoSmall }

/-- 'barquelaw05.SignBlocks', WHERE WHAT IT READS IS OF BULK AT MOST 1048576: true; the input reads as it did. -/
def signBlocksUptoRow : OpenClaim := { program := "ytblhbbgkkijkfaa", sum := "e57c6dbb6bf180cba20a523472e510516258bacb1a02eb55c5a6441b51c87c4b", func := "barque/barquelaw05.SignBlocks", spec := "signBlocks", apart := false, narrowed := true }
def SignBlocksUptoSaid : Prop := signBlocksUptoRow.holds Try.pinned (OpenSpec.upto signBlocksSpec)

/-- 'barquelaw05.SignSigns', WHERE WHAT IT READS IS OF BULK AT MOST 1048576: true; the input reads as it did. -/
def signSignsUptoRow : OpenClaim := { program := "ytblhbbgkkijkfaa", sum := "e57c6dbb6bf180cba20a523472e510516258bacb1a02eb55c5a6441b51c87c4b", func := "barque/barquelaw05.SignSigns", spec := "signSigns", apart := false, narrowed := true }
def SignSignsUptoSaid : Prop := signSignsUptoRow.holds Try.pinned (OpenSpec.upto signSignsSpec)

/-- 'barquelaw05.SignBytes', WHERE WHAT IT READS IS OF BULK AT MOST 1048576: true; the input reads as it did. -/
def signBytesUptoRow : OpenClaim := { program := "ytblhbbgkkijkfaa", sum := "e57c6dbb6bf180cba20a523472e510516258bacb1a02eb55c5a6441b51c87c4b", func := "barque/barquelaw05.SignBytes", spec := "signBytes", inPlace := ["internal/abi.NoEscape"], apart := false, narrowed := true }
def SignBytesUptoSaid : Prop := signBytesUptoRow.holds Try.pinned (OpenSpec.upto signBytesSpec)

/-- 'barquelaw05.SignNobody', WHERE WHAT IT READS IS OF BULK AT MOST 1048576: true; the input reads as it did. -/
def signNobodyUptoRow : OpenClaim := { program := "ytblhbbgkkijkfaa", sum := "e57c6dbb6bf180cba20a523472e510516258bacb1a02eb55c5a6441b51c87c4b", func := "barque/barquelaw05.SignNobody", spec := "signNobody", apart := false, narrowed := true }
def SignNobodyUptoSaid : Prop := signNobodyUptoRow.holds Try.pinned (OpenSpec.upto signNobodySpec)

/-- 'barquelaw05.SignReals', WHERE WHAT IT READS IS OF BULK AT MOST 1048576: true; the input reads as it did. -/
def signRealsUptoRow : OpenClaim := { program := "ytblhbbgkkijkfaa", sum := "e57c6dbb6bf180cba20a523472e510516258bacb1a02eb55c5a6441b51c87c4b", func := "barque/barquelaw05.SignReals", spec := "signReals", inPlace := ["math/bits.Add64"], unfollowed := true, recurses := true, apart := false, narrowed := true }
def SignRealsUptoSaid : Prop := signRealsUptoRow.holds Try.pinned (OpenSpec.upto signRealsSpec)

/-- 'barquelaw06.DeltaApplies', WHERE WHAT IT READS IS OF BULK AT MOST 1048576: true; the input reads as it did. -/
def deltaAppliesUptoRow : OpenClaim := { program := "ytblhbbgkkijkfaa", sum := "e57c6dbb6bf180cba20a523472e510516258bacb1a02eb55c5a6441b51c87c4b", func := "barque/barquelaw06.DeltaApplies", spec := "deltaApplies", inPlace := ["math/bits.Add64", "internal/abi.NoEscape"], unfollowed := true, recurses := true, apart := false, narrowed := true }
def DeltaAppliesUptoSaid : Prop := deltaAppliesUptoRow.holds Try.pinned (OpenSpec.upto deltaAppliesSpec)

/-- 'barquelaw05.SignReads', WHERE WHAT IT READS IS OF BULK AT MOST 1048576: true; the input reads as it did. -/
def signReadsUptoRow : OpenClaim := { program := "ytblhbbgkkijkfaa", sum := "e57c6dbb6bf180cba20a523472e510516258bacb1a02eb55c5a6441b51c87c4b", func := "barque/barquelaw05.SignReads", spec := "signReads", apart := false, narrowed := true }
def SignReadsUptoSaid : Prop := signReadsUptoRow.holds Try.pinned (OpenSpec.upto signReadsSpec)

/-- 'barquelaw06.DeltaThere', WHERE WHAT IT READS IS OF BULK AT MOST 1048576: true; the input reads as it did. -/
def deltaThereUptoRow : OpenClaim := { program := "ytblhbbgkkijkfaa", sum := "e57c6dbb6bf180cba20a523472e510516258bacb1a02eb55c5a6441b51c87c4b", func := "barque/barquelaw06.DeltaThere", spec := "deltaThere", inPlace := ["internal/abi.NoEscape"], unfollowed := true, recurses := true, apart := false, narrowed := true }
def DeltaThereUptoSaid : Prop := deltaThereUptoRow.holds Try.pinned (OpenSpec.upto deltaThereSpec)

/-- 'barquelaw05.SignBack', WHERE WHAT IT READS IS OF BULK AT MOST 1048576: true; the input reads as it did. -/
def signBackUptoRow : OpenClaim := { program := "ytblhbbgkkijkfaa", sum := "e57c6dbb6bf180cba20a523472e510516258bacb1a02eb55c5a6441b51c87c4b", func := "barque/barquelaw05.SignBack", spec := "signBack", inPlace := ["internal/abi.NoEscape"], apart := false, narrowed := true }
def SignBackUptoSaid : Prop := signBackUptoRow.holds Try.pinned (OpenSpec.upto signBackSpec)

/-- 'barquelaw05.SignKept', WHERE WHAT IT READS IS OF BULK AT MOST 1048576: true; the input reads as it did. -/
def signKeptUptoRow : OpenClaim := { program := "ytblhbbgkkijkfaa", sum := "e57c6dbb6bf180cba20a523472e510516258bacb1a02eb55c5a6441b51c87c4b", func := "barque/barquelaw05.SignKept", spec := "signKept", unfollowed := true, recurses := true, apart := false, narrowed := true }
def SignKeptUptoSaid : Prop := signKeptUptoRow.holds Try.pinned (OpenSpec.upto signKeptSpec)

/-- 'barquelaw05.SignFinds', WHERE WHAT IT READS IS OF BULK AT MOST 1048576: true; the input reads as it did. -/
def signFindsUptoRow : OpenClaim := { program := "ytblhbbgkkijkfaa", sum := "e57c6dbb6bf180cba20a523472e510516258bacb1a02eb55c5a6441b51c87c4b", func := "barque/barquelaw05.SignFinds", spec := "signFinds", unfollowed := true, recurses := true, apart := false, narrowed := true }
def SignFindsUptoSaid : Prop := signFindsUptoRow.holds Try.pinned (OpenSpec.upto signFindsSpec)

/-- 'barquelaw05.SignMatches', WHERE WHAT IT READS IS OF BULK AT MOST 1048576: true; the input reads as it did. -/
def signMatchesUptoRow : OpenClaim := { program := "ytblhbbgkkijkfaa", sum := "e57c6dbb6bf180cba20a523472e510516258bacb1a02eb55c5a6441b51c87c4b", func := "barque/barquelaw05.SignMatches", spec := "signMatches", unfollowed := true, recurses := true, apart := false, narrowed := true }
def SignMatchesUptoSaid : Prop := signMatchesUptoRow.holds Try.pinned (OpenSpec.upto signMatchesSpec)

/-- 'barquelaw05.SignOwn', WHERE WHAT IT READS IS OF BULK AT MOST 1048576: true; the input reads as it did. -/
def signOwnUptoRow : OpenClaim := { program := "ytblhbbgkkijkfaa", sum := "e57c6dbb6bf180cba20a523472e510516258bacb1a02eb55c5a6441b51c87c4b", func := "barque/barquelaw05.SignOwn", spec := "signOwn", unfollowed := true, recurses := true, apart := false, narrowed := true }
def SignOwnUptoSaid : Prop := signOwnUptoRow.holds Try.pinned (OpenSpec.upto signOwnSpec)

/-- 'barquelaw06.DeltaSame', WHERE WHAT IT READS IS OF BULK AT MOST 1048576: true; the input reads as it did. -/
def deltaSameUptoRow : OpenClaim := { program := "ytblhbbgkkijkfaa", sum := "e57c6dbb6bf180cba20a523472e510516258bacb1a02eb55c5a6441b51c87c4b", func := "barque/barquelaw06.DeltaSame", spec := "deltaSame", unfollowed := true, recurses := true, apart := false, narrowed := true }
def DeltaSameUptoSaid : Prop := deltaSameUptoRow.holds Try.pinned (OpenSpec.upto deltaSameSpec)

/-- 'barquelaw06.DeltaMakes', WHERE WHAT IT READS IS OF BULK AT MOST 1048576: true; the input reads as it did. -/
def deltaMakesUptoRow : OpenClaim := { program := "ytblhbbgkkijkfaa", sum := "e57c6dbb6bf180cba20a523472e510516258bacb1a02eb55c5a6441b51c87c4b", func := "barque/barquelaw06.DeltaMakes", spec := "deltaMakes", unfollowed := true, recurses := true, apart := false, narrowed := true }
def DeltaMakesUptoSaid : Prop := deltaMakesUptoRow.holds Try.pinned (OpenSpec.upto deltaMakesSpec)

/-- 'barquelaw06.DeltaRuns', WHERE WHAT IT READS IS OF BULK AT MOST 1048576: true; the input reads as it did. -/
def deltaRunsUptoRow : OpenClaim := { program := "ytblhbbgkkijkfaa", sum := "e57c6dbb6bf180cba20a523472e510516258bacb1a02eb55c5a6441b51c87c4b", func := "barque/barquelaw06.DeltaRuns", spec := "deltaRuns", inPlace := ["internal/abi.NoEscape"], unfollowed := true, recurses := true, apart := false, narrowed := true }
def DeltaRunsUptoSaid : Prop := deltaRunsUptoRow.holds Try.pinned (OpenSpec.upto deltaRunsSpec)

/-- 'barquelaw06.DeltaWrong', WHERE WHAT IT READS IS OF BULK AT MOST 1048576: true; the input reads as it did. -/
def deltaWrongUptoRow : OpenClaim := { program := "ytblhbbgkkijkfaa", sum := "e57c6dbb6bf180cba20a523472e510516258bacb1a02eb55c5a6441b51c87c4b", func := "barque/barquelaw06.DeltaWrong", spec := "deltaWrong", inPlace := ["internal/abi.NoEscape"], unfollowed := true, recurses := true, apart := false, narrowed := true }
def DeltaWrongUptoSaid : Prop := deltaWrongUptoRow.holds Try.pinned (OpenSpec.upto deltaWrongSpec)

/-- 'barquelaw06.DeltaBytes', WHERE WHAT IT READS IS OF BULK AT MOST 1048576: true; the input reads as it did. -/
def deltaBytesUptoRow : OpenClaim := { program := "ytblhbbgkkijkfaa", sum := "e57c6dbb6bf180cba20a523472e510516258bacb1a02eb55c5a6441b51c87c4b", func := "barque/barquelaw06.DeltaBytes", spec := "deltaBytes", inPlace := ["internal/abi.NoEscape"], unfollowed := true, recurses := true, apart := false, narrowed := true }
def DeltaBytesUptoSaid : Prop := deltaBytesUptoRow.holds Try.pinned (OpenSpec.upto deltaBytesSpec)

/-- 'barquelaw06.DeltaSigned', WHERE WHAT IT READS IS OF BULK AT MOST 1048576: true; the input reads as it did. -/
def deltaSignedUptoRow : OpenClaim := { program := "ytblhbbgkkijkfaa", sum := "e57c6dbb6bf180cba20a523472e510516258bacb1a02eb55c5a6441b51c87c4b", func := "barque/barquelaw06.DeltaSigned", spec := "deltaSigned", inPlace := ["math/bits.Add64"], unfollowed := true, recurses := true, apart := false, narrowed := true }
def DeltaSignedUptoSaid : Prop := deltaSignedUptoRow.holds Try.pinned (OpenSpec.upto deltaSignedSpec)

/-- 'barquelaw06.DeltaBack', WHERE WHAT IT READS IS OF BULK AT MOST 1048576: true; the input reads as it did. -/
def deltaBackUptoRow : OpenClaim := { program := "ytblhbbgkkijkfaa", sum := "e57c6dbb6bf180cba20a523472e510516258bacb1a02eb55c5a6441b51c87c4b", func := "barque/barquelaw06.DeltaBack", spec := "deltaBack", inPlace := ["internal/abi.NoEscape"], unfollowed := true, recurses := true, apart := false, narrowed := true }
def DeltaBackUptoSaid : Prop := deltaBackUptoRow.holds Try.pinned (OpenSpec.upto deltaBackSpec)

/-- 'barquelaw06.DeltaReads', WHERE WHAT IT READS IS OF BULK AT MOST 1048576: true; the input reads as it did. -/
def deltaReadsUptoRow : OpenClaim := { program := "ytblhbbgkkijkfaa", sum := "e57c6dbb6bf180cba20a523472e510516258bacb1a02eb55c5a6441b51c87c4b", func := "barque/barquelaw06.DeltaReads", spec := "deltaReads", unfollowed := true, recurses := true, apart := false, narrowed := true }
def DeltaReadsUptoSaid : Prop := deltaReadsUptoRow.holds Try.pinned (OpenSpec.upto deltaReadsSpec)

/-- 'barquelaw06.DeltaReal', WHERE WHAT IT READS IS OF BULK AT MOST 1048576: true; the input reads as it did. -/
def deltaRealUptoRow : OpenClaim := { program := "ytblhbbgkkijkfaa", sum := "e57c6dbb6bf180cba20a523472e510516258bacb1a02eb55c5a6441b51c87c4b", func := "barque/barquelaw06.DeltaReal", spec := "deltaReal", inPlace := ["math/bits.Add64", "internal/abi.NoEscape"], unfollowed := true, recurses := true, apart := false, narrowed := true }
def DeltaRealUptoSaid : Prop := deltaRealUptoRow.holds Try.pinned (OpenSpec.upto deltaRealSpec)

end Rows
end Go.Proofs.Ytblhbbgkkijkfaa
