/-
  No cell of these rows narrows 'for every input' (looked for: loops, veiled, ifaces, maps, wideKeys, modest, calm, conditions, laid).
  DERIVED. THE GIVEN ROWS OF THIS SEAT. 5 by the template 'for every input the law returns true; each argument reads behind the call as it read before'; 0 by the template 'total and deterministic' (their statements: YtmbfnhnemhojjaaTotals.lean).
  GIVEN WITH THE SEED: the statements are not yours to turn. If you find one false, say at which input.
  Laid BY PROGRAM, IN A SANDBOX (cutbox-rows.mjs): the forced cells as the released guide's own fill.sh prints them over the translation 1b54fd6b7d7f0aa8… (all of the seat's roots in one cut). By AI agents, Wed Nov 11 2026. No macro, syntax, notation, axiom, sorry.
-/
import Derived.Test.YtmbfnhnemhojjaaChecked
import GoSem.Claim
import GoSem.ClaimJoined
import GoSem.ClaimMapViews
import Derived.JoinedTies
import Derived.KernelRfl
namespace Go.Proofs.Ytmbfnhnemhojjaa
/- THE CELL 'sum', in the pinned program and in every row, IS THE sha256 OF THE DUMP (.gsa) THAT YtmbfnhnemhojjaaProg.lean LOADS. Nothing in Lean hashes anything: it is a label: what it is worth is what the hold of that sum in a sandbox is worth. -/
noncomputable def Try.pinned : Pinned := { name := "ytmbfnhnemhojjaa", sum := "1b54fd6b7d7f0aa820482ff8c7ad9bbf48c31de01314e6c8abb6fbcf15e37777", checked := Try.checked }
namespace Rows
def none {H : Type} : Left H := { results := [], args := [] }

/-- 'orpimentlaw43.ResponseGrows': WHATEVER THE INPUT: true; the input reads as it did. -/
def responseGrowsSpec : ChangeSpec := { name := "responseGrows", fn := fun _ => fun
  | [d1, d2, d3] => { results := [.lit (.bool true)], args := [d1, d2, d3] }
  | _ => none }
def responseGrowsRow : OpenClaim := { program := "ytmbfnhnemhojjaa", sum := "1b54fd6b7d7f0aa820482ff8c7ad9bbf48c31de01314e6c8abb6fbcf15e37777", func := "orpiment/orpimentlaw43.ResponseGrows", spec := "responseGrows", unfollowed := true, recurses := true, apart := false }
def ResponseGrowsSaid : Prop := responseGrowsRow.holds Try.pinned (OpenSpec.ofChange responseGrowsSpec)

/-- ITS FALSE NEIGHBOUR: 'it returns false'. Refute it at one input. -/
def responseGrowsWrong : ChangeSpec := { name := "responseGrows", fn := fun _ => fun
  | [d1, d2, d3] => { results := [.lit (.bool false)], args := [d1, d2, d3] }
  | _ => none }
def ResponseGrowsWrongFalsely : Prop := responseGrowsRow.holds Try.pinned (OpenSpec.ofChange responseGrowsWrong)

/-- 'orpimentlaw43.ResponseCosts': WHATEVER THE INPUT: true; the input reads as it did. -/
def responseCostsSpec : ChangeSpec := { name := "responseCosts", fn := fun _ => fun
  | [d1, d2, d3] => { results := [.lit (.bool true)], args := [d1, d2, d3] }
  | _ => none }
def responseCostsRow : OpenClaim := { program := "ytmbfnhnemhojjaa", sum := "1b54fd6b7d7f0aa820482ff8c7ad9bbf48c31de01314e6c8abb6fbcf15e37777", func := "orpiment/orpimentlaw43.ResponseCosts", spec := "responseCosts", unfollowed := true, recurses := true, apart := false }
def ResponseCostsSaid : Prop := responseCostsRow.holds Try.pinned (OpenSpec.ofChange responseCostsSpec)

/-- ITS FALSE NEIGHBOUR: 'it returns false'. Refute it at one input. -/
def responseCostsWrong : ChangeSpec := { name := "responseCosts", fn := fun _ => fun
  | [d1, d2, d3] => { results := [.lit (.bool false)], args := [d1, d2, d3] }
  | _ => none }
def ResponseCostsWrongFalsely : Prop := responseCostsRow.holds Try.pinned (OpenSpec.ofChange responseCostsWrong)

/-- 'orpimentlaw43.ResponseBounds': WHATEVER THE INPUT: true; the input reads as it did. -/
def responseBoundsSpec : ChangeSpec := { name := "responseBounds", fn := fun _ => fun
  | [d1, d2, d3] => { results := [.lit (.bool true)], args := [d1, d2, d3] }
  | _ => none }
def responseBoundsRow : OpenClaim := { program := "ytmbfnhnemhojjaa", sum := "1b54fd6b7d7f0aa820482ff8c7ad9bbf48c31de01314e6c8abb6fbcf15e37777", func := "orpiment/orpimentlaw43.ResponseBounds", spec := "responseBounds", unfollowed := true, recurses := true, apart := false }
def ResponseBoundsSaid : Prop := responseBoundsRow.holds Try.pinned (OpenSpec.ofChange responseBoundsSpec)

/-- ITS FALSE NEIGHBOUR: 'it returns false'. Refute it at one input. -/
def responseBoundsWrong : ChangeSpec := { name := "responseBounds", fn := fun _ => fun
  | [d1, d2, d3] => { results := [.lit (.bool false)], args := [d1, d2, d3] }
  | _ => none }
def ResponseBoundsWrongFalsely : Prop := responseBoundsRow.holds Try.pinned (OpenSpec.ofChange responseBoundsWrong)

/-- 'orpimentlaw43.ResponseMeasures': WHATEVER THE INPUT: true; the input reads as it did. -/
def responseMeasuresSpec : ChangeSpec := { name := "responseMeasures", fn := fun _ => fun
  | [d1, d2, d3] => { results := [.lit (.bool true)], args := [d1, d2, d3] }
  | _ => none }
def responseMeasuresRow : OpenClaim := { program := "ytmbfnhnemhojjaa", sum := "1b54fd6b7d7f0aa820482ff8c7ad9bbf48c31de01314e6c8abb6fbcf15e37777", func := "orpiment/orpimentlaw43.ResponseMeasures", spec := "responseMeasures", unfollowed := true, recurses := true, apart := false }
def ResponseMeasuresSaid : Prop := responseMeasuresRow.holds Try.pinned (OpenSpec.ofChange responseMeasuresSpec)

/-- ITS FALSE NEIGHBOUR: 'it returns false'. Refute it at one input. -/
def responseMeasuresWrong : ChangeSpec := { name := "responseMeasures", fn := fun _ => fun
  | [d1, d2, d3] => { results := [.lit (.bool false)], args := [d1, d2, d3] }
  | _ => none }
def ResponseMeasuresWrongFalsely : Prop := responseMeasuresRow.holds Try.pinned (OpenSpec.ofChange responseMeasuresWrong)

/-- 'orpimentlaw43.ResponseSets': WHATEVER THE INPUT: true; the input reads as it did. -/
def responseSetsSpec : ChangeSpec := { name := "responseSets", fn := fun _ => fun
  | [d1, d2, d3] => { results := [.lit (.bool true)], args := [d1, d2, d3] }
  | _ => none }
def responseSetsRow : OpenClaim := { program := "ytmbfnhnemhojjaa", sum := "1b54fd6b7d7f0aa820482ff8c7ad9bbf48c31de01314e6c8abb6fbcf15e37777", func := "orpiment/orpimentlaw43.ResponseSets", spec := "responseSets", unfollowed := true, recurses := true, apart := false }
def ResponseSetsSaid : Prop := responseSetsRow.holds Try.pinned (OpenSpec.ofChange responseSetsSpec)

/-- ITS FALSE NEIGHBOUR: 'it returns false'. Refute it at one input. -/
def responseSetsWrong : ChangeSpec := { name := "responseSets", fn := fun _ => fun
  | [d1, d2, d3] => { results := [.lit (.bool false)], args := [d1, d2, d3] }
  | _ => none }
def ResponseSetsWrongFalsely : Prop := responseSetsRow.holds Try.pinned (OpenSpec.ofChange responseSetsWrong)

/- THE SECOND FORM. 'bulk': how many values and letters a reading holds, each counted each time it is reached (what is shared counts as often as it is met; a slice's spare places count too). A statement '..UptoSaid' is the law's where the arguments, and the package variables that the reading takes, are together of bulk at most 1048576: NARROWER than '..Said'. Prove '..Said' where nothing that the law and all that it calls make is longer than what came in: it says more and counts as full. Else prove '..UptoSaid'. A law counts once. -/
mutual
def uptoBulk {H : Type} : DataW H → Nat
  | .lit (.string bytes) => bytes.length + 1
  | .lit _ => 1
  | .nil => 1
  | .ptr d => uptoBulk d + 1
  | .slice elems spare => uptoBulkAll elems + uptoBulkAll spare + 1
  | .agg parts => uptoBulkAll parts + 1
  | .iface _ d => uptoBulk d + 1
  | .map entries => uptoBulkEntries entries + 1
  | .held _ => 1
def uptoBulkAll {H : Type} : List (DataW H) → Nat
  | [] => 0
  | d :: r => uptoBulk d + uptoBulkAll r
def uptoBulkEntries {H : Type} : List (Lit × DataW H) → Nat
  | [] => 0
  | x :: r => uptoBulkEntry x + uptoBulkEntries r
def uptoBulkEntry {H : Type} : Lit × DataW H → Nat
  | (.string bytes, d) => bytes.length + uptoBulk d + 1
  | (_, d) => uptoBulk d + 1
 end
def uptoSmall : (H : Type) → List (DataW H) → Bool := fun _ ds => decide (uptoBulkAll ds ≤ 1048576)
def OpenSpec.upto (s : _root_.Go.ChangeSpec) : _root_.Go.OpenSpec := { _root_.Go.OpenSpec.ofChange s with cond := some uptoSmall }

/-- 'orpimentlaw43.ResponseGrows', WHERE WHAT IT READS IS OF BULK AT MOST 1048576: true; the input reads as it did. -/
def responseGrowsUptoRow : OpenClaim := { program := "ytmbfnhnemhojjaa", sum := "1b54fd6b7d7f0aa820482ff8c7ad9bbf48c31de01314e6c8abb6fbcf15e37777", func := "orpiment/orpimentlaw43.ResponseGrows", spec := "responseGrows", unfollowed := true, recurses := true, apart := false, narrowed := true }
def ResponseGrowsUptoSaid : Prop := responseGrowsUptoRow.holds Try.pinned (OpenSpec.upto responseGrowsSpec)

/-- 'orpimentlaw43.ResponseCosts', WHERE WHAT IT READS IS OF BULK AT MOST 1048576: true; the input reads as it did. -/
def responseCostsUptoRow : OpenClaim := { program := "ytmbfnhnemhojjaa", sum := "1b54fd6b7d7f0aa820482ff8c7ad9bbf48c31de01314e6c8abb6fbcf15e37777", func := "orpiment/orpimentlaw43.ResponseCosts", spec := "responseCosts", unfollowed := true, recurses := true, apart := false, narrowed := true }
def ResponseCostsUptoSaid : Prop := responseCostsUptoRow.holds Try.pinned (OpenSpec.upto responseCostsSpec)

/-- 'orpimentlaw43.ResponseBounds', WHERE WHAT IT READS IS OF BULK AT MOST 1048576: true; the input reads as it did. -/
def responseBoundsUptoRow : OpenClaim := { program := "ytmbfnhnemhojjaa", sum := "1b54fd6b7d7f0aa820482ff8c7ad9bbf48c31de01314e6c8abb6fbcf15e37777", func := "orpiment/orpimentlaw43.ResponseBounds", spec := "responseBounds", unfollowed := true, recurses := true, apart := false, narrowed := true }
def ResponseBoundsUptoSaid : Prop := responseBoundsUptoRow.holds Try.pinned (OpenSpec.upto responseBoundsSpec)

/-- 'orpimentlaw43.ResponseMeasures', WHERE WHAT IT READS IS OF BULK AT MOST 1048576: true; the input reads as it did. -/
def responseMeasuresUptoRow : OpenClaim := { program := "ytmbfnhnemhojjaa", sum := "1b54fd6b7d7f0aa820482ff8c7ad9bbf48c31de01314e6c8abb6fbcf15e37777", func := "orpiment/orpimentlaw43.ResponseMeasures", spec := "responseMeasures", unfollowed := true, recurses := true, apart := false, narrowed := true }
def ResponseMeasuresUptoSaid : Prop := responseMeasuresUptoRow.holds Try.pinned (OpenSpec.upto responseMeasuresSpec)

/-- 'orpimentlaw43.ResponseSets', WHERE WHAT IT READS IS OF BULK AT MOST 1048576: true; the input reads as it did. -/
def responseSetsUptoRow : OpenClaim := { program := "ytmbfnhnemhojjaa", sum := "1b54fd6b7d7f0aa820482ff8c7ad9bbf48c31de01314e6c8abb6fbcf15e37777", func := "orpiment/orpimentlaw43.ResponseSets", spec := "responseSets", unfollowed := true, recurses := true, apart := false, narrowed := true }
def ResponseSetsUptoSaid : Prop := responseSetsUptoRow.holds Try.pinned (OpenSpec.upto responseSetsSpec)

end Rows
end Go.Proofs.Ytmbfnhnemhojjaa
