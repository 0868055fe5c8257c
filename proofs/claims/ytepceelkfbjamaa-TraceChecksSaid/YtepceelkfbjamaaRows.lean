/-
  No cell of these rows narrows 'for every input' (looked for: loops, veiled, ifaces, maps, wideKeys, modest, calm, conditions, laid).
  DERIVED. THE GIVEN ROWS OF THIS SEAT. 7 by the template 'for every input the law returns true; each argument reads behind the call as it read before'; 0 by the template 'total and deterministic' (their statements: YtepceelkfbjamaaTotals.lean).
  GIVEN WITH THE SEED: the statements are not yours to turn. If you find one false, say at which input.
  Laid BY PROGRAM, IN A SANDBOX (cutbox-rows.mjs): the forced cells as the released guide's own fill.sh prints them over the translation d9c4a8cb2eea11f4… (all of the seat's roots in one cut). By AI agents, Wed Nov 11 2026. No macro, syntax, notation, axiom, sorry.
-/
import Derived.Test.YtepceelkfbjamaaChecked
import GoSem.Claim
import GoSem.ClaimJoined
import GoSem.ClaimMapViews
import Derived.JoinedTies
import Derived.KernelRfl
namespace Go.Proofs.Ytepceelkfbjamaa
/- THE CELL 'sum', in the pinned program and in every row, IS THE sha256 OF THE DUMP (.gsa) THAT YtepceelkfbjamaaProg.lean LOADS. Nothing in Lean hashes anything: it is a label: what it is worth is what the hold of that sum in a sandbox is worth. -/
noncomputable def Try.pinned : Pinned := { name := "ytepceelkfbjamaa", sum := "d9c4a8cb2eea11f4e713b891a8457b083b0d711354fd5aa3dd46bde937eec95b", checked := Try.checked }
namespace Rows
def none {H : Type} : Left H := { results := [], args := [] }

/-- 'orpimentlaw42.TraceRings': WHATEVER THE INPUT: true; the input reads as it did. -/
def traceRingsSpec : ChangeSpec := { name := "traceRings", fn := fun _ => fun
  | [d1, d2, d3] => { results := [.lit (.bool true)], args := [d1, d2, d3] }
  | _ => none }
def traceRingsRow : OpenClaim := { program := "ytepceelkfbjamaa", sum := "d9c4a8cb2eea11f4e713b891a8457b083b0d711354fd5aa3dd46bde937eec95b", func := "orpiment/orpimentlaw42.TraceRings", spec := "traceRings", apart := false }
def TraceRingsSaid : Prop := traceRingsRow.holds Try.pinned (OpenSpec.ofChange traceRingsSpec)

/-- ITS FALSE NEIGHBOUR: 'it returns false'. Refute it at one input. -/
def traceRingsWrong : ChangeSpec := { name := "traceRings", fn := fun _ => fun
  | [d1, d2, d3] => { results := [.lit (.bool false)], args := [d1, d2, d3] }
  | _ => none }
def TraceRingsWrongFalsely : Prop := traceRingsRow.holds Try.pinned (OpenSpec.ofChange traceRingsWrong)

/-- 'orpimentlaw42.TraceFilters': WHATEVER THE INPUT: true; the input reads as it did. -/
def traceFiltersSpec : ChangeSpec := { name := "traceFilters", fn := fun _ => fun
  | [d1, d2] => { results := [.lit (.bool true)], args := [d1, d2] }
  | _ => none }
def traceFiltersRow : OpenClaim := { program := "ytepceelkfbjamaa", sum := "d9c4a8cb2eea11f4e713b891a8457b083b0d711354fd5aa3dd46bde937eec95b", func := "orpiment/orpimentlaw42.TraceFilters", spec := "traceFilters", apart := false }
def TraceFiltersSaid : Prop := traceFiltersRow.holds Try.pinned (OpenSpec.ofChange traceFiltersSpec)

/-- ITS FALSE NEIGHBOUR: 'it returns false'. Refute it at one input. -/
def traceFiltersWrong : ChangeSpec := { name := "traceFilters", fn := fun _ => fun
  | [d1, d2] => { results := [.lit (.bool false)], args := [d1, d2] }
  | _ => none }
def TraceFiltersWrongFalsely : Prop := traceFiltersRow.holds Try.pinned (OpenSpec.ofChange traceFiltersWrong)

/-- 'orpimentlaw42.TraceCommutes': WHATEVER THE INPUT: true; the input reads as it did. -/
def traceCommutesSpec : ChangeSpec := { name := "traceCommutes", fn := fun _ => fun
  | [d1, d2, d3] => { results := [.lit (.bool true)], args := [d1, d2, d3] }
  | _ => none }
def traceCommutesRow : OpenClaim := { program := "ytepceelkfbjamaa", sum := "d9c4a8cb2eea11f4e713b891a8457b083b0d711354fd5aa3dd46bde937eec95b", func := "orpiment/orpimentlaw42.TraceCommutes", spec := "traceCommutes", apart := false }
def TraceCommutesSaid : Prop := traceCommutesRow.holds Try.pinned (OpenSpec.ofChange traceCommutesSpec)

/-- ITS FALSE NEIGHBOUR: 'it returns false'. Refute it at one input. -/
def traceCommutesWrong : ChangeSpec := { name := "traceCommutes", fn := fun _ => fun
  | [d1, d2, d3] => { results := [.lit (.bool false)], args := [d1, d2, d3] }
  | _ => none }
def TraceCommutesWrongFalsely : Prop := traceCommutesRow.holds Try.pinned (OpenSpec.ofChange traceCommutesWrong)

/-- 'orpimentlaw42.TraceRecords': WHATEVER THE INPUT: true; the input reads as it did. -/
def traceRecordsSpec : ChangeSpec := { name := "traceRecords", fn := fun _ => fun
  | [d1, d2] => { results := [.lit (.bool true)], args := [d1, d2] }
  | _ => none }
def traceRecordsRow : OpenClaim := { program := "ytepceelkfbjamaa", sum := "d9c4a8cb2eea11f4e713b891a8457b083b0d711354fd5aa3dd46bde937eec95b", func := "orpiment/orpimentlaw42.TraceRecords", spec := "traceRecords", unfollowed := true, recurses := true, apart := false }
def TraceRecordsSaid : Prop := traceRecordsRow.holds Try.pinned (OpenSpec.ofChange traceRecordsSpec)

/-- ITS FALSE NEIGHBOUR: 'it returns false'. Refute it at one input. -/
def traceRecordsWrong : ChangeSpec := { name := "traceRecords", fn := fun _ => fun
  | [d1, d2] => { results := [.lit (.bool false)], args := [d1, d2] }
  | _ => none }
def TraceRecordsWrongFalsely : Prop := traceRecordsRow.holds Try.pinned (OpenSpec.ofChange traceRecordsWrong)

/-- 'orpimentlaw42.TraceBack': WHATEVER THE INPUT: true; the input reads as it did. -/
def traceBackSpec : ChangeSpec := { name := "traceBack", fn := fun _ => fun
  | [d1, d2] => { results := [.lit (.bool true)], args := [d1, d2] }
  | _ => none }
def traceBackRow : OpenClaim := { program := "ytepceelkfbjamaa", sum := "d9c4a8cb2eea11f4e713b891a8457b083b0d711354fd5aa3dd46bde937eec95b", func := "orpiment/orpimentlaw42.TraceBack", spec := "traceBack", unfollowed := true, recurses := true, apart := false }
def TraceBackSaid : Prop := traceBackRow.holds Try.pinned (OpenSpec.ofChange traceBackSpec)

/-- ITS FALSE NEIGHBOUR: 'it returns false'. Refute it at one input. -/
def traceBackWrong : ChangeSpec := { name := "traceBack", fn := fun _ => fun
  | [d1, d2] => { results := [.lit (.bool false)], args := [d1, d2] }
  | _ => none }
def TraceBackWrongFalsely : Prop := traceBackRow.holds Try.pinned (OpenSpec.ofChange traceBackWrong)

/-- 'orpimentlaw42.TraceLimits': WHATEVER THE INPUT: true; the input reads as it did. -/
def traceLimitsSpec : ChangeSpec := { name := "traceLimits", fn := fun _ => fun
  | [d1, d2] => { results := [.lit (.bool true)], args := [d1, d2] }
  | _ => none }
def traceLimitsRow : OpenClaim := { program := "ytepceelkfbjamaa", sum := "d9c4a8cb2eea11f4e713b891a8457b083b0d711354fd5aa3dd46bde937eec95b", func := "orpiment/orpimentlaw42.TraceLimits", spec := "traceLimits", unfollowed := true, recurses := true, apart := false }
def TraceLimitsSaid : Prop := traceLimitsRow.holds Try.pinned (OpenSpec.ofChange traceLimitsSpec)

/-- ITS FALSE NEIGHBOUR: 'it returns false'. Refute it at one input. -/
def traceLimitsWrong : ChangeSpec := { name := "traceLimits", fn := fun _ => fun
  | [d1, d2] => { results := [.lit (.bool false)], args := [d1, d2] }
  | _ => none }
def TraceLimitsWrongFalsely : Prop := traceLimitsRow.holds Try.pinned (OpenSpec.ofChange traceLimitsWrong)

/-- 'orpimentlaw42.TraceChecks': WHATEVER THE INPUT: true; the input reads as it did. -/
def traceChecksSpec : ChangeSpec := { name := "traceChecks", fn := fun _ => fun
  | [d1, d2, d3] => { results := [.lit (.bool true)], args := [d1, d2, d3] }
  | _ => none }
def traceChecksRow : OpenClaim := { program := "ytepceelkfbjamaa", sum := "d9c4a8cb2eea11f4e713b891a8457b083b0d711354fd5aa3dd46bde937eec95b", func := "orpiment/orpimentlaw42.TraceChecks", spec := "traceChecks", unfollowed := true, recurses := true, apart := false }
def TraceChecksSaid : Prop := traceChecksRow.holds Try.pinned (OpenSpec.ofChange traceChecksSpec)

/-- ITS FALSE NEIGHBOUR: 'it returns false'. Refute it at one input. -/
def traceChecksWrong : ChangeSpec := { name := "traceChecks", fn := fun _ => fun
  | [d1, d2, d3] => { results := [.lit (.bool false)], args := [d1, d2, d3] }
  | _ => none }
def TraceChecksWrongFalsely : Prop := traceChecksRow.holds Try.pinned (OpenSpec.ofChange traceChecksWrong)

/- THE SECOND FORM. 'bulk': how many values and letters a reading holds, each counted each time it is reached (what is shared counts as often as it is met; a slice's spare places count too). A statement '..UptoSaid' is the law's where the arguments, and the package variables that the reading takes, are together of bulk at most 1048576: NARROWER than '..Said'. Prove '..Said' where nothing that the law and all that it calls make is longer than what came in: it says more and counts as full. Else prove '..UptoSaid'. A law counts once. -/
mutual
def uptoBulk {H : Type} : DataW H → Nat
  | .lit (.string bytes) => bytes.length + 1
  | .lit _ => 1
  | .nil => 1
  | .ptr d => uptoBulk d + 1
  | .slice elems spare => uptoBulkAll elems + uptoBulkAll spare + 1
  | .agg parts => uptoBulkAll parts + 1
  | .iface _ d => uptoBulk d + 1
  | .map entries => uptoBulkEntries entries + 1
  | .held _ => 1
def uptoBulkAll {H : Type} : List (DataW H) → Nat
  | [] => 0
  | d :: r => uptoBulk d + uptoBulkAll r
def uptoBulkEntries {H : Type} : List (Lit × DataW H) → Nat
  | [] => 0
  | x :: r => uptoBulkEntry x + uptoBulkEntries r
def uptoBulkEntry {H : Type} : Lit × DataW H → Nat
  | (.string bytes, d) => bytes.length + uptoBulk d + 1
  | (_, d) => uptoBulk d + 1
 end
def uptoSmall : (H : Type) → List (DataW H) → Bool := fun _ ds => decide (uptoBulkAll ds ≤ 1048576)
def OpenSpec.upto (s : _root_.Go.ChangeSpec) : _root_.Go.OpenSpec := { _root_.Go.OpenSpec.ofChange s with cond := some uptoSmall }

/-- 'orpimentlaw42.TraceRings', WHERE WHAT IT READS IS OF BULK AT MOST 1048576: true; the input reads as it did. -/
def traceRingsUptoRow : OpenClaim := { program := "ytepceelkfbjamaa", sum := "d9c4a8cb2eea11f4e713b891a8457b083b0d711354fd5aa3dd46bde937eec95b", func := "orpiment/orpimentlaw42.TraceRings", spec := "traceRings", apart := false, narrowed := true }
def TraceRingsUptoSaid : Prop := traceRingsUptoRow.holds Try.pinned (OpenSpec.upto traceRingsSpec)

/-- 'orpimentlaw42.TraceFilters', WHERE WHAT IT READS IS OF BULK AT MOST 1048576: true; the input reads as it did. -/
def traceFiltersUptoRow : OpenClaim := { program := "ytepceelkfbjamaa", sum := "d9c4a8cb2eea11f4e713b891a8457b083b0d711354fd5aa3dd46bde937eec95b", func := "orpiment/orpimentlaw42.TraceFilters", spec := "traceFilters", apart := false, narrowed := true }
def TraceFiltersUptoSaid : Prop := traceFiltersUptoRow.holds Try.pinned (OpenSpec.upto traceFiltersSpec)

/-- 'orpimentlaw42.TraceCommutes', WHERE WHAT IT READS IS OF BULK AT MOST 1048576: true; the input reads as it did. -/
def traceCommutesUptoRow : OpenClaim := { program := "ytepceelkfbjamaa", sum := "d9c4a8cb2eea11f4e713b891a8457b083b0d711354fd5aa3dd46bde937eec95b", func := "orpiment/orpimentlaw42.TraceCommutes", spec := "traceCommutes", apart := false, narrowed := true }
def TraceCommutesUptoSaid : Prop := traceCommutesUptoRow.holds Try.pinned (OpenSpec.upto traceCommutesSpec)

/-- 'orpimentlaw42.TraceRecords', WHERE WHAT IT READS IS OF BULK AT MOST 1048576: true; the input reads as it did. -/
def traceRecordsUptoRow : OpenClaim := { program := "ytepceelkfbjamaa", sum := "d9c4a8cb2eea11f4e713b891a8457b083b0d711354fd5aa3dd46bde937eec95b", func := "orpiment/orpimentlaw42.TraceRecords", spec := "traceRecords", unfollowed := true, recurses := true, apart := false, narrowed := true }
def TraceRecordsUptoSaid : Prop := traceRecordsUptoRow.holds Try.pinned (OpenSpec.upto traceRecordsSpec)

/-- 'orpimentlaw42.TraceBack', WHERE WHAT IT READS IS OF BULK AT MOST 1048576: true; the input reads as it did. -/
def traceBackUptoRow : OpenClaim := { program := "ytepceelkfbjamaa", sum := "d9c4a8cb2eea11f4e713b891a8457b083b0d711354fd5aa3dd46bde937eec95b", func := "orpiment/orpimentlaw42.TraceBack", spec := "traceBack", unfollowed := true, recurses := true, apart := false, narrowed := true }
def TraceBackUptoSaid : Prop := traceBackUptoRow.holds Try.pinned (OpenSpec.upto traceBackSpec)

/-- 'orpimentlaw42.TraceLimits', WHERE WHAT IT READS IS OF BULK AT MOST 1048576: true; the input reads as it did. -/
def traceLimitsUptoRow : OpenClaim := { program := "ytepceelkfbjamaa", sum := "d9c4a8cb2eea11f4e713b891a8457b083b0d711354fd5aa3dd46bde937eec95b", func := "orpiment/orpimentlaw42.TraceLimits", spec := "traceLimits", unfollowed := true, recurses := true, apart := false, narrowed := true }
def TraceLimitsUptoSaid : Prop := traceLimitsUptoRow.holds Try.pinned (OpenSpec.upto traceLimitsSpec)

/-- 'orpimentlaw42.TraceChecks', WHERE WHAT IT READS IS OF BULK AT MOST 1048576: true; the input reads as it did. -/
def traceChecksUptoRow : OpenClaim := { program := "ytepceelkfbjamaa", sum := "d9c4a8cb2eea11f4e713b891a8457b083b0d711354fd5aa3dd46bde937eec95b", func := "orpiment/orpimentlaw42.TraceChecks", spec := "traceChecks", unfollowed := true, recurses := true, apart := false, narrowed := true }
def TraceChecksUptoSaid : Prop := traceChecksUptoRow.holds Try.pinned (OpenSpec.upto traceChecksSpec)

end Rows
end Go.Proofs.Ytepceelkfbjamaa
