/-
  No cell of these rows narrows 'for every input' (looked for: loops, veiled, ifaces, maps, wideKeys, modest, calm, conditions, laid).
  DERIVED. THE GIVEN ROWS OF THIS SEAT. 6 by the template 'for every input the law returns true; each argument reads behind the call as it read before'; 0 by the template 'total and deterministic' (their statements: YtodgbpggkikbcaaTotals.lean).
  GIVEN WITH THE SEED: the statements are not yours to turn. If you find one false, say at which input.
  Laid BY PROGRAM, IN A SANDBOX (cutbox-rows.mjs): the forced cells as the released guide's own fill.sh prints them over the translation f3dc5d3a79703896… (all of the seat's roots in one cut). By AI agents, Wed Nov 11 2026. No macro, syntax, notation, axiom, sorry.
-/
import Derived.Test.YtodgbpggkikbcaaChecked
import GoSem.Claim
import GoSem.ClaimJoined
import GoSem.ClaimMapViews
import Derived.JoinedTies
import Derived.KernelRfl
namespace Go.Proofs.Ytodgbpggkikbcaa
/- THE CELL 'sum', in the pinned program and in every row, IS THE sha256 OF THE DUMP (.gsa) THAT YtodgbpggkikbcaaProg.lean LOADS. Nothing in Lean hashes anything: it is a label: what it is worth is what the hold of that sum in a sandbox is worth. -/
noncomputable def Try.pinned : Pinned := { name := "ytodgbpggkikbcaa", sum := "f3dc5d3a79703896ab1c1c19ff64a9883467e8032b67a9baade3c90ad107aa4f", checked := Try.checked }
namespace Rows
def none {H : Type} : Left H := { results := [], args := [] }

/-- 'orpimentlaw07.TimersDeadlines': WHATEVER THE INPUT: true; the input reads as it did. -/
def timersDeadlinesSpec : ChangeSpec := { name := "timersDeadlines", fn := fun _ => fun
  | [d] => { results := [.lit (.bool true)], args := [d] }
  | _ => none }
def timersDeadlinesRow : OpenClaim := { program := "ytodgbpggkikbcaa", sum := "f3dc5d3a79703896ab1c1c19ff64a9883467e8032b67a9baade3c90ad107aa4f", func := "orpiment/orpimentlaw07.TimersDeadlines", spec := "timersDeadlines", unfollowed := true, recurses := true, apart := false }
def TimersDeadlinesSaid : Prop := timersDeadlinesRow.holds Try.pinned (OpenSpec.ofChange timersDeadlinesSpec)

/-- ITS FALSE NEIGHBOUR: 'it returns false'. Refute it at one input. -/
def timersDeadlinesWrong : ChangeSpec := { name := "timersDeadlines", fn := fun _ => fun
  | [d] => { results := [.lit (.bool false)], args := [d] }
  | _ => none }
def TimersDeadlinesWrongFalsely : Prop := timersDeadlinesRow.holds Try.pinned (OpenSpec.ofChange timersDeadlinesWrong)

/-- 'orpimentlaw07.TimersLeft': WHATEVER THE INPUT: true; the input reads as it did. -/
def timersLeftSpec : ChangeSpec := { name := "timersLeft", fn := fun _ => fun
  | [d1, d2] => { results := [.lit (.bool true)], args := [d1, d2] }
  | _ => none }
def timersLeftRow : OpenClaim := { program := "ytodgbpggkikbcaa", sum := "f3dc5d3a79703896ab1c1c19ff64a9883467e8032b67a9baade3c90ad107aa4f", func := "orpiment/orpimentlaw07.TimersLeft", spec := "timersLeft", unfollowed := true, recurses := true, apart := false }
def TimersLeftSaid : Prop := timersLeftRow.holds Try.pinned (OpenSpec.ofChange timersLeftSpec)

/-- ITS FALSE NEIGHBOUR: 'it returns false'. Refute it at one input. -/
def timersLeftWrong : ChangeSpec := { name := "timersLeft", fn := fun _ => fun
  | [d1, d2] => { results := [.lit (.bool false)], args := [d1, d2] }
  | _ => none }
def TimersLeftWrongFalsely : Prop := timersLeftRow.holds Try.pinned (OpenSpec.ofChange timersLeftWrong)

/-- 'orpimentlaw07.TimersPeriods': WHATEVER THE INPUT: true; the input reads as it did. -/
def timersPeriodsSpec : ChangeSpec := { name := "timersPeriods", fn := fun _ => fun
  | [d1, d2] => { results := [.lit (.bool true)], args := [d1, d2] }
  | _ => none }
def timersPeriodsRow : OpenClaim := { program := "ytodgbpggkikbcaa", sum := "f3dc5d3a79703896ab1c1c19ff64a9883467e8032b67a9baade3c90ad107aa4f", func := "orpiment/orpimentlaw07.TimersPeriods", spec := "timersPeriods", unfollowed := true, recurses := true, apart := false }
def TimersPeriodsSaid : Prop := timersPeriodsRow.holds Try.pinned (OpenSpec.ofChange timersPeriodsSpec)

/-- ITS FALSE NEIGHBOUR: 'it returns false'. Refute it at one input. -/
def timersPeriodsWrong : ChangeSpec := { name := "timersPeriods", fn := fun _ => fun
  | [d1, d2] => { results := [.lit (.bool false)], args := [d1, d2] }
  | _ => none }
def TimersPeriodsWrongFalsely : Prop := timersPeriodsRow.holds Try.pinned (OpenSpec.ofChange timersPeriodsWrong)

/-- 'orpimentlaw07.TimersMany': WHATEVER THE INPUT: true; the input reads as it did. -/
def timersManySpec : ChangeSpec := { name := "timersMany", fn := fun _ => fun
  | [d1, d2] => { results := [.lit (.bool true)], args := [d1, d2] }
  | _ => none }
def timersManyRow : OpenClaim := { program := "ytodgbpggkikbcaa", sum := "f3dc5d3a79703896ab1c1c19ff64a9883467e8032b67a9baade3c90ad107aa4f", func := "orpiment/orpimentlaw07.TimersMany", spec := "timersMany", unfollowed := true, recurses := true, apart := false }
def TimersManySaid : Prop := timersManyRow.holds Try.pinned (OpenSpec.ofChange timersManySpec)

/-- ITS FALSE NEIGHBOUR: 'it returns false'. Refute it at one input. -/
def timersManyWrong : ChangeSpec := { name := "timersMany", fn := fun _ => fun
  | [d1, d2] => { results := [.lit (.bool false)], args := [d1, d2] }
  | _ => none }
def TimersManyWrongFalsely : Prop := timersManyRow.holds Try.pinned (OpenSpec.ofChange timersManyWrong)

/-- 'orpimentlaw07.TimersNil': WHATEVER THE INPUT: true; the input reads as it did. -/
def timersNilSpec : ChangeSpec := { name := "timersNil", fn := fun _ => fun
  | [d] => { results := [.lit (.bool true)], args := [d] }
  | _ => none }
def timersNilRow : OpenClaim := { program := "ytodgbpggkikbcaa", sum := "f3dc5d3a79703896ab1c1c19ff64a9883467e8032b67a9baade3c90ad107aa4f", func := "orpiment/orpimentlaw07.TimersNil", spec := "timersNil", unfollowed := true, recurses := true, apart := false }
def TimersNilSaid : Prop := timersNilRow.holds Try.pinned (OpenSpec.ofChange timersNilSpec)

/-- ITS FALSE NEIGHBOUR: 'it returns false'. Refute it at one input. -/
def timersNilWrong : ChangeSpec := { name := "timersNil", fn := fun _ => fun
  | [d] => { results := [.lit (.bool false)], args := [d] }
  | _ => none }
def TimersNilWrongFalsely : Prop := timersNilRow.holds Try.pinned (OpenSpec.ofChange timersNilWrong)

/-- 'orpimentlaw07.TimersCalls': WHATEVER THE INPUT: true; the input reads as it did. -/
def timersCallsSpec : ChangeSpec := { name := "timersCalls", fn := fun _ => fun
  | [d] => { results := [.lit (.bool true)], args := [d] }
  | _ => none }
def timersCallsRow : OpenClaim := { program := "ytodgbpggkikbcaa", sum := "f3dc5d3a79703896ab1c1c19ff64a9883467e8032b67a9baade3c90ad107aa4f", func := "orpiment/orpimentlaw07.TimersCalls", spec := "timersCalls", unfollowed := true, recurses := true, apart := false }
def TimersCallsSaid : Prop := timersCallsRow.holds Try.pinned (OpenSpec.ofChange timersCallsSpec)

/-- ITS FALSE NEIGHBOUR: 'it returns false'. Refute it at one input. -/
def timersCallsWrong : ChangeSpec := { name := "timersCalls", fn := fun _ => fun
  | [d] => { results := [.lit (.bool false)], args := [d] }
  | _ => none }
def TimersCallsWrongFalsely : Prop := timersCallsRow.holds Try.pinned (OpenSpec.ofChange timersCallsWrong)

/- THE SECOND FORM. 'bulk': how many values and letters a reading holds, each counted each time it is reached (what is shared counts as often as it is met; a slice's spare places count too). A statement '..UptoSaid' is the law's where the arguments, and the package variables that the reading takes, are together of bulk at most 1048576: NARROWER than '..Said'. Prove '..Said' where nothing that the law and all that it calls make is longer than what came in: it says more and counts as full. Else prove '..UptoSaid'. A law counts once. -/
mutual
def uptoBulk {H : Type} : DataW H → Nat
  | .lit (.string bytes) => bytes.length + 1
  | .lit _ => 1
  | .nil => 1
  | .ptr d => uptoBulk d + 1
  | .slice elems spare => uptoBulkAll elems + uptoBulkAll spare + 1
  | .agg parts => uptoBulkAll parts + 1
  | .iface _ d => uptoBulk d + 1
  | .map entries => uptoBulkEntries entries + 1
  | .held _ => 1
def uptoBulkAll {H : Type} : List (DataW H) → Nat
  | [] => 0
  | d :: r => uptoBulk d + uptoBulkAll r
def uptoBulkEntries {H : Type} : List (Lit × DataW H) → Nat
  | [] => 0
  | x :: r => uptoBulkEntry x + uptoBulkEntries r
def uptoBulkEntry {H : Type} : Lit × DataW H → Nat
  | (.string bytes, d) => bytes.length + uptoBulk d + 1
  | (_, d) => uptoBulk d + 1
 end
def uptoSmall : (H : Type) → List (DataW H) → Bool := fun _ ds => decide (uptoBulkAll ds ≤ 1048576)
def OpenSpec.upto (s : _root_.Go.ChangeSpec) : _root_.Go.OpenSpec := { _root_.Go.OpenSpec.ofChange s with cond := some uptoSmall }

/-- 'orpimentlaw07.TimersDeadlines', WHERE WHAT IT READS IS OF BULK AT MOST 1048576: true; the input reads as it did. -/
def timersDeadlinesUptoRow : OpenClaim := { program := "ytodgbpggkikbcaa", sum := "f3dc5d3a79703896ab1c1c19ff64a9883467e8032b67a9baade3c90ad107aa4f", func := "orpiment/orpimentlaw07.TimersDeadlines", spec := "timersDeadlines", unfollowed := true, recurses := true, apart := false, narrowed := true }
def TimersDeadlinesUptoSaid : Prop := timersDeadlinesUptoRow.holds Try.pinned (OpenSpec.upto timersDeadlinesSpec)

/-- 'orpimentlaw07.TimersLeft', WHERE WHAT IT READS IS OF BULK AT MOST 1048576: true; the input reads as it did. -/
def timersLeftUptoRow : OpenClaim := { program := "ytodgbpggkikbcaa", sum := "f3dc5d3a79703896ab1c1c19ff64a9883467e8032b67a9baade3c90ad107aa4f", func := "orpiment/orpimentlaw07.TimersLeft", spec := "timersLeft", unfollowed := true, recurses := true, apart := false, narrowed := true }
def TimersLeftUptoSaid : Prop := timersLeftUptoRow.holds Try.pinned (OpenSpec.upto timersLeftSpec)

/-- 'orpimentlaw07.TimersPeriods', WHERE WHAT IT READS IS OF BULK AT MOST 1048576: true; the input reads as it did. -/
def timersPeriodsUptoRow : OpenClaim := { program := "ytodgbpggkikbcaa", sum := "f3dc5d3a79703896ab1c1c19ff64a9883467e8032b67a9baade3c90ad107aa4f", func := "orpiment/orpimentlaw07.TimersPeriods", spec := "timersPeriods", unfollowed := true, recurses := true, apart := false, narrowed := true }
def TimersPeriodsUptoSaid : Prop := timersPeriodsUptoRow.holds Try.pinned (OpenSpec.upto timersPeriodsSpec)

/-- 'orpimentlaw07.TimersMany', WHERE WHAT IT READS IS OF BULK AT MOST 1048576: true; the input reads as it did. -/
def timersManyUptoRow : OpenClaim := { program := "ytodgbpggkikbcaa", sum := "f3dc5d3a79703896ab1c1c19ff64a9883467e8032b67a9baade3c90ad107aa4f", func := "orpiment/orpimentlaw07.TimersMany", spec := "timersMany", unfollowed := true, recurses := true, apart := false, narrowed := true }
def TimersManyUptoSaid : Prop := timersManyUptoRow.holds Try.pinned (OpenSpec.upto timersManySpec)

/-- 'orpimentlaw07.TimersNil', WHERE WHAT IT READS IS OF BULK AT MOST 1048576: true; the input reads as it did. -/
def timersNilUptoRow : OpenClaim := { program := "ytodgbpggkikbcaa", sum := "f3dc5d3a79703896ab1c1c19ff64a9883467e8032b67a9baade3c90ad107aa4f", func := "orpiment/orpimentlaw07.TimersNil", spec := "timersNil", unfollowed := true, recurses := true, apart := false, narrowed := true }
def TimersNilUptoSaid : Prop := timersNilUptoRow.holds Try.pinned (OpenSpec.upto timersNilSpec)

/-- 'orpimentlaw07.TimersCalls', WHERE WHAT IT READS IS OF BULK AT MOST 1048576: true; the input reads as it did. -/
def timersCallsUptoRow : OpenClaim := { program := "ytodgbpggkikbcaa", sum := "f3dc5d3a79703896ab1c1c19ff64a9883467e8032b67a9baade3c90ad107aa4f", func := "orpiment/orpimentlaw07.TimersCalls", spec := "timersCalls", unfollowed := true, recurses := true, apart := false, narrowed := true }
def TimersCallsUptoSaid : Prop := timersCallsUptoRow.holds Try.pinned (OpenSpec.upto timersCallsSpec)

end Rows
end Go.Proofs.Ytodgbpggkikbcaa
