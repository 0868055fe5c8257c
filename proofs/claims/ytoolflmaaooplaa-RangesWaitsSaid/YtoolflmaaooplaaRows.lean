/-
  No cell of these rows narrows 'for every input' (looked for: loops, veiled, ifaces, maps, wideKeys, modest, calm, conditions, laid).
  DERIVED. THE GIVEN ROWS OF THIS SEAT. 5 by the template 'for every input the law returns true; each argument reads behind the call as it read before'; 0 by the template 'total and deterministic' (their statements: YtoolflmaaooplaaTotals.lean).
  GIVEN WITH THE SEED: the statements are not yours to turn. If you find one false, say at which input.
  Laid BY PROGRAM, IN A SANDBOX (cutbox-rows.mjs): the forced cells as the released guide's own fill.sh prints them over the translation 971ac83b94c03dc3… (all of the seat's roots in one cut). By AI agents, Wed Nov 11 2026. No macro, syntax, notation, axiom, sorry.
-/
import Derived.Test.YtoolflmaaooplaaChecked
import GoSem.Claim
import GoSem.ClaimJoined
import GoSem.ClaimMapViews
import Derived.JoinedTies
import Derived.KernelRfl
namespace Go.Proofs.Ytoolflmaaooplaa
/- THE CELL 'sum', in the pinned program and in every row, IS THE sha256 OF THE DUMP (.gsa) THAT YtoolflmaaooplaaProg.lean LOADS. Nothing in Lean hashes anything: it is a label: what it is worth is what the hold of that sum in a sandbox is worth. -/
noncomputable def Try.pinned : Pinned := { name := "ytoolflmaaooplaa", sum := "971ac83b94c03dc3599f1f250fe5df9fcc1b5a629469082ede3853c020462fff", checked := Try.checked }
namespace Rows
def none {H : Type} : Left H := { results := [], args := [] }

/-- 'orpimentlaw21.RangesNil': WHATEVER THE INPUT: true; the input reads as it did. -/
def rangesNilSpec : ChangeSpec := { name := "rangesNil", fn := fun _ => fun
  | [d] => { results := [.lit (.bool true)], args := [d] }
  | _ => none }
def rangesNilRow : OpenClaim := { program := "ytoolflmaaooplaa", sum := "971ac83b94c03dc3599f1f250fe5df9fcc1b5a629469082ede3853c020462fff", func := "orpiment/orpimentlaw21.RangesNil", spec := "rangesNil", unfollowed := true, recurses := true, plainKeys := false, apart := false }
def RangesNilSaid : Prop := rangesNilRow.holds Try.pinned (OpenSpec.ofChange rangesNilSpec)

/-- ITS FALSE NEIGHBOUR: 'it returns false'. Refute it at one input. -/
def rangesNilWrong : ChangeSpec := { name := "rangesNil", fn := fun _ => fun
  | [d] => { results := [.lit (.bool false)], args := [d] }
  | _ => none }
def RangesNilWrongFalsely : Prop := rangesNilRow.holds Try.pinned (OpenSpec.ofChange rangesNilWrong)

/-- 'orpimentlaw21.RangesWaits': WHATEVER THE INPUT: true; the input reads as it did. -/
def rangesWaitsSpec : ChangeSpec := { name := "rangesWaits", fn := fun _ => fun
  | [d] => { results := [.lit (.bool true)], args := [d] }
  | _ => none }
def rangesWaitsRow : OpenClaim := { program := "ytoolflmaaooplaa", sum := "971ac83b94c03dc3599f1f250fe5df9fcc1b5a629469082ede3853c020462fff", func := "orpiment/orpimentlaw21.RangesWaits", spec := "rangesWaits", unfollowed := true, recurses := true, plainKeys := false, apart := false }
def RangesWaitsSaid : Prop := rangesWaitsRow.holds Try.pinned (OpenSpec.ofChange rangesWaitsSpec)

/-- ITS FALSE NEIGHBOUR: 'it returns false'. Refute it at one input. -/
def rangesWaitsWrong : ChangeSpec := { name := "rangesWaits", fn := fun _ => fun
  | [d] => { results := [.lit (.bool false)], args := [d] }
  | _ => none }
def RangesWaitsWrongFalsely : Prop := rangesWaitsRow.holds Try.pinned (OpenSpec.ofChange rangesWaitsWrong)

/-- 'orpimentlaw21.RangesTests': WHATEVER THE INPUT: true; the input reads as it did. -/
def rangesTestsSpec : ChangeSpec := { name := "rangesTests", fn := fun _ => fun
  | [d1, d2] => { results := [.lit (.bool true)], args := [d1, d2] }
  | _ => none }
def rangesTestsRow : OpenClaim := { program := "ytoolflmaaooplaa", sum := "971ac83b94c03dc3599f1f250fe5df9fcc1b5a629469082ede3853c020462fff", func := "orpiment/orpimentlaw21.RangesTests", spec := "rangesTests", unfollowed := true, recurses := true, plainKeys := false, apart := false }
def RangesTestsSaid : Prop := rangesTestsRow.holds Try.pinned (OpenSpec.ofChange rangesTestsSpec)

/-- ITS FALSE NEIGHBOUR: 'it returns false'. Refute it at one input. -/
def rangesTestsWrong : ChangeSpec := { name := "rangesTests", fn := fun _ => fun
  | [d1, d2] => { results := [.lit (.bool false)], args := [d1, d2] }
  | _ => none }
def RangesTestsWrongFalsely : Prop := rangesTestsRow.holds Try.pinned (OpenSpec.ofChange rangesTestsWrong)

/-- 'orpimentlaw21.RangesDrops': WHATEVER THE INPUT: true; the input reads as it did. -/
def rangesDropsSpec : ChangeSpec := { name := "rangesDrops", fn := fun _ => fun
  | [d1, d2] => { results := [.lit (.bool true)], args := [d1, d2] }
  | _ => none }
def rangesDropsRow : OpenClaim := { program := "ytoolflmaaooplaa", sum := "971ac83b94c03dc3599f1f250fe5df9fcc1b5a629469082ede3853c020462fff", func := "orpiment/orpimentlaw21.RangesDrops", spec := "rangesDrops", unfollowed := true, recurses := true, plainKeys := false, apart := false }
def RangesDropsSaid : Prop := rangesDropsRow.holds Try.pinned (OpenSpec.ofChange rangesDropsSpec)

/-- ITS FALSE NEIGHBOUR: 'it returns false'. Refute it at one input. -/
def rangesDropsWrong : ChangeSpec := { name := "rangesDrops", fn := fun _ => fun
  | [d1, d2] => { results := [.lit (.bool false)], args := [d1, d2] }
  | _ => none }
def RangesDropsWrongFalsely : Prop := rangesDropsRow.holds Try.pinned (OpenSpec.ofChange rangesDropsWrong)

/-- 'orpimentlaw21.RangesPlays': WHATEVER THE INPUT: true; the input reads as it did. -/
def rangesPlaysSpec : ChangeSpec := { name := "rangesPlays", fn := fun _ => fun
  | [d] => { results := [.lit (.bool true)], args := [d] }
  | _ => none }
def rangesPlaysRow : OpenClaim := { program := "ytoolflmaaooplaa", sum := "971ac83b94c03dc3599f1f250fe5df9fcc1b5a629469082ede3853c020462fff", func := "orpiment/orpimentlaw21.RangesPlays", spec := "rangesPlays", unfollowed := true, recurses := true, plainKeys := false, apart := false }
def RangesPlaysSaid : Prop := rangesPlaysRow.holds Try.pinned (OpenSpec.ofChange rangesPlaysSpec)

/-- ITS FALSE NEIGHBOUR: 'it returns false'. Refute it at one input. -/
def rangesPlaysWrong : ChangeSpec := { name := "rangesPlays", fn := fun _ => fun
  | [d] => { results := [.lit (.bool false)], args := [d] }
  | _ => none }
def RangesPlaysWrongFalsely : Prop := rangesPlaysRow.holds Try.pinned (OpenSpec.ofChange rangesPlaysWrong)

/- THE SECOND FORM. 'bulk': how many values and letters a reading holds, each counted each time it is reached (what is shared counts as often as it is met; a slice's spare places count too). A statement '..UptoSaid' is the law's where the arguments, and the package variables that the reading takes, are together of bulk at most 1048576: NARROWER than '..Said'. Prove '..Said' where nothing that the law and all that it calls make is longer than what came in: it says more and counts as full. Else prove '..UptoSaid'. A law counts once. -/
mutual
def uptoBulk {H : Type} : DataW H → Nat
  | .lit (.string bytes) => bytes.length + 1
  | .lit _ => 1
  | .nil => 1
  | .ptr d => uptoBulk d + 1
  | .slice elems spare => uptoBulkAll elems + uptoBulkAll spare + 1
  | .agg parts => uptoBulkAll parts + 1
  | .iface _ d => uptoBulk d + 1
  | .map entries => uptoBulkEntries entries + 1
  | .held _ => 1
def uptoBulkAll {H : Type} : List (DataW H) → Nat
  | [] => 0
  | d :: r => uptoBulk d + uptoBulkAll r
def uptoBulkEntries {H : Type} : List (Lit × DataW H) → Nat
  | [] => 0
  | x :: r => uptoBulkEntry x + uptoBulkEntries r
def uptoBulkEntry {H : Type} : Lit × DataW H → Nat
  | (.string bytes, d) => bytes.length + uptoBulk d + 1
  | (_, d) => uptoBulk d + 1
 end
def uptoSmall : (H : Type) → List (DataW H) → Bool := fun _ ds => decide (uptoBulkAll ds ≤ 1048576)
def OpenSpec.upto (s : _root_.Go.ChangeSpec) : _root_.Go.OpenSpec := { _root_.Go.OpenSpec.ofChange s with cond := some uptoSmall }

/-- 'orpimentlaw21.RangesNil', WHERE WHAT IT READS IS OF BULK AT MOST 1048576: true; the input reads as it did. -/
def rangesNilUptoRow : OpenClaim := { program := "ytoolflmaaooplaa", sum := "971ac83b94c03dc3599f1f250fe5df9fcc1b5a629469082ede3853c020462fff", func := "orpiment/orpimentlaw21.RangesNil", spec := "rangesNil", unfollowed := true, recurses := true, plainKeys := false, apart := false, narrowed := true }
def RangesNilUptoSaid : Prop := rangesNilUptoRow.holds Try.pinned (OpenSpec.upto rangesNilSpec)

/-- 'orpimentlaw21.RangesWaits', WHERE WHAT IT READS IS OF BULK AT MOST 1048576: true; the input reads as it did. -/
def rangesWaitsUptoRow : OpenClaim := { program := "ytoolflmaaooplaa", sum := "971ac83b94c03dc3599f1f250fe5df9fcc1b5a629469082ede3853c020462fff", func := "orpiment/orpimentlaw21.RangesWaits", spec := "rangesWaits", unfollowed := true, recurses := true, plainKeys := false, apart := false, narrowed := true }
def RangesWaitsUptoSaid : Prop := rangesWaitsUptoRow.holds Try.pinned (OpenSpec.upto rangesWaitsSpec)

/-- 'orpimentlaw21.RangesTests', WHERE WHAT IT READS IS OF BULK AT MOST 1048576: true; the input reads as it did. -/
def rangesTestsUptoRow : OpenClaim := { program := "ytoolflmaaooplaa", sum := "971ac83b94c03dc3599f1f250fe5df9fcc1b5a629469082ede3853c020462fff", func := "orpiment/orpimentlaw21.RangesTests", spec := "rangesTests", unfollowed := true, recurses := true, plainKeys := false, apart := false, narrowed := true }
def RangesTestsUptoSaid : Prop := rangesTestsUptoRow.holds Try.pinned (OpenSpec.upto rangesTestsSpec)

/-- 'orpimentlaw21.RangesDrops', WHERE WHAT IT READS IS OF BULK AT MOST 1048576: true; the input reads as it did. -/
def rangesDropsUptoRow : OpenClaim := { program := "ytoolflmaaooplaa", sum := "971ac83b94c03dc3599f1f250fe5df9fcc1b5a629469082ede3853c020462fff", func := "orpiment/orpimentlaw21.RangesDrops", spec := "rangesDrops", unfollowed := true, recurses := true, plainKeys := false, apart := false, narrowed := true }
def RangesDropsUptoSaid : Prop := rangesDropsUptoRow.holds Try.pinned (OpenSpec.upto rangesDropsSpec)

/-- 'orpimentlaw21.RangesPlays', WHERE WHAT IT READS IS OF BULK AT MOST 1048576: true; the input reads as it did. -/
def rangesPlaysUptoRow : OpenClaim := { program := "ytoolflmaaooplaa", sum := "971ac83b94c03dc3599f1f250fe5df9fcc1b5a629469082ede3853c020462fff", func := "orpiment/orpimentlaw21.RangesPlays", spec := "rangesPlays", unfollowed := true, recurses := true, plainKeys := false, apart := false, narrowed := true }
def RangesPlaysUptoSaid : Prop := rangesPlaysUptoRow.holds Try.pinned (OpenSpec.upto rangesPlaysSpec)

end Rows
end Go.Proofs.Ytoolflmaaooplaa
