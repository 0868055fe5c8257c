/- Arguments opened: a number of 16 bits. -/
import Derived.Test.YtodgbpggkikbcaaMM
namespace Go.Proofs.Ytodgbpggkikbcaa.Opens4
open Go.RowKit
theorem wf16 {x : Int} (h : (Lit.int .u16 x).wf = true) : 0 ≤ x ∧ x < 65536 := by
  simp [Lit.wf, IntKind.min, IntKind.max, IntKind.signed, IntKind.bits] at h
  omega
end Go.Proofs.Ytodgbpggkikbcaa.Opens4
