/- NewRing and the like: contracts. -/
import Derived.Test.YtepceelkfbjamaaProg
import Derived.WalkKit
import Derived.KernelRfl
import Derived.Below
import Derived.OwnWalk
import Derived.RegionTactic
import Derived.Outline
import Derived.Deep.QuietTactic
import Derived.BigQuiet
import Derived.WideLaws
import Derived.Deep.DeepFit
import Derived.Deep.DeepMust
namespace Go.Proofs.Ytepceelkfbjamaa
open Go.RowKit

theorem newRing_ok (n : Int) (w : World) (h1 : 1 ≤ n) (h2 : n ≤ 10000) :
    Calls Try.prog 11 #[.int .i64 n] w fun e w' => e = .returned (.tuple #[.pointer (some ⟨w.heap.size, 0, none⟩), .int .i64 0]) ∧ w' = w.alloc (.cells #[.slice none 0 0, .int .i64 0, .int .i64 n, .int .i64 0] 82) := by
  go_enter Try.func11, Try.ntmps11
  go_wp2
  go_ret2
  exact ⟨rfl, rfl⟩

end Go.Proofs.Ytepceelkfbjamaa
