/- Ranges: the methods of a nil table. -/
import Derived.Test.YtoolflmaaooplaaB8
namespace Go.Proofs.Ytoolflmaaooplaa
set_option linter.unusedVariables false
set_option linter.unusedSimpArgs false
open Go.RowKit Go.Maps Go.Sort Go.Lib Go.Shelf Go.Proofs.YtoolflmaaooplaaW.PrintWords Go.Proofs.YtoolflmaaooplaaW.PrintLast Go.Proofs.YtoolflmaaooplaaW.PrintMore FLib
attribute [local go_sem] below_alloc_T below_drew_T below_drewN_T
theorem set_nil (l : Lk) (b : Bool) (w : World) : Calls Try.prog 8 #[.pointer none, lkV l, .bool b] w fun e w' => e = .returned (.tuple #[.bool false, .slice none 0 0, .int .i64 35]) ∧ Below w.heap.size w w' := by
  simp only [lkV]
  go_enter Try.func8, Try.ntmps8
  go_wp2
  refine bodyPost_ret (v := .tuple #[.bool false, .slice none 0 0, .int .i64 35]) (by simp [results, Try.results8, go_sem]) rfl ?_
  exact ⟨rfl, below_alloc (Below.refl _ _) _⟩
theorem release_nil (o s n : Int) (w : World) : Calls Try.prog 9 #[.pointer none, .int .i64 o, .int .i64 s, .int .i64 n] w fun e w' => e = .returned (.tuple #[.slice none 0 0, .int .i64 35]) ∧ Below w.heap.size w w' := by
  go_enter Try.func9, Try.ntmps9
  go_wp2
  refine bodyPost_ret (v := .tuple #[.slice none 0 0, .int .i64 35]) (by simp [results, Try.results9, go_sem]) rfl ?_
  exact ⟨rfl, Below.refl _ _⟩
theorem test_nil (l : Lk) (w : World) : Calls Try.prog 10 #[.pointer none, lkV l] w fun e w' => e = .returned (.tuple #[lkV ⟨0, 0, 0, false⟩, .bool false, .int .i64 35]) ∧ Below w.heap.size w w' := by
  simp only [lkV]
  go_enter Try.func10, Try.ntmps10
  go_wp2
  refine bodyPost_ret (v := .tuple #[.agg #[.int .i64 0, .int .i64 0, .int .i64 0, .bool false], .bool false, .int .i64 35]) (by simp [results, Try.results10, go_sem]) rfl ?_
  exact ⟨rfl, below_alloc (below_alloc (below_alloc (below_alloc (Below.refl _ _) _) _) _) _⟩
theorem cancel_nil (o : Int) (w : World) : Calls Try.prog 12 #[.pointer none, .int .i64 o] w fun e w' => e = .returned (.int .i64 35) ∧ Below w.heap.size w w' := by
  go_enter Try.func12, Try.ntmps12
  go_wp2
  go_ret
  exact ⟨rfl, Below.refl _ _⟩
theorem drop_nil (o : Int) (w : World) : Calls Try.prog 13 #[.pointer none, .int .i64 o] w fun e w' => e = .returned (.slice none 0 0) ∧ Below w.heap.size w w' := by
  go_enter Try.func13, Try.ntmps13
  go_wp2
  go_ret
  exact ⟨rfl, Below.refl _ _⟩
theorem check_nil (o s n : Int) (b : Bool) (w : World) : Calls Try.prog 14 #[.pointer none, .int .i64 o, .int .i64 s, .int .i64 n, .bool b] w fun e w' => e = .returned (.int .i64 35) ∧ Below w.heap.size w w' := by
  go_enter Try.func14, Try.ntmps14
  go_wp2
  go_ret
  exact ⟨rfl, Below.refl _ _⟩
theorem granted_nil (w : World) : Calls Try.prog 15 #[.pointer none] w fun e w' => e = .returned (.slice none 0 0) ∧ Below w.heap.size w w' := by
  go_enter Try.func15, Try.ntmps15
  go_wp2
  go_ret
  exact ⟨rfl, Below.refl _ _⟩
theorem waiting_nil (w : World) : Calls Try.prog 16 #[.pointer none] w fun e w' => e = .returned (.slice none 0 0) ∧ Below w.heap.size w w' := by
  go_enter Try.func16, Try.ntmps16
  go_wp2
  go_ret
  exact ⟨rfl, Below.refl _ _⟩
end Go.Proofs.Ytoolflmaaooplaa
