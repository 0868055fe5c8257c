/- Ranges: the law of a nil table: its walk. -/
import Derived.Test.YtoolflmaaooplaaN5
namespace Go.Proofs.Ytoolflmaaooplaa
set_option linter.unusedVariables false
set_option linter.unusedSimpArgs false
open Go.RowKit Go.Maps Go.Sort Go.Lib Go.Shelf Go.Proofs.YtoolflmaaooplaaW.PrintWords Go.Proofs.YtoolflmaaooplaaW.PrintLast Go.Proofs.YtoolflmaaooplaaW.PrintMore FLib
attribute [local go_sem] below_alloc_T below_drew_T below_drewN_T
set_option maxRecDepth 100000 in
set_option maxHeartbeats 1000000 in
theorem nil_law (l : Lk) (w : World) : Calls Try.prog 3 #[lkV l] w fun e w' => e = .returned (.bool true) ∧ Below w.heap.size w w' := by
  have H8 := Lib.hid (fun w => set_nil l true w)
  have H9 := Lib.hid (fun w => release_nil l.own l.st l.len w)
  have H10 := Lib.hid (fun w => test_nil l w)
  have H12 := Lib.hid (fun w => cancel_nil l.own w)
  have H13 := Lib.hid (fun w => drop_nil l.own w)
  have H14 := Lib.hid (fun w => check_nil l.own l.st l.len true w)
  have H15 := Lib.hid granted_nil
  have H16 := Lib.hid waiting_nil
  have HAW := Lib.hid awake_any
  obtain ⟨wB, hWB⟩ : ∃ wB, w.alloc (.cells l.cells.toArray 23) = wB := ⟨_, rfl⟩
  have hbx : wB.heap[w.heap.size]? = some (.cells l.cells.toArray 23 (0, 0)) := by rw [← hWB]; exact blk_new _ _
  have b0 := later_cell (v := .int .i64 l.own) (blk_cell hbx 0)
  have b1 := later_cell (v := .int .i64 l.st) (blk_cell hbx 1)
  have b2 := later_cell (v := .int .i64 l.len) (blk_cell hbx 2)
  have b3 := later_cell (v := .bool l.ex) (blk_cell hbx 3)
  have HW := Lib.hid hWB
  have HB0 := Lib.hid (show Below w.heap.size w wB by rw [← hWB]; exact below_alloc (Below.refl _ _) _)
  clear hWB hbx
  simp only [lkV, Lk.cells] at H8 H10 HW ⊢
  have hB0 : Below wB.heap.size wB wB := Below.refl _ _
  go_enter Try.func3, Try.ntmps3
  go_wp2_with (fail)
  rw [HW.out]
  go_wp2_with (fail)
  refine (H8.out _).mono ?_
  rintro e w1 ⟨rfl, hb⟩
  have hB1 := below_step hB0 hb
  clear hB0 hb
  go_wp2_with fail
  refine (H9.out _).mono ?_
  rintro e w2 ⟨rfl, hb⟩
  have hB2 := below_step hB1 hb
  clear hB1 hb
  go_wp2_with fail
  refine (H10.out _).mono ?_
  rintro e w3 ⟨rfl, hb⟩
  have hB3 := below_step hB2 hb
  clear hB2 hb
  go_wp2_with fail
  refine (HAW.out _).mono ?_
  rintro e w4 ⟨rfl, hb⟩
  have h9 := blk_new w3 (.cells #[.int .i64 0, .int .i64 0, .int .i64 0, .bool false] 23)
  have hB3' := below_alloc hB3 (.cells #[.int .i64 0, .int .i64 0, .int .i64 0, .bool false] 23)
  generalize w3.alloc (.cells #[.int .i64 0, .int .i64 0, .int .i64 0, .bool false] 23) = w3b at h9 hB3' hb
  have y0 := later_cell (v := .int .i64 0) (blk_cell h9 0)
  have y1 := later_cell (v := .int .i64 0) (blk_cell h9 1)
  have y2 := later_cell (v := .int .i64 0) (blk_cell h9 2)
  have y3 := later_cell (v := .bool false) (blk_cell h9 3)
  have hB4 := below_step hB3' hb
  have hC4 := hb
  clear hB3 hB3' hb h9
  go_wp2_with fail
  refine (H12.out _).mono ?_
  rintro e w5 ⟨rfl, hb⟩
  have hB5 := below_step hB4 hb
  have hC5 := below_step hC4 hb
  clear hB4 hC4 hb
  go_wp2_with fail
  refine (H13.out _).mono ?_
  rintro e w6 ⟨rfl, hb⟩
  have hB6 := below_step hB5 hb
  have hC6 := below_step hC5 hb
  clear hB5 hC5 hb
  go_wp2_with fail
  refine (H14.out _).mono ?_
  rintro e w7 ⟨rfl, hb⟩
  have hB7 := below_step hB6 hb
  have hC7 := below_step hC6 hb
  clear hB6 hC6 hb
  go_wp2_with fail
  refine (H15.out _).mono ?_
  rintro e w8 ⟨rfl, hb⟩
  have hB8 := below_step hB7 hb
  have hC8 := below_step hC7 hb
  clear hB7 hC7 hb
  go_wp2_with fail
  refine (H16.out _).mono ?_
  rintro e w9 ⟨rfl, hb⟩
  have hB9 := below_step hB8 hb
  have hC9 := below_step hC8 hb
  clear hB8 hC8 hb
  go_wp2
  go_ret
  exact ⟨rfl, below_step HB0.out hB9⟩
end Go.Proofs.Ytoolflmaaooplaa
