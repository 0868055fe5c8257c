/- Timers: a nil set. -/
import Derived.Test.YtodgbpggkikbcaaMG
namespace Go.Proofs.Ytodgbpggkikbcaa
section
set_option linter.unusedVariables false
set_option linter.unusedSimpArgs false
open Go.RowKit Go.Maps Go.Sort Go.Lib Go.Shelf Go.Proofs.YtodgbpggkikbcaaW.PrintWords Go.Proofs.YtodgbpggkikbcaaW.PrintLast Go.Proofs.YtodgbpggkikbcaaW.PrintMore FLib
attribute [local go_sem] below_alloc_T below_drew_T below_drewN_T

theorem nil_cre (own e0 e1 e2 e3 e4 : Int) (w : World) : Calls Try.prog 15 #[.pointer none, .int .i64 own, evV e0 e1 e2 e3 e4] w fun e w' => e = .returned (.tuple #[.int .i64 0, .int .i64 35]) ∧ Below w.heap.size w w' := by
  unfold evV
  go_enter Try.func15, Try.ntmps15
  go_wp2
  go_ret2
  exact ⟨rfl, below_alloc (Below.refl _ _) _⟩
set_option maxRecDepth 100000 in
theorem nil_get (i : Int) (w : World) : Calls Try.prog 12 #[.pointer none, .int .i64 i] w fun e w' => e = .returned (.tuple #[.agg #[.int .i64 0, .int .i64 0, .int .i64 0], .int .i64 35]) ∧ Below w.heap.size w w' := by
  go_enter Try.func12, Try.ntmps12
  go_wp2
  refine bodyPost_ret (v := .tuple #[.agg #[.int .i64 0, .int .i64 0, .int .i64 0], .int .i64 35]) (by simp [results, Try.results12, go_sem]) rfl ?_
  exact ⟨rfl, below_alloc (Below.refl _ _) _⟩
set_option maxRecDepth 100000 in
theorem nil_set (i f iv tol : Int) (w : World) : Calls Try.prog 19 #[.pointer none, .int .i64 i, .agg #[.int .i64 f, .int .i64 iv, .int .i64 tol]] w fun e w' => e = .returned (.tuple #[.agg #[.int .i64 0, .int .i64 0, .int .i64 0], .int .i64 35]) ∧ Below w.heap.size w w' := by
  have HG := Lib.hid (fun w => nil_get i w)
  go_enter Try.func19, Try.ntmps19
  go_wp2_with fail
  refine (HG.out _).mono ?_
  rintro e w1 ⟨rfl, hb1⟩
  have hz : w1.heap[w.heap.size + 1]? = some (.cells #[.int .i64 0, .int .i64 0, .int .i64 0] 30 (0, 0)) := blk_below (by simpa using blk_new (w.alloc (.cells #[.int .i64 f, .int .i64 iv, .int .i64 tol] 30)) (.cells #[.int .i64 0, .int .i64 0, .int .i64 0] 30)) hb1
  have z0 := later_cell (v := .int .i64 0) (blk_cell hz 0)
  have z1 := later_cell (v := .int .i64 0) (blk_cell hz 1)
  have z2 := later_cell (v := .int .i64 0) (blk_cell hz 2)
  have f0 := later_frz hz 0
  have f1 := later_frz hz 1
  have f2 := later_frz hz 2
  have HB := Lib.hid (below_step (below_alloc (below_alloc (Below.refl _ _) _) _) hb1 : Below w.heap.size w w1)
  have hs1 := Below.refl w1.heap.size w1
  have HZ := Lib.hid hz
  clear hb1 hz
  go_wp2
  refine abs_e (fun W => W.heap[w.heap.size + 1]? = some (.cells #[.int .i64 0, .int .i64 0, .int .i64 0] 30 (0, 0)) ∧ Below w.heap.size w W)
    ⟨blk_set3 (o := 0) (blk_alloc HZ.out _) _ _ _ rfl, below_keeps (F := fun k => k = w.heap.size + 1) (below_alloc HB.out _) (keeps_set3 (F := fun k => k = w.heap.size + 1) (o := 0) (Keeps.refl _ _) _ _ _ (.inl rfl)) (fun j hj => by omega)⟩ ?_
  rintro W ⟨hW, hk⟩
  clear z0 z1 z2 f0 f1 f2 hs1
  have z0 := blk_cell hW 0
  have z1 := blk_cell hW 1
  have z2 := blk_cell hW 2
  simp only [List.getElem?_toArray, List.getElem?_cons_zero, List.getElem?_cons_succ] at z0 z1 z2
  refine bodyPost_ret (v := .tuple #[.agg #[.int .i64 0, .int .i64 0, .int .i64 0], .int .i64 35]) (by simp [results, Try.results19, go_sem, z0, z1, z2]) rfl ?_
  exact ⟨rfl, hk⟩
theorem nil_exp (now : Int) (w : World) : Calls Try.prog 13 #[.pointer none, .int .i64 now] w fun e w' => e = .returned (.tuple #[.slice none 0 0, .int .i64 35]) ∧ Below w.heap.size w w' := by
  go_enter Try.func13, Try.ntmps13
  go_wp2
  go_ret2
  exact ⟨rfl, below_alloc (Below.refl _ _) _⟩
set_option maxRecDepth 100000 in
theorem nil_next (w : World) : Calls Try.prog 11 #[.pointer none] w fun e w' => e = .returned (.tuple #[.int .i64 0, .bool false]) ∧ Below w.heap.size w w' := by
  go_enter Try.func11, Try.ntmps11
  go_wp2
  refine bodyPost_ret (v := .tuple #[.int .i64 0, .bool false]) (by simp [results, Try.results11, go_sem]) rfl ?_
  exact ⟨rfl, below_alloc (below_alloc (Below.refl _ _) _) _⟩
theorem nil_del (i : Int) (w : World) : Calls Try.prog 17 #[.pointer none, .int .i64 i] w fun e w' => e = .returned (.int .i64 35) ∧ Below w.heap.size w w' := by
  have HG := Lib.hid (fun w => nil_get i w)
  go_enter Try.func17, Try.ntmps17
  go_wp2_with fail
  refine (HG.out _).mono ?_
  rintro e w1 ⟨rfl, hb1⟩
  have HB := Lib.hid hb1
  clear hb1
  go_wp2
  go_ret
  exact ⟨rfl, below_alloc HB.out _⟩
theorem nil_drop (own : Int) (w : World) : Calls Try.prog 18 #[.pointer none, .int .i64 own] w fun e w' => e = .returned (.int .i64 0) ∧ Below w.heap.size w w' := by
  go_enter Try.func18, Try.ntmps18
  go_wp2
  go_ret
  exact ⟨rfl, below_alloc (Below.refl _ _) _⟩
theorem nil_list (w : World) : Calls Try.prog 16 #[.pointer none] w fun e w' => e = .returned (.slice none 0 0) ∧ w = w' := by
  go_enter Try.func16, Try.ntmps16
  go_wp2
  go_ret
  exact ⟨rfl, rfl⟩

/-- A call. -/
structure TOp where
  kind : Int
  id : Int
  e0 : Int
  e1 : Int
  e2 : Int
  e3 : Int
  e4 : Int
  f : Int
  iv : Int
  tol : Int
  now : Int
def TOp.cells (o : TOp) : Array Value := #[.int .i64 o.kind, .int .i64 o.id, .int .i64 o.e0, .int .i64 o.e1, .int .i64 o.e2, .int .i64 o.e3, .int .i64 o.e4, .int .i64 o.f, .int .i64 o.iv, .int .i64 o.tol, .int .i64 o.now]
set_option maxRecDepth 100000 in
set_option maxHeartbeats 2000000 in
theorem nil_law (o : TOp) (w : World) : Calls Try.prog 7 #[.agg o.cells] w fun e w' => e = .returned (.bool true) ∧ Below w.heap.size w w' := by
  have HAW := Lib.hid (fun w => awake_any w)
  have H15 := Lib.hid (fun w => nil_cre o.id o.e0 o.e1 o.e2 o.e3 o.e4 w)
  have H19 := Lib.hid (fun w => nil_set o.id o.f o.iv o.tol w)
  have H12 := Lib.hid (fun w => nil_get o.id w)
  have H13 := Lib.hid (fun w => nil_exp o.now w)
  have H11 := Lib.hid (fun w => nil_next w)
  have H17 := Lib.hid (fun w => nil_del o.id w)
  have H18 := Lib.hid (fun w => nil_drop o.id w)
  have H16 := Lib.hid (fun w => nil_list w)
  obtain ⟨k, i, e0, e1, e2, e3, e4, f, iv, tol, now⟩ := o
  simp only at H15 H19 H12 H13 H17 H18
  unfold evV at H15
  unfold TOp.cells
  obtain ⟨wB, hWB⟩ : ∃ wB, w.alloc (.cells #[.int .i64 k, .int .i64 i, .int .i64 e0, .int .i64 e1, .int .i64 e2, .int .i64 e3, .int .i64 e4, .int .i64 f, .int .i64 iv, .int .i64 tol, .int .i64 now] 55) = wB := ⟨_, rfl⟩
  have hbx : wB.heap[w.heap.size]? = some (.cells #[.int .i64 k, .int .i64 i, .int .i64 e0, .int .i64 e1, .int .i64 e2, .int .i64 e3, .int .i64 e4, .int .i64 f, .int .i64 iv, .int .i64 tol, .int .i64 now] 55 (0, 0)) := by rw [← hWB]; exact blk_new w _
  have b1 := later_cell (v := .int .i64 i) (blk_cell hbx 1)
  have b2 := later_cell (v := .int .i64 e0) (blk_cell hbx 2)
  have b3 := later_cell (v := .int .i64 e1) (blk_cell hbx 3)
  have b4 := later_cell (v := .int .i64 e2) (blk_cell hbx 4)
  have b5 := later_cell (v := .int .i64 e3) (blk_cell hbx 5)
  have b6 := later_cell (v := .int .i64 e4) (blk_cell hbx 6)
  have b7 := later_cell (v := .int .i64 f) (blk_cell hbx 7)
  have b8 := later_cell (v := .int .i64 iv) (blk_cell hbx 8)
  have b9 := later_cell (v := .int .i64 tol) (blk_cell hbx 9)
  have b10 := later_cell (v := .int .i64 now) (blk_cell hbx 10)
  have HW := Lib.hid hWB
  have HB0 := Lib.hid (show Below w.heap.size w wB by rw [← hWB]; exact below_alloc (Below.refl _ _) _)
  clear hWB hbx
  go_enter Try.func7, Try.ntmps7
  go_wp2_with fail
  rw [HW.out]
  refine (H15.out _).mono ?_
  rintro e w1 ⟨rfl, hB⟩
  go_wp2_with fail
  refine (H19.out _).mono ?_
  rintro e w2 ⟨rfl, hb⟩
  have hB2 := below_step hB hb
  clear hB hb
  go_wp2_with fail
  refine (H12.out _).mono ?_
  rintro e w3 ⟨rfl, hb⟩
  have hB3 := below_step (below_step hB2 (below_alloc (Below.refl _ _) _)) hb
  clear hB2 hb
  go_wp2_with fail
  refine (H13.out _).mono ?_
  rintro e w4 ⟨rfl, hb⟩
  have hB4 := below_step (below_step hB3 (below_alloc (Below.refl _ _) _)) hb
  clear hB3 hb
  go_wp2_with fail
  refine (H11.out _).mono ?_
  rintro e w5 ⟨rfl, hb⟩
  have hB5 := below_step hB4 hb
  clear hB4 hb
  go_wp2_with fail
  refine (H17.out _).mono ?_
  rintro e w6 ⟨rfl, hb⟩
  have hB6 := below_step hB5 hb
  clear hB5 hb
  go_wp2_with fail
  refine (H18.out _).mono ?_
  rintro e w7 ⟨rfl, hb⟩
  have hB7 := below_step hB6 hb
  clear hB6 hb
  go_wp2_with fail
  refine (H16.out _).mono ?_
  rintro e w8 ⟨rfl, rfl⟩
  go_wp2_with fail
  refine (HAW.out _).mono ?_
  rintro e w9 ⟨rfl, hb⟩
  have HB9 := Lib.hid (below_step hB7 hb)
  clear hB7 hb
  go_wp2
  go_ret
  exact ⟨rfl, below_step HB0.out HB9.out⟩
end
end Go.Proofs.Ytodgbpggkikbcaa
