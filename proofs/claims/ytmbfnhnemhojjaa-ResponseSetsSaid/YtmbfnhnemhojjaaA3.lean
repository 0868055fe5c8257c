/- An analysis: job. -/
import Derived.Test.YtmbfnhnemhojjaaA2
namespace Go.Proofs.Ytmbfnhnemhojjaa
set_option linter.unusedVariables false
set_option linter.unusedSimpArgs false
open Go.RowKit Go.Proofs.YtmbfnhnemhojjaaW.PrintWords Go.Proofs.YtmbfnhnemhojjaaW.PrintLast Go.Proofs.YtmbfnhnemhojjaaW.PrintMore PResponseCosts FLib

/-- The cells that a load of a whole variable takes, as one word: the walk takes them in one step, by a fact. -/
def RunCells (P : Program) (a : Addr) (n : Nat) (w : World) : Result (Array Value) := (loadCells a n).run P w
theorem hold_cells (P : Program) (a : Addr) (n : Nat) (w : World) : (loadCells a n).run P w = RunCells P a n w := rfl
theorem hold_from (P : Program) (a : Addr) (n : Nat) (w : World) : (loadCellsFrom a 0 n #[]).run P w = RunCells P a n w := rfl
attribute [local go_sem ↓] hold_cells hold_from
theorem runCells_list {P : Program} (w : World) (a : Addr) (cs : List Value) (h : ∀ j v, cs[j]? = some v → w.cell? (a.add j) = some v) : RunCells P a cs.length w = .ok cs.toArray w := run_loadCells_list (P := P) w a cs h
theorem runCells_blk {P : Program} {w : World} {ty q n : Nat} {cs : Array Value} (h : w.heap[q]? = some (.cells cs ty (0, 0))) (hn : cs.size = n) : RunCells P ⟨q, 0, none⟩ n w = .ok cs w := by
  have hl := runCells_list (P := P) w ⟨q, 0, none⟩ cs.toList (fun j v hv => by rw [add_mk, blk_cell h]; simpa using hv)
  rw [Array.length_toList, hn] at hl
  simpa using hl
theorem later_run {P : Program} {W : World} {a : Addr} {n : Nat} {cs : Array Value} (h : ∀ j v, cs[j]? = some v → W.cell? (a.add j) = some v) (hn : cs.size = n) : ∀ w', Below W.heap.size W w' → RunCells P a n w' = .ok cs w' := by
  intro w' hb
  have hl := runCells_list (P := P) w' a cs.toList (fun j v hv => pw_cell_below hb (h j v (by simpa using hv)))
  rw [Array.length_toList, hn] at hl
  simpa using hl
theorem later_blk {W : World} {q : Nat} {o : Obj} (h : W.heap[q]? = some o) : ∀ w', Below W.heap.size W w' → w'.heap[q]? = some o := fun _ hb => (hb.block q (blk_lt h)).trans h
theorem later_cell {W : World} {a : Addr} {v : Value} (h : W.cell? a = some v) : ∀ w', Below W.heap.size W w' → w'.cell? a = some v := fun _ hb => pw_cell_below hb h
theorem later_whole {P : Program} {W : World} {ty q n : Nat} {cs : Array Value} (h : W.heap[q]? = some (.cells cs ty (0, 0))) (hn : cs.size = n) : ∀ w', Below W.heap.size W w' → RunCells P ⟨q, 0, none⟩ n w' = .ok cs w' :=
  fun w' hb => runCells_blk (later_blk h w' hb) hn
theorem below_step {W w1 w2 : World} (h : Below W.heap.size W w1) (h2 : Below w1.heap.size w1 w2) : Below W.heap.size W w2 := h.trans (h2.mono h.size)

theorem ret_int {k : IntKind} {a b : Int} (h : a = b) : Ending.returned (.int k a) = .returned (.int k b) := by rw [h]
set_option maxRecDepth 100000 in
set_option maxHeartbeats 400000 in
theorem job_any (cs : Array Value) (t : Tab) (v : Value) (h : AnaC cs t v) (ht : TOk t) (x : S33) (h4 : 1 ≤ x.f4 ∧ x.f4 ≤ 1000) (h5 : 0 ≤ x.f5 ∧ x.f5 ≤ 1000) (w : World) :
    Calls Try.prog 37 #[.agg cs, tkV x] w fun e w' => e = .returned (.int .i64 (jobI t x)) ∧ Below w.heap.size w w' := by
  have h1 := h.cost 1 (by omega)
  have h23 := h.cost 23 (by omega)
  obtain ⟨b1, b1'⟩ := ht.cost 1 (by omega)
  obtain ⟨b23, b23'⟩ := ht.cost 23 (by omega)
  have hb : 0 ≤ critI t x ∧ critI t x ≤ 3000 := by
    have := ht.cost 6 (by omega); have := ht.cost 7 (by omega)
    unfold critI; split <;> omega
  obtain ⟨bc, bc'⟩ := hb
  obtain ⟨b4, b4'⟩ := h4
  have HC := Lib.hid (crit_any cs t v h ht x h5)
  unfold jobI
  generalize cAt t 1 = c1 at h1 b1 b1' ⊢
  generalize cAt t 23 = c23 at h23 b23 b23' ⊢
  generalize critI t x = cr at bc bc' HC ⊢
  simp only [Nat.reduceAdd] at h1 h23
  have hsz := h.size
  have HS := Lib.hid hsz
  clear h ht h5 hsz
  go_enter Try.func37, Try.ntmps37
  unfold tkV
  go_wp2
  refine abs_w (fun W => W.heap[w.heap.size]? = some (.cells cs 69 (0, 0)) ∧ W.heap[w.heap.size + 1]? = some (.cells #[.int .i64 x.f0, .int .i64 x.f1, .int .i64 x.f2, .int .i64 x.f3, .int .i64 x.f4, .int .i64 x.f5] 33 (0, 0)) ∧ Below w.heap.size w W) ⟨blk_alloc (blk_new _ _) _, by simpa using blk_new (w.alloc (.cells cs 69)) (.cells #[.int .i64 x.f0, .int .i64 x.f1, .int .i64 x.f2, .int .i64 x.f3, .int .i64 x.f4, .int .i64 x.f5] 33), below_alloc (below_alloc (Below.refl _ _) _) _⟩ ?_
  generalize w.heap.size + 1 = q1
  rintro W ⟨hq0, hq1, hB⟩
  generalize hq : w.heap.size = q at hq0 hB ⊢
  have l0 := later_whole (P := Try.prog) hq0 HS.out
  have k1 := later_cell ((blk_cell hq0 3).trans h1)
  have k23 := later_cell ((blk_cell hq0 25).trans h23)
  have l1 := later_whole (P := Try.prog) (n := 6) hq1 rfl
  have t4 := later_cell (v := .int .i64 x.f4) (blk_cell hq1 4)
  have HQ := Lib.hid hq
  have HB := Lib.hid hB
  clear hq0 hq1 h1 h23 hq hB
  go_region_held3 (fun w' => Below W.heap.size W w') (first | exact below_drew (Below.refl _ _) | exact below_step (by assumption) hb1)
    (first | (go_at_call 57; refine (HC.out _).mono ?_; rintro e w1 ⟨rfl, hb1⟩))
  have hB1 := below_then HB.out (HQ.out ▸ HB.out.size) (by assumption)
  rw [← HQ.out] at hB1
  go_wp2
  go_ret
  exact ⟨ret_int (by rw [IntWalk.i64_in (c1 + cr) (by omega), IntWalk.i64_in (c1 + cr + x.f4) (by omega), IntWalk.i64_in _ (by omega)]), hB1⟩
end Go.Proofs.Ytmbfnhnemhojjaa
