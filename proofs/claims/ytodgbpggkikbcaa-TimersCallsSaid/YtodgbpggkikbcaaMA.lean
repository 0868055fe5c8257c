/- Timers: the small functions, Get, fire. -/
import Derived.Test.YtodgbpggkikbcaaA1
import Derived.Deep.QuietTactic
import Derived.BigQuiet
namespace Go.Proofs.Ytodgbpggkikbcaa
section
set_option linter.unusedVariables false
set_option linter.unusedSimpArgs false
open Go.RowKit Go.Maps Go.Sort Go.Proofs.YtodgbpggkikbcaaW.PrintWords Go.Proofs.YtodgbpggkikbcaaW.PrintLast Go.Proofs.YtodgbpggkikbcaaW.PrintMore FLib

theorem below_alloc_T {W w : World} (o : Obj) (h : Below W.heap.size W w) : Below W.heap.size W (w.alloc o) = True := eq_true (h.alloc h.size o)
theorem below_drew_T (B : Nat) (a w : World) : Below B a w.drew = Below B a w := propext ⟨fun h => ⟨h.os, h.tape, h.output, h.size, h.block⟩, fun h => ⟨h.os, h.tape, h.output, h.size, h.block⟩⟩
theorem below_drewN_T (B n : Nat) (a w : World) : Below B a (w.drewN n) = Below B a w := propext ⟨fun h => ⟨h.os, h.tape, h.output, h.size, h.block⟩, fun h => ⟨h.os, h.tape, h.output, h.size, h.block⟩⟩
theorem later_cell {W : World} {a : Addr} {v : Value} (h : W.cell? a = some v) : ∀ w', Below W.heap.size W w' → w'.cell? a = some v := fun _ hb => pw_cell_below hb h
theorem later_blk {W : World} {q : Nat} {o : Obj} (h : W.heap[q]? = some o) : ∀ w', Below W.heap.size W w' → w'.heap[q]? = some o := fun _ hb => (hb.block q (blk_lt h)).trans h
theorem later_frz {W : World} {q : Nat} {cs : Array Value} {ty : Nat} (h : W.heap[q]? = some (.cells cs ty (0, 0))) (i : Nat) : ∀ w', Below W.heap.size W w' → w'.frozen? ⟨q, i, none⟩ = false := fun w' hb => blk_frozen (later_blk h w' hb) i
theorem below_step {W w1 w2 : World} (h : Below W.heap.size W w1) (h2 : Below w1.heap.size w1 w2) : Below W.heap.size W w2 := h.trans (h2.mono h.size)

def okT (n : Int) : Bool := decide (0 ≤ n) && decide (n ≤ 1099511627776)
theorem ticks_any (n : Int) (w : World) : Calls Try.prog 27 #[.int .i64 n] w fun e w' => e = .returned (.bool (okT n)) ∧ w = w' := by
  have HE := Lib.hid (show okT n = (decide (0 ≤ n) && decide (n ≤ 1099511627776)) from rfl)
  cases h1 : decide (0 ≤ n)
  · go_enter Try.func27, Try.ntmps27
    go_wp2
    go_ret
    exact ⟨by rw [HE.out, h1]; rfl, rfl⟩
  · cases h2 : decide (n ≤ 1099511627776)
    all_goals
      go_enter Try.func27, Try.ntmps27
      go_wp2
      go_ret
      exact ⟨by rw [HE.out, h1, h2]; rfl, rfl⟩

/-- The event of a timer. -/
def evV (e0 e1 e2 e3 e4 : Int) : Value := .agg #[.int .i64 e0, .int .i64 e1, .int .i64 e2, .int .i64 e3, .int .i64 e4]
def chkE (e0 e1 e2 e3 : Int) : Int :=
  if decide (e0 < 1) || decide (4 < e0) then 17 else if decide (e1 < 0) || decide (e2 < 0) || decide (255 < e2) || decide (e3 < -128) || decide (127 < e3) then 34 else 0
theorem pulse_any (w : World) : Calls Try.prog 25 #[] w fun e w' => e = .returned (evV 1 1 10 0 0) ∧ Below w.heap.size w w' := by
  go_enter Try.func25, Try.ntmps25
  go_wp2
  refine bodyPost_ret (v := evV 1 1 10 0 0) (by simp [results, Try.results25, go_sem, evV]) rfl ?_
  exact ⟨rfl, below_alloc (Below.refl _ _) _⟩

theorem new_any (w : World) : Calls Try.prog 14 #[] w fun e w' => e = .returned (.pointer (some ⟨w.heap.size + 1, 0, none⟩)) ∧ TS w' (w.heap.size + 1) w.heap.size 0 [] ∧ Below w.heap.size w w' := by
  have hmm := @run_makeMap Try.prog
  go_enter Try.func14, Try.ntmps14
  go_wp2
  go_ret
  refine ⟨rfl, ⟨?_, ⟨.map [], ?_, DL.empty⟩, by simp, by simp, by simp⟩, below_alloc (below_alloc (Below.refl _ _) _) _⟩
  · simpa using blk_new (w.alloc (.map #[] 0)) (.cells #[.map (some w.heap.size), .int .i64 0] 73)
  · exact ((World.ownsMap_made w Try.prog 3 Rd).mono (by omega)).alloc _

end
section
set_option linter.unusedVariables false
set_option linter.unusedSimpArgs false
open Go.RowKit Go.Maps Go.Sort Go.Proofs.YtodgbpggkikbcaaW.PrintWords Go.Proofs.YtodgbpggkikbcaaW.PrintLast Go.Proofs.YtodgbpggkikbcaaW.PrintMore FLib

set_option maxHeartbeats 4000000 in
theorem chk_any (e0 e1 e2 e3 e4 : Int) (w : World) : Calls Try.prog 29 #[evV e0 e1 e2 e3 e4] w fun e w' => e = .returned (.int .i64 (chkE e0 e1 e2 e3)) ∧ Below w.heap.size w w' := by
  have HE := Lib.hid (show chkE e0 e1 e2 e3 = if decide (e0 < 1) || decide (4 < e0) then 17 else if decide (e1 < 0) || decide (e2 < 0) || decide (255 < e2) || decide (e3 < -128) || decide (127 < e3) then 34 else 0 from rfl)
  unfold evV
  cases h1 : decide (e0 < 1) <;> cases h2 : decide (4 < e0)
  · cases h3 : decide (e1 < 0) <;> cases h4 : decide (e2 < 0) <;> cases h5 : decide (255 < e2) <;> cases h6 : decide (e3 < -128) <;> cases h7 : decide (127 < e3)
    all_goals
      go_enter Try.func29, Try.ntmps29
      go_wp2
      go_ret
      exact ⟨by rw [HE.out, h1, h2, h3, h4, h5, h6, h7]; rfl, below_alloc (Below.refl _ _) _⟩
  all_goals
    go_enter Try.func29, Try.ntmps29
    go_wp2
    go_ret
    exact ⟨by rw [HE.out, h1, h2]; rfl, below_alloc (Below.refl _ _) _⟩

end
section
set_option linter.unusedVariables false
set_option linter.unusedSimpArgs false
open Go.RowKit Go.Maps Go.Sort Go.Proofs.YtodgbpggkikbcaaW.PrintWords Go.Proofs.YtodgbpggkikbcaaW.PrintLast Go.Proofs.YtodgbpggkikbcaaW.PrintMore FLib

attribute [local go_sem] below_alloc_T below_drew_T below_drewN_T

def specV : Option (Nat × TT) → Value
  | none => .agg #[.int .i64 0, .int .i64 0, .int .i64 0]
  | some (_, t) => .agg #[.int .i64 t.fst, .int .i64 t.ivl, .int .i64 t.tol]
theorem at_some {L : Slots} {k : Int} {x : Nat × TT} (h : at' L k = some x) : ∃ i : Nat, k = i ∧ L[i]? = some (some x) := by
  by_cases h0 : 0 ≤ k
  · obtain ⟨i, rfl⟩ := Int.eq_ofNat_of_zero_le h0
    exact ⟨i, rfl, at_nat_some.1 h⟩
  · rw [at_neg (by omega)] at h; cases h
theorem TS.timer {W : World} {p mb : Nat} {clk : Int} {L : Slots} (h : TS W p mb clk L) {k : Int} {b : Nat} {t : TT} (ha : at' L k = some (b, t)) : W.heap[b]? = some (.cells t.cells 69 (0, 0)) := by
  obtain ⟨i, rfl, hi⟩ := at_some ha
  exact h.blk i b t hi
set_option maxRecDepth 100000 in
theorem get_any (p mb : Nat) (clk : Int) (L : Slots) (i : Int) (hi : (Lit.int .i64 i).wf = true) (w : World) (h : TS w p mb clk L) :
    Calls Try.prog 12 #[.pointer (some ⟨p, 0, none⟩), .int .i64 i] w fun e w' => e = .returned (.tuple #[specV (at' L i), .int .i64 (if (at' L i).isSome then 0 else 3)]) ∧ Below w.heap.size w w' := by
  have c0 := later_cell (v := .map (some mb)) (blk_cell h.hdr 0)
  have hl := fun w' hb => (h.later w' hb).run_lookok hi
  have ht := fun b t ha => h.timer (k := i) (b := b) (t := t) ha
  have hs := Below.refl w.heap.size w
  clear h
  revert hl ht
  generalize at' L i = o
  intro hl ht
  rcases o with _ | ⟨b, t⟩
  · simp only [ptrV, Option.isSome_none] at hl
    clear ht
    go_enter Try.func12, Try.ntmps12
    go_wp2
    refine bodyPost_ret (v := .tuple #[specV none, .int .i64 3]) (by simp [results, Try.results12, go_sem, specV]) rfl ?_
    exact ⟨rfl, below_alloc (Below.refl _ _) _⟩
  · simp only [ptrV, Option.isSome_some] at hl
    have hb := ht b t rfl
    unfold TT.cells at hb
    have t6 := later_cell (v := .int .i64 t.fst) (blk_cell hb 6)
    have t7 := later_cell (v := .int .i64 t.ivl) (blk_cell hb 7)
    have t8 := later_cell (v := .int .i64 t.tol) (blk_cell hb 8)
    clear ht hb
    go_enter Try.func12, Try.ntmps12
    go_wp2
    refine bodyPost_ret (v := .tuple #[specV (some (b, t)), .int .i64 0]) (by simp [results, Try.results12, go_sem, specV]) rfl ?_
    exact ⟨rfl, below_alloc (Below.refl _ _) _⟩
end
section
set_option linter.unusedVariables false
set_option linter.unusedSimpArgs false
open Go.RowKit Go.Maps Go.Sort Go.Proofs.YtodgbpggkikbcaaW.PrintWords Go.Proofs.YtodgbpggkikbcaaW.PrintLast Go.Proofs.YtodgbpggkikbcaaW.PrintMore FLib
attribute [local go_sem] below_alloc_T below_drew_T below_drewN_T

/-- A timer's numbers are ticks. -/
structure TOk (t : TT) : Prop where
  f0 : 0 ≤ t.fst
  f1 : t.fst ≤ 1099511627776
  i0 : 0 ≤ t.ivl
  i1 : t.ivl ≤ 1099511627776
  t0 : 0 ≤ t.tol
  t1 : t.tol ≤ 1099511627776
/-- How many periods more have begun. -/
def overs (t : TT) (now : Int) : Int := if t.ivl = 0 then 0 else (now - t.fst) / t.ivl
def nextF (t : TT) (now : Int) : Int := if t.ivl = 0 then 0 else if 1099511627776 < t.fst + (overs t now + 1) * t.ivl then 0 else t.fst + (overs t now + 1) * t.ivl
def fireT (t : TT) (now : Int) : TT := { t with fst := nextF t now }
theorem overs_bound {t : TT} (ht : TOk t) {now : Int} (h0 : t.fst ≤ now) (h1 : now ≤ 1099511627776) (hz : t.ivl ≠ 0) : 0 ≤ (now - t.fst) / t.ivl ∧ (now - t.fst) / t.ivl ≤ 1099511627776 ∧ 0 ≤ ((now - t.fst) / t.ivl + 1) * t.ivl ∧ ((now - t.fst) / t.ivl + 1) * t.ivl ≤ 2199023255552 := by
  obtain ⟨a0, a1, a2, a3, a4, a5⟩ := ht
  have p : 0 < t.ivl := by omega
  have q0 : 0 ≤ (now - t.fst) / t.ivl := Int.ediv_nonneg (by omega) (by omega)
  have q1 : (now - t.fst) / t.ivl * t.ivl ≤ now - t.fst := Int.ediv_mul_le _ (by omega)
  have q2 : (now - t.fst) / t.ivl ≤ now - t.fst := Int.ediv_le_self _ (by omega)
  have q3 : ((now - t.fst) / t.ivl + 1) * t.ivl = (now - t.fst) / t.ivl * t.ivl + t.ivl := by rw [Int.add_mul, Int.one_mul]
  have q4 : 0 ≤ (now - t.fst) / t.ivl * t.ivl := Int.mul_nonneg q0 (by omega)
  refine ⟨q0, by omega, by omega, by omega⟩
theorem keeps_set {a w : World} {F : Nat → Prop} (h : Keeps a w F) {b i : Nat} (v : Value) (hb : F b) : Keeps a (w.setCell ⟨b, i, none⟩ v) F := h.set _ v (.inl hb)

set_option maxRecDepth 100000 in
set_option maxHeartbeats 1000000 in
theorem fire_any (b : Nat) (t : TT) (ht : TOk t) (now : Int) (h0 : t.fst ≤ now) (h1 : now ≤ 1099511627776) (w : World) (h : w.heap[b]? = some (.cells t.cells 69 (0, 0))) :
    Calls Try.prog 28 #[.pointer (some ⟨b, 0, none⟩), .int .i64 now] w fun e w' => e = .returned (.int .i64 (overs t now)) ∧ w'.heap[b]? = some (.cells (fireT t now).cells 69 (0, 0)) ∧ Keeps w w' (fun k => k = b) := by
  have HB := Lib.hid h
  have c6 : w.cell? ⟨b, 6, none⟩ = some (.int .i64 t.fst) := blk_cell h 6
  have c7 : w.cell? ⟨b, 7, none⟩ = some (.int .i64 t.ivl) := blk_cell h 7
  have f6 : w.frozen? ⟨b, 6, none⟩ = false := blk_frozen h 6
  by_cases hz : t.ivl = 0
  · have d0 : (t.ivl == 0) = true := by simpa using hz
    have HO := Lib.hid (show overs t now = 0 by unfold overs; rw [if_pos hz])
    have HN := Lib.hid (show nextF t now = 0 by unfold nextF; rw [if_pos hz])
    clear hz h ht
    go_enter Try.func28, Try.ntmps28
    go_wp2
    go_ret
    exact ⟨by rw [HO.out]; rfl, blk_put HB.out 6 _ (by unfold fireT TT.cells; rw [HN.out]; rfl), keeps_set (Keeps.refl _ _) _ rfl⟩
  · have d0 : (t.ivl == 0) = false := by simpa using hz
    obtain ⟨b0, b1, b2, b3⟩ := overs_bound ht h0 h1 hz
    have w1 : IntKind.i64.wrap (now - t.fst) = now - t.fst := IntWalk.i64_in _ (by have := ht.f0; omega)
    have w2 : IntKind.i64.wrap ((now - t.fst).tdiv t.ivl) = (now - t.fst) / t.ivl := IntWalk.i64_quo _ _ (by have := ht.f0; have := ht.i0; omega)
    have HO := Lib.hid (show overs t now = (now - t.fst) / t.ivl by unfold overs; rw [if_neg hz])
    have HN := Lib.hid (show nextF t now = if 1099511627776 < t.fst + ((now - t.fst) / t.ivl + 1) * t.ivl then 0 else t.fst + ((now - t.fst) / t.ivl + 1) * t.ivl by unfold nextF overs; rw [if_neg hz, if_neg hz])
    have HB0 := Lib.hid ht.f0
    have HB1 := Lib.hid ht.f1
    clear h ht h0 h1
    go_enter Try.func28, Try.ntmps28
    go_wp2
    go_quiet (fail)
    clear d0 hz w1 w2
    generalize (now - t.fst) / t.ivl = n at *
    have w4 : wrap64 ((n + 1) * t.ivl) = (n + 1) * t.ivl := IntWalk.wrap64_in _ (by omega)
    have w5 : wrap64 (t.fst + (n + 1) * t.ivl) = t.fst + (n + 1) * t.ivl := IntWalk.wrap64_in _ (by have := HB0.out; have := HB1.out; omega)
    go_wp2
    refine still_tail 14 (by kernel_rfl) (by kernel_rfl) ?_
    simp only [List.take_succ_cons, List.take_zero, List.drop_succ_cons, List.drop_zero]
    repeat still_step
    refine wpStill_nil ?_
    by_cases hbig : 1099511627776 < t.fst + (n + 1) * t.ivl
    · have d1 : decide (1099511627776 < t.fst + (n + 1) * t.ivl) = true := decide_eq_true hbig
      have HX := Lib.hid (show nextF t now = 0 by rw [HN.out, if_pos hbig])
      clear hbig
      go_wp2
      go_ret
      exact ⟨by rw [HO.out]; rfl, blk_put (cs' := (fireT t now).cells) (blk_set (blk_drewN HB.out _) 6 _) 6 _ (by unfold fireT TT.cells; rw [HX.out]; rfl), keeps_set (F := fun k => k = b) (keeps_set (F := fun k => k = b) ((Keeps.refl _ _).drewN _) _ rfl) _ rfl⟩
    · have d1 : decide (1099511627776 < t.fst + (n + 1) * t.ivl) = false := decide_eq_false hbig
      have HX := Lib.hid (show nextF t now = t.fst + (n + 1) * t.ivl by rw [HN.out, if_neg hbig])
      clear hbig
      go_wp2
      go_ret
      exact ⟨by rw [HO.out]; rfl, blk_put (cs' := (fireT t now).cells) (blk_drewN HB.out _) 6 _ (by unfold fireT TT.cells; rw [HX.out]; rfl), keeps_set (F := fun k => k = b) ((Keeps.refl _ _).drewN _) _ rfl⟩
end
end Go.Proofs.Ytodgbpggkikbcaa
