/- ResponseBounds: the walk of the law. -/
import Derived.Test.YtmbfnhnemhojjaaE1
namespace Go.Proofs.Ytmbfnhnemhojjaa
set_option linter.unusedVariables false
set_option linter.unusedSimpArgs false
open Go.RowKit Go.Proofs.YtmbfnhnemhojjaaW.PrintWords Go.Proofs.YtmbfnhnemhojjaaW.PrintLast Go.Proofs.YtmbfnhnemhojjaaW.PrintMore PResponseCosts FLib
attribute [local go_sem ↓] hold_cells hold_from hold_store24 hold_store36
attribute [local go_sem] below_alloc_T below_drew_T below_drewN_T run_box run_box2 run_box6 run_held24 run_held36'

set_option maxRecDepth 100000 in
set_option maxHeartbeats 3200000 in
theorem bounds_law (t : Tab) (ht : t.costs.length = 24) (A : Option Addr) (n c : Nat) (l : List S33) (i : Int) (w : World) (hC : Kd.C k33 w A n l) :
    Calls Try.prog 5 #[tabV t, .slice A n c, .int .i64 i] w fun e w' => e = .returned (.bool true) ∧ Below w.heap.size w w' := by
  obtain rfl := Kd.C_len hC
  have HC := Lib.hid hC
  have H12 := Lib.hid (fromTab_any t ht)
  have H10 := Lib.hid (fun w hC => Bound_any t ht A c l i w hC)
  have H19 := Lib.hid (fun w hC => Admitted_any t ht A c l w hC)
  have HTC := Lib.hid (tabC' ht)
  have H18 := Lib.hid (fun A c w hC => rBound_any (tabCells t).toArray t ht (tabC' ht) A c l i w hC)
  have H20 := Lib.hid (fun A c w hC => rAdmitted_any (tabCells t).toArray t ht (tabC' ht) A c l w hC)
  obtain ⟨bx, by', hb⟩ := bndR_form t l i
  rw [hb] at H10 H18
  obtain ⟨ax, ay, ha⟩ := admR_form t l
  rw [ha] at H19 H20
  unfold tabV at H12 H10 H19 ⊢
  generalize (tabCells t).toArray = cs at H12 H10 H19 HTC H18 H20 ⊢
  have hsz := HTC.out.size
  have hone : One cs := HTC.out.one
  clear ht hC hb ha
  by_cases h20 : 20 < l.length
  · have h : (20 : Int) < (l.length : Int) := by omega
    clear h20
    go_enter Try.func5, Try.ntmps5
    go_wp2_with (go_at_call 9; refine (awake_any _).mono ?_; rintro e w1 ⟨rfl, hb1⟩)
    go_ret
    exact ⟨rfl, below_then (below_alloc (Below.refl _ _) _) (by simp) hb1⟩
  · have h : ¬ (20 : Int) < (l.length : Int) := by omega
    have d1 : decide ((20 : Int) < (l.length : Int)) = false := by simpa using h
    have H13 := Lib.hid (fun w hC => fromTasks_any A c l (by omega) w hC)
    clear h20
    go_enter Try.func5, Try.ntmps5
    go_wp2_with fail
    clear d1 h
    have hb0 : Below w.heap.size w (w.alloc (.cells cs 24)) := below_alloc (Below.refl _ _) _
    have l0 := later_whole (P := Try.prog) (n := 26) (blk_new w (.cells cs 24)) hsz
    have HCW := Lib.hid (Kd.C_below HC.out hb0)
    have HB0 := Lib.hid hb0
    clear hb0
    generalize w.alloc (.cells cs 24) = W at l0 HCW HB0 ⊢
    generalize w.heap.size = q at l0 ⊢
    refine (H12.out _).mono ?_
    rintro e w1 ⟨rfl, hB1⟩
    go_wp2_with fail
    refine (H13.out _ (Kd.C_below HCW.out hB1)).mono ?_
    rintro e w2 ⟨v2, rfl, hR2, hb2⟩
    obtain ⟨A2, c2, rfl⟩ := Kd.R_slice hR2
    have hB2 := below_step hB1 hb2
    have HR2 := Lib.hid (Kd.R_reads' hR2).2.2
    clear hB1 hb2 hR2
    go_wp2_with fail
    refine (H10.out _ (Kd.C_below HCW.out (below_new hB2 _))).mono ?_
    rintro e w3 ⟨rfl, hb3⟩
    have hB3 := below_step (below_new hB2 (.cells cs 36)) hb3
    have l36 := later_whole (P := Try.prog) (n := 26) (blk_below (blk_new w2 (.cells cs 36)) hb3) hsz
    have HC3 := Lib.hid (Kd.C_below (Kd.C_alloc HR2.out (.cells cs 36)) hb3)
    generalize w2.heap.size = g at l36 ⊢
    have hs3 := Below.refl w3.heap.size w3
    clear hB2 hb3 HR2
    go_wp2_with fail
    refine (H18.out A2 c2 _ HC3.out).mono ?_
    rintro e w4 ⟨rfl, hb4⟩
    have hB4 := below_step hB3 hb4
    clear hs3 hB3
    go_wp2_with fail
    refine (H19.out _ (Kd.C_below HCW.out hB4)).mono ?_
    rintro e w5 ⟨rfl, hb5⟩
    have hB5 := below_step hB4 hb5
    have hs5 := below_step hb4 hb5
    clear hB4 hb4 hb5
    go_wp2_with fail
    refine (H20.out A2 c2 _ (Kd.C_below HC3.out hs5)).mono ?_
    rintro e w6 ⟨rfl, hb6⟩
    clear l0 l36
    go_wp2_with (go_at_call 9; refine (awake_any _).mono ?_; rintro e w7 ⟨rfl, hb7⟩)
    go_ret
    exact ⟨rfl, below_then HB0.out HB0.out.size (below_step hB5 (below_step hb6 hb7))⟩
end Go.Proofs.Ytmbfnhnemhojjaa
