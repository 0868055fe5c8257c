/- ResponseCosts: the walk of the law. -/
import Derived.Test.YtmbfnhnemhojjaaD3
namespace Go.Proofs.Ytmbfnhnemhojjaa
set_option linter.unusedVariables false
set_option linter.unusedSimpArgs false
open Go.RowKit Go.Proofs.YtmbfnhnemhojjaaW.PrintWords Go.Proofs.YtmbfnhnemhojjaaW.PrintLast Go.Proofs.YtmbfnhnemhojjaaW.PrintMore PResponseCosts FLib
attribute [local go_sem ↓] hold_cells hold_from hold_store24 hold_store36
attribute [local go_sem] below_alloc_T below_drew_T below_drewN_T run_box run_box2 run_box6 run_held24 run_held36'

theorem blkR_form (t : Tab) (l : List S33) (i : Int) : ∃ x y : Int, blkR t l i = .tuple #[.int .i64 x, .int .i64 y] := by unfold blkR; split <;> exact ⟨_, _, rfl⟩
theorem bndT_form (o : Option Nat) : ∃ x y : Int, bndT o = .tuple #[.int .i64 x, .int .i64 y] := by cases o <;> exact ⟨_, _, rfl⟩
theorem bndR_form (t : Tab) (l : List S33) (i : Int) : ∃ x y : Int, bndR t l i = .tuple #[.int .i64 x, .int .i64 y] := by
  unfold bndR
  split
  · exact bndT_form _
  · exact ⟨_, _, rfl⟩
theorem costR_form (t : Tab) (x : S33) : ∃ a b : Int, costR t x = .tuple #[.int .i64 a, .int .i64 b] := by unfold costR; split <;> exact ⟨_, _, rfl⟩
theorem admR_form (t : Tab) (l : List S33) : ∃ (a : Bool) (b : Int), admR t l = .tuple #[.bool a, .int .i64 b] := by unfold admR; split <;> exact ⟨_, _, rfl⟩

set_option maxRecDepth 100000 in
set_option maxHeartbeats 3200000 in
theorem costs_law (t : Tab) (ht : t.costs.length = 24) (A : Option Addr) (n c : Nat) (l : List S33) (i : Int) (w : World) (hC : Kd.C k33 w A n l) :
    Calls Try.prog 4 #[tabV t, .slice A n c, .int .i64 i] w fun e w' => e = .returned (.bool true) ∧ Below w.heap.size w w' := by
  obtain rfl := Kd.C_len hC
  have HC := Lib.hid hC
  have H12 := Lib.hid (fromTab_any t ht)
  have H14 := Lib.hid (fun w hC => blocking_any t ht A c l i w hC)
  have H8 := Lib.hid (fun w hC => check_any t ht A c l w hC)
  have H11 := Lib.hid (fun x w => Cost_any t ht x w)
  have HTC := Lib.hid (tabC' ht)
  have H15 := Lib.hid (fun A c w hC => rblocking_any (tabCells t).toArray t ht (tabC' ht) A c l i w hC)
  have H16 := Lib.hid (fun A c w hC => rcheck_any (tabCells t).toArray t ht (tabC' ht) A c l w hC)
  have H17 := Lib.hid (fun x w => rCost_any (tabCells t).toArray t ht (tabC' ht) x w)
  obtain ⟨bx, by', hblk⟩ := blkR_form t l i
  rw [hblk] at H14 H15
  unfold tabV at H12 H14 H8 H11 ⊢
  generalize (tabCells t).toArray = cs at H12 H14 H8 H11 HTC H15 H16 H17 ⊢
  have hsz := HTC.out.size
  have hone : One cs := HTC.out.one
  clear ht hC hblk
  by_cases h20 : 20 < l.length
  · have h : (20 : Int) < (l.length : Int) := by omega
    clear h20
    go_enter Try.func4, Try.ntmps4
    go_wp2_with (go_at_call 9; refine (awake_any _).mono ?_; rintro e w1 ⟨rfl, hb1⟩)
    go_ret
    exact ⟨rfl, below_then (below_alloc (Below.refl _ _) _) (by simp) hb1⟩
  · have h : ¬ (20 : Int) < (l.length : Int) := by omega
    have d1 : decide ((20 : Int) < (l.length : Int)) = false := by simpa using h
    have hlen : (l.length : Int) ≤ 20 := by omega
    have H13 := Lib.hid (fun w hC => fromTasks_any A c l (by omega) w hC)
    clear h20
    go_enter Try.func4, Try.ntmps4
    go_wp2_with fail
    clear d1 h
    have hb0 : Below w.heap.size w (w.alloc (.cells cs 24)) := below_alloc (Below.refl _ _) _
    have l0 := later_whole (P := Try.prog) (n := 26) (blk_new w (.cells cs 24)) hsz
    have HCW := Lib.hid (Kd.C_below HC.out hb0)
    have HB0 := Lib.hid hb0
    clear hb0
    generalize w.alloc (.cells cs 24) = W at l0 HCW HB0 ⊢
    generalize w.heap.size = q at l0 ⊢
    refine (H12.out _).mono ?_
    rintro e w1 ⟨rfl, hB1⟩
    go_wp2_with fail
    refine (H13.out _ (Kd.C_below HCW.out hB1)).mono ?_
    rintro e w2 ⟨v2, rfl, hR2, hb2⟩
    obtain ⟨A2, c2, rfl⟩ := Kd.R_slice hR2
    have hB2 := below_step hB1 hb2
    have HR2 := Lib.hid (Kd.R_reads' hR2).2.2
    clear hB1 hb2 hR2
    go_wp2_with fail
    refine (H14.out _ (Kd.C_below HCW.out (below_new hB2 _))).mono ?_
    rintro e w3 ⟨rfl, hb3⟩
    have hB3 := below_step (below_new hB2 (.cells cs 36)) hb3
    have l36 := later_whole (P := Try.prog) (n := 26) (blk_below (blk_new w2 (.cells cs 36)) hb3) hsz
    have HC3 := Lib.hid (Kd.C_below (Kd.C_alloc HR2.out (.cells cs 36)) hb3)
    generalize w2.heap.size = g at l36 ⊢
    have hs3 := Below.refl w3.heap.size w3
    clear hB2 hb3 HR2
    go_wp2_with fail
    refine (H15.out A2 c2 _ HC3.out).mono ?_
    rintro e w4 ⟨rfl, hb4⟩
    have hB4 := below_step hB3 hb4
    clear hs3
    go_wp2
    have m0 := fun w' hw => l0 w' (below_step hB4 hw)
    have m36 := fun w' hw => l36 w' (below_step hb4 hw)
    have HC4 := Lib.hid (Kd.C_below HC3.out hb4)
    have HCW4 := Lib.hid (Kd.C_below HCW.out hB4)
    have HB4 := Lib.hid hB4
    clear l0 l36 hB3 hb4 hB4 HC3 HCW
    go_region_held3 (fun w' => Below w4.heap.size w4 w') (first | assumption | exact below_drew (Below.refl _ _) | exact below_step (by assumption) hb1)
      (first | (go_at_call 8; refine (H8.out _ (Kd.C_below HCW4.out (by assumption))).mono ?_; rintro e w5 ⟨rfl, hb1⟩) | (go_at_call 16; refine (H16.out A2 c2 _ (Kd.C_below HC4.out (by assumption))).mono ?_; rintro e w5 ⟨rfl, hb1⟩))
    all_goals
      refine abs_e (fun w' => Below w4.heap.size w4 w') (by assumption) ?_
      clear hb1
      rintro w5 hB5
      go_wp2
      go_loopw [13] (fun i' wr => ∃ k : Nat, k ≤ l.length ∧ i' = .int .i64 k ∧ Below w4.heap.size w4 wr) (fun i' _ => l.length - (intOf i').toNat)
      case atStart => exact ⟨0, Nat.zero_le _, rfl, hB5⟩
      case round =>
        obtain ⟨k, hk, rfl, hBr⟩ := hrel
        by_cases hlt : k < l.length
        · obtain ⟨ad, rfl, lk, -⟩ := tasks_at HCW4.out k hlt
          obtain ⟨ad2, rfl, lk2, -⟩ := tasks_at HC4.out k hlt
          have hi0 : (0 : Int) ≤ (k : Int) := by omega
          have hi1 : (k : Int) < (l.length : Int) := by omega
          have H11X := Lib.hid (H11.out (tk l k))
          have H17X := Lib.hid (H17.out (tk l k))
          generalize tk l k = x at lk lk2 H11X H17X
          obtain ⟨cx, cy, hcost⟩ := costR_form t x
          rw [hcost] at H11X H17X
          unfold tkV at H11X H17X
          clear hcost
          go_wp2
          go_region_held3 (fun w' => Below w4.heap.size w4 w') (first | assumption | exact below_step (by assumption) (below_drew (Below.refl _ _)) | exact below_step (by assumption) hb1)
            (first | (go_at_call 11; refine (H11X.out _).mono ?_; rintro e w5 ⟨rfl, hb1⟩))
          refine abs_e (fun w' => Below w4.heap.size w4 w') (by assumption) ?_
          clear hb1 hBr
          rintro w6 hB6
          go_wp2
          go_region_held3 (fun w' => Below w4.heap.size w4 w') (first | assumption | exact below_step (by assumption) (below_drew (Below.refl _ _)) | exact below_step (by assumption) hb1)
            (first | (go_at_call 17; refine (H17X.out _).mono ?_; rintro e w5 ⟨rfl, hb1⟩))
          refine abs_e (fun w' => Below w4.heap.size w4 w') (by assumption) ?_
          clear hb1 hB6
          rintro w7 hB7
          go_wp2
          go_roundw
          case rel => exact ⟨k + 1, by omega, by go_num, hB7⟩
          case measure => simp [intOf]; omega
        · obtain rfl : k = l.length := by omega
          go_wp2_with (go_at_call 9; refine (awake_any _).mono ?_; rintro e w1 ⟨rfl, hb1⟩)
          go_ret
          exact ⟨rfl, below_then HB0.out HB0.out.size (below_step HB4.out (below_step hBr hb1))⟩
end Go.Proofs.Ytmbfnhnemhojjaa
