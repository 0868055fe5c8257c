/- ResponseSets: the walk of the law. -/
import Derived.Test.YtmbfnhnemhojjaaS9
namespace Go.Proofs.Ytmbfnhnemhojjaa
set_option linter.unusedVariables false
set_option linter.unusedSimpArgs false
open Go.RowKit Go.Proofs.YtmbfnhnemhojjaaW.PrintWords Go.Proofs.YtmbfnhnemhojjaaW.PrintLast Go.Proofs.YtmbfnhnemhojjaaW.PrintMore PResponseCosts FLib
attribute [local go_sem ↓] hold_cells hold_from hold_store24 hold_store36
attribute [local go_sem] below_alloc_T below_drew_T below_drewN_T run_box run_box2 run_box6 run_held24 run_held36'

set_option maxRecDepth 100000 in
set_option maxHeartbeats 3200000 in
theorem sets_law (t : Tab) (ht : t.costs.length = 24) (A : Option Addr) (n c : Nat) (l : List S33) (i : Int) (w : World) (hC : Kd.C k33 w A n l) :
    Calls Try.prog 7 #[tabV t, .slice A n c, .int .i64 i] w fun e w' => e = .returned (.bool true) ∧ Below w.heap.size w w' := by
  obtain rfl := Kd.C_len hC
  have HC := Lib.hid hC
  have H12 := Lib.hid (fromTab_any t ht)
  have H24 := Lib.hid (fun w hC => short_any A l.length c l w hC)
  have H25 := Lib.hid (fun w hC => sens_any t ht A c l i w hC)
  have HTC := Lib.hid (tabC' ht)
  have H26 := Lib.hid (fun A c w hC => rsens_any (tabCells t).toArray t ht (tabC' ht) A c l i w hC)
  have H27 := Lib.hid (fun w hC => order_any A c l w hC)
  have H28 := Lib.hid (fun A c w hC => rorder_any A c l w hC)
  obtain ⟨p, hp⟩ : ∃ p, sensP t l i = p := ⟨_, rfl⟩
  rw [hp] at H25 H26
  obtain ⟨pa, pb⟩ := p
  unfold OrdPost at H27
  unfold ROrdPost at H28
  unfold tabV at H12 H25 ⊢
  generalize (tabCells t).toArray = cs at H12 H25 HTC H26 ⊢
  have hsz := HTC.out.size
  have hone : One cs := HTC.out.one
  generalize ordE l = q at H27 H28
  generalize (if q = 0 then ordL l else []) = out at H27 H28
  have hb0 : Below w.heap.size w (w.alloc (.cells cs 24)) := below_alloc (Below.refl _ _) _
  have l0 := later_whole (P := Try.prog) (n := 26) (blk_new w (.cells cs 24)) hsz
  have HCW := Lib.hid (Kd.C_below HC.out hb0)
  have HB0 := Lib.hid hb0
  clear ht hC hp hb0
  go_enter Try.func7, Try.ntmps7
  go_wp2_with fail
  generalize w.alloc (.cells cs 24) = W at l0 HCW HB0 ⊢
  generalize w.heap.size = g at l0 ⊢
  refine (H24.out _ HCW.out).mono ?_
  rintro e w1 ⟨rfl, hB1⟩
  cases hsh : shortB l with
  | false =>
    clear hsh
    go_wp2_with (go_at_call 9; refine (awake_any _).mono ?_; rintro e w1 ⟨rfl, hb1⟩)
    go_ret
    exact ⟨rfl, below_then HB0.out HB0.out.size (below_step hB1 hb1)⟩
  | true =>
    have hlen : l.length ≤ 20 := by
      unfold shortB at hsh
      rw [Bool.and_eq_true] at hsh
      simpa using hsh.2
    have H13 := Lib.hid (fun w hC => fromTasks_any A c l hlen w hC)
    clear hsh hlen
    go_wp2_with fail
    refine (H25.out _ (Kd.C_below HCW.out hB1)).mono ?_
    rintro e w2 ⟨rfl, hb2⟩
    have hB2 := below_step hB1 hb2
    clear hB1 hb2
    have hs2 := Below.refl w2.heap.size w2
    go_wp2_with fail
    refine (H12.out _).mono ?_
    rintro e w3 ⟨rfl, hb3⟩
    have hB3 := below_step hB2 hb3
    clear hB2 hb3 hs2
    have hs3 := Below.refl w3.heap.size w3
    go_wp2_with fail
    refine (H13.out _ (Kd.C_below HCW.out hB3)).mono ?_
    rintro e w4 ⟨v4, rfl, hR4, hb4⟩
    obtain ⟨A4, c4, rfl⟩ := Kd.R_slice hR4
    have HR4 := Lib.hid (Kd.R_reads' hR4).2.2
    have hB4 := below_step hB3 hb4
    clear hB3 hb4 hs3 hR4
    have hs4 := Below.refl w4.heap.size w4
    go_wp2_with fail
    refine (H26.out A4 c4 _ HR4.out).mono ?_
    rintro e w5 ⟨rfl, hb5⟩
    have hB5 := below_step hB4 hb5
    clear hB4 hb5 hs4 HR4
    have hs5 := Below.refl w5.heap.size w5
    go_wp2_with fail
    refine (H27.out _ (Kd.C_below HCW.out hB5)).mono ?_
    rintro e w6 ⟨v6, b6, rfl, hR6, hb6⟩
    obtain ⟨A6, c6, rfl⟩ := Kd.R_slice hR6
    have HR6 := Lib.hid (Kd.R_reads' hR6).2.2
    have hB6 := below_step hB5 hb6
    clear hB5 hb6 hs5 hR6
    have hs6 := Below.refl w6.heap.size w6
    go_wp2_with fail
    refine (H13.out _ (Kd.C_below HCW.out hB6)).mono ?_
    rintro e w7 ⟨v7, rfl, hR7, hb7⟩
    obtain ⟨A7, c7, rfl⟩ := Kd.R_slice hR7
    have HR7 := Lib.hid (Kd.R_reads' hR7).2.2
    have HS6 := Lib.hid (Kd.C_below HR6.out hb7)
    have hB7 := below_step hB6 hb7
    clear hB6 hb7 hs6 hR7 HR6
    have hs7 := Below.refl w7.heap.size w7
    go_wp2_with fail
    refine (H28.out A7 c7 _ HR7.out).mono ?_
    rintro e w8 ⟨v8, b8, rfl, hR8, hb8⟩
    obtain ⟨A8, c8, rfl⟩ := Kd.R_slice hR8
    have HS8 := Lib.hid (Kd.R_reads' hR8).2.2
    have HS6 := Lib.hid (Kd.C_below HS6.out hb8)
    have hB8 := below_step hB7 hb8
    clear hB7 hb8 hs7 hR8 HR7
    have hs8 := Below.refl w8.heap.size w8
    have hol := HS6.out.2.1
    go_wp2
    go_loopw [15] (fun i wr => ∃ k : Nat, k ≤ out.length ∧ i = .int .i64 k ∧ Below w8.heap.size w8 wr) (fun i _ => out.length - (intOf i).toNat)
    case atStart => exact ⟨0, Nat.zero_le _, rfl, Below.refl _ _⟩
    case round =>
      obtain ⟨k, hk, rfl, hBr⟩ := hrel
      by_cases hlt : k < out.length
      · obtain ⟨a6, rfl, p6, -⟩ := tasks_at (Kd.C_below HS6.out hBr) k hlt
        obtain ⟨a8, rfl, p8, -⟩ := tasks_at (Kd.C_below HS8.out hBr) k hlt
        have hi0 : (0 : Int) ≤ (k : Int) := by omega
        have hi1 : (k : Int) < (out.length : Int) := by omega
        have hs := Below.refl wr.heap.size wr
        generalize tk out k = x at p6 p8
        go_wp2
        go_quiet (fail)
        go_wp2
        go_roundw
        case rel => exact ⟨k + 1, by omega, by go_num, pw_below_drewN hBr _⟩
        case measure => simp [intOf]; omega
      · obtain rfl : k = out.length := by omega
        go_wp2_with (go_at_call 9; refine (awake_any _).mono ?_; rintro e w1 ⟨rfl, hb1⟩)
        go_ret
        exact ⟨rfl, below_then HB0.out HB0.out.size (below_step hB8 (below_step hBr hb1))⟩
end Go.Proofs.Ytmbfnhnemhojjaa
