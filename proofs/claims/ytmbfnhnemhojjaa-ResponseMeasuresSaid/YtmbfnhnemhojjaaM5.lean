/- ResponseMeasures: the walk of the law. -/
import Derived.Test.YtmbfnhnemhojjaaM4
namespace Go.Proofs.Ytmbfnhnemhojjaa
set_option linter.unusedVariables false
set_option linter.unusedSimpArgs false
open Go.RowKit Go.Proofs.YtmbfnhnemhojjaaW.PrintWords Go.Proofs.YtmbfnhnemhojjaaW.PrintLast Go.Proofs.YtmbfnhnemhojjaaW.PrintMore PResponseCosts FLib
attribute [local go_sem ↓] hold_cells hold_from hold_store24 hold_store36
attribute [local go_sem] below_alloc_T below_drew_T below_drewN_T run_box run_box2 run_box6 run_held24 run_held36'

theorem ev_all {tr : List S33} (h : ∀ j, j < tr.length → EvOk (tk tr j)) : ∀ x ∈ tr, EvOk x := by
  intro x hx
  obtain ⟨j, hj, rfl⟩ := List.getElem_of_mem hx
  have := h j hj
  have e := tk_get hj
  rw [List.getElem?_eq_getElem hj] at e
  injection e with e
  rwa [e]

set_option maxRecDepth 100000 in
set_option maxHeartbeats 3200000 in
theorem measures_law (t : Tab) (ht : t.costs.length = 24) (A : Option Addr) (n c : Nat) (l : List S33) (B : Option Addr) (m d : Nat) (tr : List S33) (w : World) (hC : Kd.C k33 w A n l) (hD : Kd.C k33 w B m tr) :
    Calls Try.prog 6 #[tabV t, .slice A n c, .slice B m d] w fun e w' => e = .returned (.bool true) ∧ Below w.heap.size w w' := by
  obtain rfl := Kd.C_len hC
  obtain rfl := Kd.C_len hD
  have HC := Lib.hid hC
  have HD := Lib.hid hD
  have H12 := Lib.hid (fromTab_any t ht)
  have H21 := Lib.hid (fun hT hev w hC hD => measure_any t ht A c l B d tr hT hev w hC hD)
  have HTC := Lib.hid (tabC' ht)
  have H22 := Lib.hid (fun A c B d hT hev w hC hD => rmeasure_any (tabCells t).toArray t ht (tabC' ht) A c l B d tr hT hev w hC hD)
  obtain ⟨p, hp⟩ : ∃ p, mo t l tr = p := ⟨_, rfl⟩
  rw [hp] at H21 H22
  obtain ⟨code, out⟩ := p
  unfold MoPost at H21 H22
  unfold tabV at H12 H21 ⊢
  generalize (tabCells t).toArray = cs at H12 H21 HTC H22 ⊢
  have hsz := HTC.out.size
  have hone : One cs := HTC.out.one
  clear ht hC hD hp
  by_cases h20 : 20 < l.length
  · have h : (20 : Int) < (l.length : Int) := by omega
    have d1 : decide ((20 : Int) < (l.length : Int)) = true := by simpa using h
    clear h20
    go_enter Try.func6, Try.ntmps6
    go_wp2_with (go_at_call 9; refine (awake_any _).mono ?_; rintro e w1 ⟨rfl, hb1⟩)
    go_ret
    exact ⟨rfl, below_then (below_alloc (Below.refl _ _) _) (by simp) hb1⟩
  by_cases hT : 300 < tr.length
  · have h : ¬ (20 : Int) < (l.length : Int) := by omega
    have h2 : (300 : Int) < (tr.length : Int) := by omega
    have d1 : decide ((20 : Int) < (l.length : Int)) = false := by simpa using h
    have d2 : decide ((300 : Int) < (tr.length : Int)) = true := by simpa using h2
    clear h20 hT
    go_enter Try.func6, Try.ntmps6
    go_wp2_with (go_at_call 9; refine (awake_any _).mono ?_; rintro e w1 ⟨rfl, hb1⟩)
    go_ret
    exact ⟨rfl, below_then (below_alloc (Below.refl _ _) _) (by simp) hb1⟩
  have h : ¬ (20 : Int) < (l.length : Int) := by omega
  have h2 : ¬ (300 : Int) < (tr.length : Int) := by omega
  have d1 : decide ((20 : Int) < (l.length : Int)) = false := by simpa using h
  have d2 : decide ((300 : Int) < (tr.length : Int)) = false := by simpa using h2
  have hlen : (l.length : Int) ≤ 20 := by omega
  have htr : (tr.length : Int) ≤ 300 := by omega
  have H13 := Lib.hid (fun w hC => fromTasks_any A c l (by omega) w hC)
  have H23 := Lib.hid (fun w hC => fromEvents_any B d tr (by omega) w hC)
  have HT := Lib.hid (show tr.length ≤ 300 by omega)
  clear h20 hT
  go_enter Try.func6, Try.ntmps6
  go_wp2
  clear d1 h d2 h2
  have hb0 : Below w.heap.size w (w.alloc (.cells cs 24)) := below_alloc (Below.refl _ _) _
  have l0 := later_whole (P := Try.prog) (n := 26) (blk_new w (.cells cs 24)) hsz
  have HCW := Lib.hid (Kd.C_below HC.out hb0)
  have HDW := Lib.hid (Kd.C_below HD.out hb0)
  have HB0 := Lib.hid hb0
  clear hb0
  generalize w.alloc (.cells cs 24) = W at l0 HCW HDW HB0 ⊢
  generalize w.heap.size = q at l0 ⊢
  go_loopw [7] (fun i wr => ∃ k : Nat, k ≤ tr.length ∧ i = .int .i64 k ∧ Hid (∀ j, j < k → EvOk (tk tr j)) ∧ Below W.heap.size W wr) (fun i _ => tr.length - (intOf i).toNat)
  case atStart => exact ⟨0, Nat.zero_le _, rfl, Lib.hid (fun j hj => by omega), Below.refl _ _⟩
  case round =>
    obtain ⟨k, hk, rfl, HE, hB⟩ := hrel
    by_cases hlt : k < tr.length
    · obtain ⟨bd, rfl, -, le0, -, -, le5⟩ := task_cells HDW.out k hlt
      have hi0 : (0 : Int) ≤ (k : Int) := by omega
      have hi1 : (k : Int) < (tr.length : Int) := by omega
      obtain ⟨x, hx⟩ : ∃ x, tk tr k = x := ⟨_, rfl⟩
      have HX := Lib.hid hx
      rw [hx] at le0 le5
      clear hx
      have hcase : (decide (20 < x.f5) = true) ∨ (decide (20 < x.f5) = false ∧ decide (x.f5 < 0) = true) ∨ (decide (20 < x.f5) = false ∧ decide (x.f5 < 0) = false ∧ decide (x.f0 < 0) = true) ∨ (decide (20 < x.f5) = false ∧ decide (x.f5 < 0) = false ∧ decide (x.f0 < 0) = false ∧ decide (1099511627776 < x.f0) = true) ∨ ((decide (20 < x.f5) = false ∧ decide (x.f5 < 0) = false ∧ decide (x.f0 < 0) = false ∧ decide (1099511627776 < x.f0) = false) ∧ Hid (EvOk x)) := by
        by_cases p1 : 20 < x.f5
        · left; simpa using p1
        by_cases p2 : x.f5 < 0
        · right; left; exact ⟨by simpa using p1, by simpa using p2⟩
        by_cases p3 : x.f0 < 0
        · right; right; left; exact ⟨by simpa using p1, by simpa using p2, by simpa using p3⟩
        by_cases p4 : 1099511627776 < x.f0
        · right; right; right; left; exact ⟨by simpa using p1, by simpa using p2, by simpa using p3, by simpa using p4⟩
        right; right; right; right
        exact ⟨⟨by simpa using p1, by simpa using p2, by simpa using p3, by simpa using p4⟩, Lib.hid ⟨⟨by omega, by omega⟩, ⟨by omega, by omega⟩⟩⟩
      rcases hcase with p1 | ⟨p1, p2⟩ | ⟨p1, p2, p3⟩ | ⟨p1, p2, p3, p4⟩ | ⟨⟨p1, p2, p3, p4⟩, HOK⟩
      rotate_left 4
      · go_wp2
        go_roundw
        case rel => exact ⟨k + 1, by omega, by go_num, Lib.hid (fun j hj => by
          by_cases e : j = k
          · subst e; rw [HX.out]; exact HOK.out
          · exact HE.out j (by omega)), hB⟩
        case measure => simp [intOf]; omega
      all_goals
        go_wp2_with (go_at_call 9; refine (awake_any _).mono ?_; rintro e w1 ⟨rfl, hb1⟩)
        go_ret
        exact ⟨rfl, below_then HB0.out HB0.out.size (below_step hB hb1)⟩
    · obtain rfl : k = tr.length := by omega
      have HEV := Lib.hid (ev_all HE.out)
      go_wp2_with fail
      refine (H21.out HT.out HEV.out _ (Kd.C_below HCW.out hB) (Kd.C_below HDW.out hB)).mono ?_
      rintro e w1 ⟨v1, rfl, hR1, hb1⟩
      obtain ⟨A1, c1, rfl⟩ := Kd.R_slice hR1
      have hB1 := below_step hB hb1
      have HR1 := Lib.hid (Kd.R_reads' hR1).2.2
      clear hR1 hb1 hB
      have hs1 := Below.refl w1.heap.size w1
      go_wp2_with fail
      refine (H12.out _).mono ?_
      rintro e w2 ⟨rfl, hb2⟩
      have hB2 := below_step hB1 hb2
      have HR2 := Lib.hid (Kd.C_below HR1.out hb2)
      clear hB1 hb2 HR1 hs1
      have hs2 := Below.refl w2.heap.size w2
      go_wp2_with fail
      refine (H13.out _ (Kd.C_below HCW.out hB2)).mono ?_
      rintro e w3 ⟨v3, rfl, hR3, hb3⟩
      obtain ⟨A3, c3, rfl⟩ := Kd.R_slice hR3
      have HT3 := Lib.hid (Kd.R_reads' hR3).2.2
      have hB3 := below_step hB2 hb3
      have HR3 := Lib.hid (Kd.C_below HR2.out hb3)
      clear hB2 hb3 hR3 HR2 hs2
      have hs3 := Below.refl w3.heap.size w3
      go_wp2_with fail
      refine (H23.out _ (Kd.C_below HDW.out hB3)).mono ?_
      rintro e w4 ⟨v4, rfl, hR4, hb4⟩
      obtain ⟨A4, c4, rfl⟩ := Kd.R_slice hR4
      have HE4 := Lib.hid (Kd.R_reads' hR4).2.2
      have HT4 := Lib.hid (Kd.C_below HT3.out hb4)
      have hB4 := below_step hB3 hb4
      have HR4 := Lib.hid (Kd.C_below HR3.out hb4)
      clear hB3 hb4 hR4 HR3 hs3 HT3
      have hs4 := Below.refl w4.heap.size w4
      go_wp2_with fail
      refine (H22.out A3 c3 A4 c4 HT.out HEV.out _ HT4.out HE4.out).mono ?_
      rintro e w5 ⟨v5, rfl, hR5, hb5⟩
      obtain ⟨A5, c5, rfl⟩ := Kd.R_slice hR5
      have HS5 := Lib.hid (Kd.R_reads' hR5).2.2
      have hB5 := below_step hB4 hb5
      have HR5 := Lib.hid (Kd.C_below HR4.out hb5)
      clear hB4 hb5 hR5 HR4 hs4 HT4 HE4
      have hs5 := Below.refl w5.heap.size w5
      have hol := HR5.out.2.1
      go_wp2
      go_loopw [12] (fun i wr => ∃ k : Nat, k ≤ out.length ∧ i = .int .i64 k ∧ Below w5.heap.size w5 wr) (fun i _ => out.length - (intOf i).toNat)
      case atStart => exact ⟨0, Nat.zero_le _, rfl, Below.refl _ _⟩
      case round =>
        obtain ⟨k, hk, rfl, hBr⟩ := hrel
        by_cases hlt : k < out.length
        · obtain ⟨a1, rfl, e1⟩ := Kd.at_int (Kd.C_below HR5.out hBr) (k : Int) (by omega) (by omega)
          obtain ⟨a5, rfl, e5⟩ := Kd.at_int (Kd.C_below HS5.out hBr) (k : Int) (by omega) (by omega)
          have f1 : wr.cell? (a1.add k) = some (.int .i64 (out.getD k 0)) := by simpa [rd] using e1
          have f5 : wr.cell? (a5.add k) = some (.int .i64 (out.getD k 0)) := by simpa [rd] using e5
          have hi0 : (0 : Int) ≤ (k : Int) := by omega
          have hi1 : (k : Int) < (out.length : Int) := by omega
          generalize out.getD k 0 = v at f1 f5
          clear e1 e5
          go_wp2
          go_quiet (fail)
          go_wp2
          go_roundw
          case rel => exact ⟨k + 1, by omega, by go_num, pw_below_drewN hBr _⟩
          case measure => simp [intOf]; omega
        · obtain rfl : k = out.length := by omega
          go_wp2_with (go_at_call 9; refine (awake_any _).mono ?_; rintro e w1 ⟨rfl, hb1⟩)
          go_ret
          exact ⟨rfl, below_then HB0.out HB0.out.size (below_step hB5 (below_step hBr hb1))⟩
end Go.Proofs.Ytmbfnhnemhojjaa
