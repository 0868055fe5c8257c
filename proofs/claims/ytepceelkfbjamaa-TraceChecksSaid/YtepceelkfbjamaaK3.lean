/- TraceChecks: The rule that an event violates. -/
import Derived.Test.YtepceelkfbjamaaK2
namespace Go.Proofs.Ytepceelkfbjamaa
section
set_option linter.unusedVariables false
set_option linter.unusedSimpArgs false
open Go.RowKit Go.Proofs.YtepceelkfbjamaaW.PrintWords Go.Proofs.YtepceelkfbjamaaW.PrintLast Go.Proofs.YtepceelkfbjamaaW.PrintMore PTraceFilters FLib
attribute [local go_sem ↓] hold_cells hold_from
attribute [local go_sem] below_alloc_T below_drew_T below_drewN_T run_box run_box6

theorem CC.drewN {T : Nat} {w : World} {q gr cr gb ge : Nat} {s : St} (h : CC T w q gr cr gb ge s) (n : Nat) : CC T (w.drewN n) q gr cr gb ge s := ⟨h.hq, h.hr, h.hb, h.he, h.ne, h.hc⟩
theorem CC.lt {T : Nat} {w : World} {q gr cr gb ge : Nat} {s : St} (h : CC T w q gr cr gb ge s) : q < w.heap.size := blk_lt h.hq
theorem CC.blkAt {T : Nat} {w : World} {q gr cr gb ge : Nat} {s : St} (h : CC T w q gr cr gb ge s) {i : Int} (h0 : 0 ≤ i) (h1 : i < s.blk.length) : w.cell? ⟨gb, i.toNat, none⟩ = some (.bool (getB s.blk i)) := h.hb.cell (bools_get h0 h1)
theorem CC.endAt {T : Nat} {w : World} {q gr cr gb ge : Nat} {s : St} (h : CC T w q gr cr gb ge s) {i : Int} (h0 : 0 ≤ i) (h1 : i < s.ended.length) : w.cell? ⟨ge, i.toNat, none⟩ = some (.bool (getB s.ended i)) := h.he.cell (bools_get h0 h1)
theorem CC.runAt {T : Nat} {w : World} {q gr cr gb ge : Nat} {s : St} (h : CC T w q gr cr gb ge s) {i : Int} (h0 : 0 ≤ i) (h1 : i < s.runs.length) : w.cell? ⟨gr, i.toNat, none⟩ = some (.int .i64 (getI s.runs i)) := h.hr.cell (ints_get h0 h1)

set_option maxRecDepth 100000 in
set_option maxHeartbeats 800000 in
/-- Is the thread neither blocked nor ended? -/
theorem free_any (g q gr cr gb ge : Nat) (s : St) (t : Int) (w : World) (hC : CC 115 w q gr cr gb ge s) (hg : w.cell? ⟨g, 0, none⟩ = some (.pointer (some ⟨q, 0, none⟩))) (h0 : 0 ≤ t) (h1 : t < s.blk.length) (h2 : s.ended.length = s.blk.length) :
    Calls Try.prog 61 #[.int .i64 t, .pointer (some ⟨g, 0, none⟩)] w fun x w' => x = .returned (.bool (!(getB s.blk t || getB s.ended t))) ∧ ∃ n, w' = w.drewN n := by
  have q0 := hg
  have q1 : w.cell? ⟨q, 1, none⟩ = some (.slice (some ⟨gb, 0, none⟩) s.blk.length s.blk.length) := blk_cell hC.hq 1
  have q2 : w.cell? ⟨q, 2, none⟩ = some (.slice (some ⟨ge, 0, none⟩) s.ended.length s.ended.length) := blk_cell hC.hq 2
  have q3 := hC.blkAt h0 h1
  have q4 := hC.endAt h0 (by omega)
  obtain ⟨k, rfl⟩ := Int.eq_ofNat_of_zero_le h0
  rw [Int.toNat_natCast] at q3 q4
  rw [h2] at q2
  have HQ := Lib.hid h2
  generalize getB s.blk (k : Int) = a at q3 ⊢
  generalize getB s.ended (k : Int) = b at q4 ⊢
  clear hC hg h2
  cases a with
  | true =>
    go_enter Try.func61, Try.ntmps61
    go_wp2
    try go_quiet (fail)
    try go_wp2
    go_ret
    exact ⟨rfl, by first | exact ⟨0, rfl⟩ | exact ⟨_, rfl⟩⟩
  | false =>
    go_enter Try.func61, Try.ntmps61
    go_wp2
    try go_quiet (fail)
    try go_wp2
    go_ret
    exact ⟨rfl, by first | exact ⟨0, rfl⟩ | exact ⟨_, rfl⟩⟩

theorem two_boxes (w : World) (o o2 : Obj) : ((w.alloc o).alloc o2).heap[w.heap.size]? = some o ∧ ((w.alloc o).alloc o2).heap[w.heap.size + 1]? = some o2 ∧ Below w.heap.size w ((w.alloc o).alloc o2) := by
  have h2 := blk_new (w.alloc o) o2
  rw [show (w.alloc o).heap.size = w.heap.size + 1 by simp] at h2
  exact ⟨blk_alloc (blk_new w o) o2, h2, below_alloc (below_alloc (Below.refl _ _) _) _⟩
/-- What the checker's state must be like. -/
structure StOk (s : St) : Prop where
  rl : s.runs.length ≤ 8
  bl : s.blk.length ≤ 256
  el : s.ended.length = s.blk.length
  rp : 0 < s.runs.length

theorem thr_in {s : St} {e : S47} (h : Fine s e) (h5 : e.f1 ≠ 5) (h0 : e.f1 ≠ 0) (h6 : e.f1 ≠ 6) : 0 ≤ e.f3 ∧ e.f3 < (s.blk.length : Int) := by
  rcases h.thr h5 with h | h
  · exact h
  · omega

set_option maxRecDepth 100000 in
set_option maxHeartbeats 6400000 in
theorem violates_any (q gr cr gb ge : Nat) (s : St) (hs : StOk s) (e : S47) (w : World) (hC : CC 115 w q gr cr gb ge s) :
    Calls Try.prog 47 #[.pointer (some ⟨q, 0, none⟩), evV e] w fun x w' => x = .returned (.int .i64 (vio s e)) ∧ Below w.heap.size w w' := by
  obtain ⟨t0, k, p, t, a, bb⟩ := e
  have hel := hs.el
  have hbl := hs.bl
  have hrl := hs.rl
  obtain ⟨k0, k1, kb⟩ := two_boxes w (.cells #[.pointer (some ⟨q, 0, none⟩)] 95) (.cells #[.int .i64 t0, .int .i64 k, .int .i64 p, .int .i64 t, .int .i64 a, .int .i64 bb] 47)
  have HT := Lib.hid (fun w hC => twice_any q gr cr gb ge s hrl w hC)
  have HSP := Lib.hid (fun w hC => shaped_any q s.runs.length s.blk.length cr s.blk.length (some ⟨gr, 0, none⟩) (some ⟨gb, 0, none⟩) ⟨t0, k, p, t, a, bb⟩ w (blk_cell (CC.hq (T := 115) (gr := gr) (cr := cr) (gb := gb) (ge := ge) (s := s) (w := w) hC) 0) (blk_cell hC.hq 1) hC.lt)
  have HCW := Lib.hid (hC.below kb)
  have HK0 := Lib.hid k0
  have HK1 := Lib.hid k1
  have HB := Lib.hid kb
  have HV : Hid (vio s ⟨t0, k, p, t, a, bb⟩ = if s.time < t0 ∧ twB s.runs = true then 3 else if shB s.runs.length s.blk.length ⟨t0, k, p, t, a, bb⟩ = false then 1 else if t0 < s.time then 2 else if badB s ⟨t0, k, p, t, a, bb⟩ = true then ruleI k else 0) := Lib.hid rfl
  have HFI := Lib.hid (fun h1 h2 => fine_of (s := s) (e := ⟨t0, k, p, t, a, bb⟩) h1 h2)
  clear hC k0 k1 kb
  unfold evV at HSP ⊢
  generalize vio s ⟨t0, k, p, t, a, bb⟩ = r at HV ⊢
  generalize shB s.runs.length s.blk.length ⟨t0, k, p, t, a, bb⟩ = b2 at HV HSP HFI
  go_enter Try.func47, Try.ntmps47
  go_upto_region 1 with (fail)
  generalize hW : (w.alloc (.cells #[.pointer (some ⟨q, 0, none⟩)] 95)).alloc (.cells #[.int .i64 t0, .int .i64 k, .int .i64 p, .int .i64 t, .int .i64 a, .int .i64 bb] 47) = W at HCW HK0 HK1 HB ⊢
  clear hW
  generalize w.heap.size = g at HK0 HK1 ⊢
  obtain ⟨bt, hbt⟩ : ∃ b : Bool, (decide (s.time < t0) && twB s.runs) = b := ⟨_, rfl⟩
  have HBT := Lib.hid hbt
  have HV2 : Hid (r = if bt = true then 3 else if b2 = false then 1 else if t0 < s.time then 2 else if badB s ⟨t0, k, p, t, a, bb⟩ = true then ruleI k else 0) := Lib.hid (by
    rw [HV.out, ← hbt]
    by_cases h1 : s.time < t0 <;> simp [h1])
  clear hbt HV
  go_cut [18] (fun v wc => v = .bool bt ∧ ∃ n, wc = W.drewN n)
  case first =>
    have c0 : W.cell? ⟨g, 0, none⟩ = some (.pointer (some ⟨q, 0, none⟩)) := blk_cell HK0.out 0
    have c1 : W.cell? ⟨g + 1, 0, none⟩ = some (.int .i64 t0) := blk_cell HK1.out 0
    have c2 : W.cell? ⟨q, 3, none⟩ = some (.int .i64 s.time) := blk_cell HCW.out.hq 3
    by_cases h1 : s.time < t0
    · have d1 : decide (s.time < t0) = true := by simpa using h1
      have HX := HBT.out
      rw [d1, Bool.true_and] at HX
      rw [HX] at HT
      clear HX h1
      go_quiet (refine Calls.quiet_of_same ((HT.out _ (by first | exact HCW.out | exact HCW.out.drewN 1 | exact HCW.out.drewN _)).mono fun e w' h => ⟨h.1, h.2.symm⟩))
      try go_wp2
      go_meet
      exact ⟨by first | rfl | trivial, by first | exact ⟨_, rfl⟩ | trivial⟩
    · have d1 : decide (s.time < t0) = false := by simpa using h1
      have HX := HBT.out
      rw [d1, Bool.false_and] at HX
      obtain rfl : false = bt := HX
      clear h1
      go_quiet (fail)
      try go_wp2
      go_meet
      exact ⟨by first | rfl | trivial, by first | exact ⟨_, rfl⟩ | trivial⟩
  case rest =>
    obtain ⟨rfl, n, rfl⟩ := hcut
    have HC2 := Lib.hid (HCW.out.drewN n)
    have HK02 : Hid ((W.drewN n).heap[g]? = _) := HK0
    have HK12 : Hid ((W.drewN n).heap[g + 1]? = _) := HK1
    have HB2 := Lib.hid (pw_below_drewN HB.out n)
    clear HCW HK0 HK1 HB HT HBT
    generalize W.drewN n = W2 at HC2 HK02 HK12 HB2 ⊢
    cases bt with
    | true =>
      rw [if_pos rfl] at HV2
      go_wp2
      go_ret
      exact ⟨by rw [HV2.out]; rfl, HB2.out⟩
    | false =>
      rw [if_neg (by decide)] at HV2
      have c0 : W2.cell? ⟨g, 0, none⟩ = some (.pointer (some ⟨q, 0, none⟩)) := blk_cell HK02.out 0
      have l1 : RunCells Try.prog ⟨g + 1, 0, none⟩ 6 W2 = _ := runCells_blk (P := Try.prog) (n := 6) HK12.out rfl
      go_wp2_with fail
      refine (HSP.out _ HC2.out).mono ?_
      rintro x w3 ⟨rfl, hb3⟩
      have HC3 := Lib.hid (HC2.out.below hb3)
      have HK03 := Lib.hid (blk_below HK02.out hb3)
      have HK13 := Lib.hid (blk_below HK12.out hb3)
      have HB3 := Lib.hid (below_then HB2.out HB2.out.size hb3)
      clear hb3 c0 l1 HC2 HK02 HK12 HB2 HSP
      cases b2 with
      | false =>
        rw [if_pos rfl] at HV2
        go_wp2
        go_ret
        exact ⟨by rw [HV2.out]; rfl, HB3.out⟩
      | true =>
        rw [if_neg (by decide)] at HV2
        have c0 : w3.cell? ⟨g, 0, none⟩ = some (.pointer (some ⟨q, 0, none⟩)) := blk_cell HK03.out 0
        have c1 : w3.cell? ⟨g + 1, 0, none⟩ = some (.int .i64 t0) := blk_cell HK13.out 0
        have c2 : w3.cell? ⟨q, 3, none⟩ = some (.int .i64 s.time) := blk_cell HC3.out.hq 3
        by_cases h1 : t0 < s.time
        · rw [if_pos h1] at HV2
          have d1 : decide (t0 < s.time) = true := by simpa using h1
          clear h1
          go_wp2
          go_quiet (fail)
          go_wp2
          go_ret
          exact ⟨by rw [HV2.out]; rfl, pw_below_drewN HB3.out _⟩
        · rw [if_neg h1] at HV2
          have HF := Lib.hid (HFI.out rfl (by first | exact h1 | omega))
          have d1 : decide (t0 < s.time) = false := by simpa using h1
          clear h1 HFI
          go_wp2
          go_quiet (fail)
          refine abs_e (fun W4 => CC 115 W4 q gr cr gb ge s ∧ W4.heap[g]? = some (.cells #[.pointer (some ⟨q, 0, none⟩)] 95 (0, 0)) ∧ W4.heap[g + 1]? = some (.cells #[.int .i64 t0, .int .i64 k, .int .i64 p, .int .i64 t, .int .i64 a, .int .i64 bb] 47 (0, 0)) ∧ Below w.heap.size w W4) ⟨HC3.out.drewN _, HK03.out, HK13.out, pw_below_drewN HB3.out _⟩ ?_
          clear c0 c1 c2 d1 HC3 HK03 HK13 HB3
          rintro W4 ⟨hc4, hk04, hk14, hb4⟩
          have HC4 := Lib.hid hc4
          have HB4 := Lib.hid hb4
          have c0 : W4.cell? ⟨g, 0, none⟩ = some (.pointer (some ⟨q, 0, none⟩)) := blk_cell hk04 0
          have e1 : W4.cell? ⟨g + 1, 1, none⟩ = some (.int .i64 k) := blk_cell hk14 1
          have e2 : W4.cell? ⟨g + 1, 2, none⟩ = some (.int .i64 p) := blk_cell hk14 2
          have e3 : W4.cell? ⟨g + 1, 3, none⟩ = some (.int .i64 t) := blk_cell hk14 3
          have e4 : W4.cell? ⟨g + 1, 4, none⟩ = some (.int .i64 a) := blk_cell hk14 4
          have q0 : W4.cell? ⟨q, 0, none⟩ = some (.slice (some ⟨gr, 0, none⟩) s.runs.length cr) := blk_cell hc4.hq 0
          have q1 : W4.cell? ⟨q, 1, none⟩ = some (.slice (some ⟨gb, 0, none⟩) s.blk.length s.blk.length) := blk_cell hc4.hq 1
          have q2 : W4.cell? ⟨q, 2, none⟩ = some (.slice (some ⟨ge, 0, none⟩) s.ended.length s.ended.length) := blk_cell hc4.hq 2
          rw [hel] at q2
          have HFREE := Lib.hid (fun h0 h1 w hC hg => free_any g q gr cr gb ge s t w hC hg h0 h1 hel)
          have HG := Lib.hid hk04
          clear hc4 hk04 hk14 hb4
          have hkind := HF.out.kind
          have hk : k = 0 ∨ k = 1 ∨ k = 2 ∨ k = 3 ∨ k = 4 ∨ k = 5 ∨ k = 6 ∨ k = 7 ∨ k = 8 := by
            have : (0 : Int) ≤ k ∧ k < 9 := hkind
            omega
          clear hkind
          rcases hk with rfl | rfl | rfl | rfl | rfl | rfl | rfl | rfl | rfl
          · -- run
            obtain ⟨hp0, hp1⟩ := HF.out.proc rfl
            have hp0 : 0 ≤ p := hp0
            have hp1 : p < (s.runs.length : Int) := hp1
            have u0 := HC4.out.runAt hp0 hp1
            rw [show badB s ⟨t0, 0, p, t, a, bb⟩ = ((a != getI s.runs p) || ((a == t) || ((t != -1) && (getB s.blk t || getB s.ended t)))) from rfl] at HV2
            generalize getI s.runs p = x at u0 HV2
            rcases int_cases a x with ⟨a1, a2, -⟩ | ⟨a1, a2, -⟩
            · rw [a2, Bool.false_or] at HV2
              rcases int_cases a t with ⟨b1, b2, -⟩ | ⟨b1, b2, -⟩
              · rw [b1, Bool.true_or] at HV2
                go_wp2
                go_quiet (fail)
                go_wp2
                go_ret
                exact ⟨by rw [HV2.out]; rfl, pw_below_drewN HB4.out _⟩
              · rw [b1, Bool.false_or] at HV2
                rcases int_cases t (-1) with ⟨m1, m2, -⟩ | ⟨m1, m2, m3⟩
                · rw [m2, Bool.false_and] at HV2
                  go_wp2
                  go_quiet (fail)
                  go_wp2
                  go_ret
                  exact ⟨by rw [HV2.out]; rfl, pw_below_drewN HB4.out _⟩
                · rw [m2, Bool.true_and] at HV2
                  obtain ⟨ht0, ht1⟩ : 0 ≤ t ∧ t < (s.blk.length : Int) := by
                    rcases HF.out.thr (show (0 : Int) ≠ 5 by decide) with h | h
                    · exact h
                    · exact absurd h.1 m3
                  have HX := HFREE.out ht0 ht1
                  obtain ⟨bx, hbx⟩ : ∃ b, (getB s.blk t || getB s.ended t) = b := ⟨_, rfl⟩
                  rw [hbx] at HV2 HX
                  have HX := Lib.hid HX
                  clear hbx m3
                  cases bx <;> (go_wp2; go_quiet (refine Calls.quiet_of (HX.out _ (by first | exact HC4.out | exact HC4.out.drewN 1 | exact HC4.out.drewN _) (by exact c0))); go_wp2; go_ret; exact ⟨by rw [HV2.out]; rfl, pw_below_drewN HB4.out _⟩)
            · rw [a2, Bool.true_or] at HV2
              go_wp2
              go_quiet (fail)
              go_wp2
              go_ret
              exact ⟨by rw [HV2.out]; rfl, pw_below_drewN HB4.out _⟩
          · -- end
            obtain ⟨ht0, ht1⟩ := thr_in HF.out (show (1 : Int) ≠ 5 by decide) (show (1 : Int) ≠ 0 by decide) (show (1 : Int) ≠ 6 by decide)
            have ht0 : 0 ≤ t := ht0
            have ht1 : t < (s.blk.length : Int) := ht1
            have HX := HFREE.out ht0 ht1
            rw [show badB s ⟨t0, 1, p, t, a, bb⟩ = ((getB s.blk t || getB s.ended t) || ((p != -1) && (getI s.runs p != t))) from rfl] at HV2
            obtain ⟨bx, hbx⟩ : ∃ b, (getB s.blk t || getB s.ended t) = b := ⟨_, rfl⟩
            rw [hbx] at HV2 HX
            have HX := Lib.hid HX
            clear hbx
            cases bx with
            | true =>
              rw [Bool.true_or] at HV2
              go_wp2
              go_quiet (refine Calls.quiet_of (HX.out _ (by first | exact HC4.out | exact HC4.out.drewN 1 | exact HC4.out.drewN _) (by exact c0)))
              go_wp2
              go_ret
              exact ⟨by rw [HV2.out]; rfl, pw_below_drewN HB4.out _⟩
            | false =>
              rw [Bool.false_or] at HV2
              rcases int_cases p (-1) with ⟨m1, m2, -⟩ | ⟨m1, m2, m3⟩
              · rw [m2, Bool.false_and] at HV2
                go_wp2
                go_quiet (refine Calls.quiet_of (HX.out _ (by first | exact HC4.out | exact HC4.out.drewN 1 | exact HC4.out.drewN _) (by exact c0)))
                go_wp2
                go_ret
                exact ⟨by rw [HV2.out]; rfl, pw_below_drewN HB4.out _⟩
              · rw [m2, Bool.true_and] at HV2
                obtain ⟨hp0, hp1⟩ := HF.out.proc1 rfl m3
                have hp0 : 0 ≤ p := hp0
                have hp1 : p < (s.runs.length : Int) := hp1
                have u0 := HC4.out.runAt hp0 hp1
                generalize getI s.runs p = x at u0 HV2
                clear m3
                rcases int_cases x t with ⟨b1, b2, -⟩ | ⟨b1, b2, -⟩
                all_goals
                  rw [b2] at HV2
                  go_wp2
                  go_quiet (refine Calls.quiet_of (HX.out _ (by first | exact HC4.out | exact HC4.out.drewN 1 | exact HC4.out.drewN _) (by exact c0)))
                  go_wp2
                  go_ret
                  exact ⟨by rw [HV2.out]; rfl, pw_below_drewN HB4.out _⟩
          · -- block
            obtain ⟨ht0, ht1⟩ := thr_in HF.out (show (2 : Int) ≠ 5 by decide) (show (2 : Int) ≠ 0 by decide) (show (2 : Int) ≠ 6 by decide)
            have HX := HFREE.out ht0 ht1 W4 HC4.out c0
            obtain ⟨bx, hbx⟩ : ∃ b, (getB s.blk t || getB s.ended t) = b := ⟨_, rfl⟩
            rw [hbx] at HX
            have HX := Lib.hid HX
            rw [show badB s ⟨t0, 2, p, t, a, bb⟩ = bx from hbx] at HV2
            clear hbx
            cases bx <;> (go_wp2_with (go_at_call 61; refine HX.out.mono ?_; rintro e w' ⟨rfl, n, rfl⟩); go_ret; exact ⟨by rw [HV2.out]; rfl, pw_below_drewN HB4.out _⟩)
          · -- wake
            obtain ⟨ht0, ht1⟩ := thr_in HF.out (show (3 : Int) ≠ 5 by decide) (show (3 : Int) ≠ 0 by decide) (show (3 : Int) ≠ 6 by decide)
            have u1 := HC4.out.blkAt ht0 ht1
            have u2 := HC4.out.endAt ht0 (by omega)
            rw [show badB s ⟨t0, 3, p, t, a, bb⟩ = (!getB s.blk t || getB s.ended t) from rfl] at HV2
            generalize getB s.blk t = x1 at u1 HV2
            generalize getB s.ended t = x2 at u2 HV2
            cases x1 <;> cases x2 <;> (go_wp2; go_quiet (fail); go_wp2; go_ret; exact ⟨by rw [HV2.out]; rfl, pw_below_drewN HB4.out _⟩)
          · -- priority
            obtain ⟨ht0, ht1⟩ := thr_in HF.out (show (4 : Int) ≠ 5 by decide) (show (4 : Int) ≠ 0 by decide) (show (4 : Int) ≠ 6 by decide)
            have u2 := HC4.out.endAt ht0 (by omega)
            rw [show badB s ⟨t0, 4, p, t, a, bb⟩ = getB s.ended t from rfl] at HV2
            generalize getB s.ended t = x2 at u2 HV2
            cases x2 <;> (go_wp2; go_quiet (fail); go_wp2; go_ret; exact ⟨by rw [HV2.out]; rfl, pw_below_drewN HB4.out _⟩)
          · rw [show badB s ⟨t0, 5, p, t, a, bb⟩ = false from rfl] at HV2
            go_wp2
            go_ret
            exact ⟨by rw [HV2.out]; rfl, HB4.out⟩
          · rw [show badB s ⟨t0, 6, p, t, a, bb⟩ = false from rfl] at HV2
            go_wp2
            go_ret
            exact ⟨by rw [HV2.out]; rfl, HB4.out⟩
          · -- signal
            obtain ⟨ht0, ht1⟩ := thr_in HF.out (show (7 : Int) ≠ 5 by decide) (show (7 : Int) ≠ 0 by decide) (show (7 : Int) ≠ 6 by decide)
            have u2 := HC4.out.endAt ht0 (by omega)
            rw [show badB s ⟨t0, 7, p, t, a, bb⟩ = getB s.ended t from rfl] at HV2
            generalize getB s.ended t = x2 at u2 HV2
            cases x2 <;> (go_wp2; go_quiet (fail); go_wp2; go_ret; exact ⟨by rw [HV2.out]; rfl, pw_below_drewN HB4.out _⟩)
          · -- exit
            obtain ⟨ht0, ht1⟩ := thr_in HF.out (show (8 : Int) ≠ 5 by decide) (show (8 : Int) ≠ 0 by decide) (show (8 : Int) ≠ 6 by decide)
            have u2 := HC4.out.endAt ht0 (by omega)
            rw [show badB s ⟨t0, 8, p, t, a, bb⟩ = getB s.ended t from rfl] at HV2
            generalize getB s.ended t = x2 at u2 HV2
            cases x2 <;> (go_wp2; go_quiet (fail); go_wp2; go_ret; exact ⟨by rw [HV2.out]; rfl, pw_below_drewN HB4.out _⟩)
end
section
set_option linter.unusedVariables false
set_option linter.unusedSimpArgs false
open Go.RowKit Go.Proofs.YtepceelkfbjamaaW.PrintWords Go.Proofs.YtepceelkfbjamaaW.PrintLast Go.Proofs.YtepceelkfbjamaaW.PrintMore PTraceFilters FLib
attribute [local go_sem ↓] hold_cells hold_from
attribute [local go_sem] below_alloc_T below_drew_T below_drewN_T run_box run_box6

set_option maxRecDepth 100000 in
set_option maxHeartbeats 6400000 in
theorem rule_any (q gr cr gb ge : Nat) (s : St) (hs : StOk s) (e : S47) (w : World) (hC : CC 118 w q gr cr gb ge s) :
    Calls Try.prog 51 #[.pointer (some ⟨q, 0, none⟩), evV e] w fun x w' => x = .returned (.int .i64 (vio s e)) ∧ Below w.heap.size w w' := by
  obtain ⟨t0, k, p, t, a, bb⟩ := e
  have hel := hs.el
  have hbl := hs.bl
  have hrl := hs.rl
  have kb : Below w.heap.size w (w.alloc (.cells #[.int .i64 t0, .int .i64 k, .int .i64 p, .int .i64 t, .int .i64 a, .int .i64 bb] 49)) := below_alloc (Below.refl _ _) _
  have k1 := blk_new w (.cells #[.int .i64 t0, .int .i64 k, .int .i64 p, .int .i64 t, .int .i64 a, .int .i64 bb] 49)
  have HT := Lib.hid (fun w hC => rtwice_any q gr cr gb ge s hrl w hC)
  have HSP := Lib.hid (fun w hC => form_any q s.runs.length s.ended.length cr s.ended.length (some ⟨gr, 0, none⟩) (some ⟨ge, 0, none⟩) ⟨t0, k, p, t, a, bb⟩ w (blk_cell (CC.hq (T := 118) (gr := gr) (cr := cr) (gb := gb) (ge := ge) (s := s) (w := w) hC) 0) (blk_cell hC.hq 2) hC.lt (by omega))
  rw [hel] at HSP
  have HCW := Lib.hid (hC.below kb)
  have HK1 := Lib.hid k1
  have HB := Lib.hid kb
  have HV : Hid (vio s ⟨t0, k, p, t, a, bb⟩ = if s.time < t0 ∧ twB s.runs = true then 3 else if shB s.runs.length s.blk.length ⟨t0, k, p, t, a, bb⟩ = false then 1 else if t0 < s.time then 2 else if badB s ⟨t0, k, p, t, a, bb⟩ = true then ruleI k else 0) := Lib.hid rfl
  have HFI := Lib.hid (fun h1 h2 => fine_of (s := s) (e := ⟨t0, k, p, t, a, bb⟩) h1 h2)
  clear hC k1 kb
  unfold evV at HSP ⊢
  generalize vio s ⟨t0, k, p, t, a, bb⟩ = r at HV ⊢
  generalize shB s.runs.length s.blk.length ⟨t0, k, p, t, a, bb⟩ = b2 at HV HSP HFI
  go_enter Try.func51, Try.ntmps51
  go_upto_region 1 with (fail)
  generalize hW : w.alloc (.cells #[.int .i64 t0, .int .i64 k, .int .i64 p, .int .i64 t, .int .i64 a, .int .i64 bb] 49) = W at HCW HK1 HB ⊢
  clear hW
  generalize w.heap.size = g at HK1 ⊢
  obtain ⟨bt, hbt⟩ : ∃ b : Bool, (decide (s.time < t0) && twB s.runs) = b := ⟨_, rfl⟩
  have HBT := Lib.hid hbt
  have HV2 : Hid (r = if bt = true then 3 else if b2 = false then 1 else if t0 < s.time then 2 else if badB s ⟨t0, k, p, t, a, bb⟩ = true then ruleI k else 0) := Lib.hid (by
    rw [HV.out, ← hbt]
    by_cases h1 : s.time < t0 <;> simp [h1])
  clear hbt HV
  go_cut [16] (fun v wc => v = .bool bt ∧ ∃ n, wc = W.drewN n)
  case first =>
    have c1 : W.cell? ⟨g, 0, none⟩ = some (.int .i64 t0) := blk_cell HK1.out 0
    have c2 : W.cell? ⟨q, 3, none⟩ = some (.int .i64 s.time) := blk_cell HCW.out.hq 3
    by_cases h1 : s.time < t0
    · have d1 : decide (s.time < t0) = true := by simpa using h1
      have HX := HBT.out
      rw [d1, Bool.true_and] at HX
      rw [HX] at HT
      clear HX h1
      go_quiet (refine Calls.quiet_of (HT.out _ (by first | exact HCW.out | exact HCW.out.drewN 1 | exact HCW.out.drewN _)))
      try go_wp2
      go_meet
      exact ⟨by first | rfl | trivial, by first | exact ⟨_, rfl⟩ | trivial⟩
    · have d1 : decide (s.time < t0) = false := by simpa using h1
      have HX := HBT.out
      rw [d1, Bool.false_and] at HX
      obtain rfl : false = bt := HX
      clear h1
      go_quiet (fail)
      try go_wp2
      go_meet
      exact ⟨by first | rfl | trivial, by first | exact ⟨_, rfl⟩ | trivial⟩
  case rest =>
    obtain ⟨rfl, n, rfl⟩ := hcut
    have HC2 := Lib.hid (HCW.out.drewN n)
    have HK12 : Hid ((W.drewN n).heap[g]? = _) := HK1
    have HB2 := Lib.hid (pw_below_drewN HB.out n)
    clear HCW HK1 HB HT HBT
    generalize W.drewN n = W2 at HC2 HK12 HB2 ⊢
    cases bt with
    | true =>
      rw [if_pos rfl] at HV2
      go_wp2
      go_ret
      exact ⟨by rw [HV2.out]; rfl, HB2.out⟩
    | false =>
      rw [if_neg (by decide)] at HV2
      have l1 : RunCells Try.prog ⟨g, 0, none⟩ 6 W2 = _ := runCells_blk (P := Try.prog) (n := 6) HK12.out rfl
      go_wp2_with fail
      refine (HSP.out _ HC2.out).mono ?_
      rintro x w3 ⟨rfl, hb3⟩
      have HC3 := Lib.hid (HC2.out.below hb3)
      have HK13 := Lib.hid (blk_below HK12.out hb3)
      have HB3 := Lib.hid (below_then HB2.out HB2.out.size hb3)
      clear hb3 l1 HC2 HK12 HB2 HSP
      cases b2 with
      | false =>
        rw [if_pos rfl] at HV2
        go_wp2
        go_ret
        exact ⟨by rw [HV2.out]; rfl, HB3.out⟩
      | true =>
        rw [if_neg (by decide)] at HV2
        have c1 : w3.cell? ⟨g, 0, none⟩ = some (.int .i64 t0) := blk_cell HK13.out 0
        have c2 : w3.cell? ⟨q, 3, none⟩ = some (.int .i64 s.time) := blk_cell HC3.out.hq 3
        by_cases h1 : t0 < s.time
        · rw [if_pos h1] at HV2
          have d1 : decide (t0 < s.time) = true := by simpa using h1
          clear h1
          go_wp2
          go_quiet (fail)
          go_wp2
          go_ret
          exact ⟨by rw [HV2.out]; rfl, pw_below_drewN HB3.out _⟩
        · rw [if_neg h1] at HV2
          have HF := Lib.hid (HFI.out rfl (by first | exact h1 | omega))
          have d1 : decide (t0 < s.time) = false := by simpa using h1
          clear h1 HFI
          go_wp2
          go_quiet (fail)
          refine abs_e (fun W4 => CC 118 W4 q gr cr gb ge s ∧ W4.heap[g]? = some (.cells #[.int .i64 t0, .int .i64 k, .int .i64 p, .int .i64 t, .int .i64 a, .int .i64 bb] 49 (0, 0)) ∧ Below w.heap.size w W4) ⟨HC3.out.drewN _, HK13.out, pw_below_drewN HB3.out _⟩ ?_
          clear c1 c2 d1 HC3 HK13 HB3
          rintro W4 ⟨hc4, hk14, hb4⟩
          have HC4 := Lib.hid hc4
          have HB4 := Lib.hid hb4
          have e1 : W4.cell? ⟨g, 1, none⟩ = some (.int .i64 k) := blk_cell hk14 1
          have e2 : W4.cell? ⟨g, 2, none⟩ = some (.int .i64 p) := blk_cell hk14 2
          have e3 : W4.cell? ⟨g, 3, none⟩ = some (.int .i64 t) := blk_cell hk14 3
          have e4 : W4.cell? ⟨g, 4, none⟩ = some (.int .i64 a) := blk_cell hk14 4
          have q0 : W4.cell? ⟨q, 0, none⟩ = some (.slice (some ⟨gr, 0, none⟩) s.runs.length cr) := blk_cell hc4.hq 0
          have q1 : W4.cell? ⟨q, 1, none⟩ = some (.slice (some ⟨gb, 0, none⟩) s.blk.length s.blk.length) := blk_cell hc4.hq 1
          have q2 : W4.cell? ⟨q, 2, none⟩ = some (.slice (some ⟨ge, 0, none⟩) s.ended.length s.ended.length) := blk_cell hc4.hq 2
          rw [hel] at q2
          clear hc4 hk14 hb4
          have hkind := HF.out.kind
          have hk : k = 0 ∨ k = 1 ∨ k = 2 ∨ k = 3 ∨ k = 4 ∨ k = 5 ∨ k = 6 ∨ k = 7 ∨ k = 8 := by
            have : (0 : Int) ≤ k ∧ k < 9 := hkind
            omega
          clear hkind
          rcases hk with rfl | rfl | rfl | rfl | rfl | rfl | rfl | rfl | rfl
          · -- run
            obtain ⟨hp0, hp1⟩ := HF.out.proc rfl
            have hp0 : 0 ≤ p := hp0
            have hp1 : p < (s.runs.length : Int) := hp1
            have u0 := HC4.out.runAt hp0 hp1
            rw [show badB s ⟨t0, 0, p, t, a, bb⟩ = ((a != getI s.runs p) || ((a == t) || ((t != -1) && (getB s.blk t || getB s.ended t)))) from rfl] at HV2
            generalize getI s.runs p = x at u0 HV2
            rcases int_cases a x with ⟨a1, a2, a3⟩ | ⟨a1, a2, -⟩
            · rw [a2, Bool.false_or, a3] at HV2
              rw [show (x == t) = (t == x) from Bool.beq_comm] at HV2
              clear a3
              rcases int_cases t x with ⟨b1, b2, -⟩ | ⟨b1, b2, -⟩
              · rw [b1, Bool.true_or] at HV2
                go_wp2
                go_quiet (fail)
                go_wp2
                go_ret
                exact ⟨by rw [HV2.out]; rfl, pw_below_drewN HB4.out _⟩
              · rw [b1, Bool.false_or] at HV2
                rcases int_cases t (-1) with ⟨m1, m2, -⟩ | ⟨m1, m2, m3⟩
                · rw [m2, Bool.false_and] at HV2
                  go_wp2
                  go_quiet (fail)
                  go_wp2
                  go_ret
                  exact ⟨by rw [HV2.out]; rfl, pw_below_drewN HB4.out _⟩
                · rw [m2, Bool.true_and] at HV2
                  obtain ⟨ht0, ht1⟩ : 0 ≤ t ∧ t < (s.blk.length : Int) := by
                    rcases HF.out.thr (show (0 : Int) ≠ 5 by decide) with h | h
                    · exact h
                    · exact absurd h.1 m3
                  have u1 := HC4.out.blkAt ht0 ht1
                  have u2 := HC4.out.endAt ht0 (by omega)
                  generalize getB s.blk t = x1 at u1 HV2
                  generalize getB s.ended t = x2 at u2 HV2
                  clear m3
                  cases x1 <;> cases x2 <;> (go_wp2; go_quiet (fail); go_wp2; go_ret; exact ⟨by rw [HV2.out]; rfl, pw_below_drewN HB4.out _⟩)
            · rw [a2, Bool.true_or] at HV2
              go_wp2
              go_quiet (fail)
              go_wp2
              go_ret
              exact ⟨by rw [HV2.out]; rfl, pw_below_drewN HB4.out _⟩
          · -- end
            obtain ⟨ht0, ht1⟩ := thr_in HF.out (show (1 : Int) ≠ 5 by decide) (show (1 : Int) ≠ 0 by decide) (show (1 : Int) ≠ 6 by decide)
            have ht0 : 0 ≤ t := ht0
            have ht1 : t < (s.blk.length : Int) := ht1
            rw [show badB s ⟨t0, 1, p, t, a, bb⟩ = ((getB s.blk t || getB s.ended t) || ((p != -1) && (getI s.runs p != t))) from rfl] at HV2
            have u1 := HC4.out.blkAt ht0 ht1
            have u2 := HC4.out.endAt ht0 (by omega)
            generalize getB s.blk t = x1 at u1 HV2
            generalize getB s.ended t = x2 at u2 HV2
            rcases int_cases p (-1) with ⟨m1, m2, -⟩ | ⟨m1, m2, m3⟩
            · cases x1 <;> cases x2 <;> (go_wp2; go_quiet (fail); go_wp2; go_ret; exact ⟨by rw [HV2.out, m2]; rfl, pw_below_drewN HB4.out _⟩)
            · obtain ⟨hp0, hp1⟩ := HF.out.proc1 rfl m3
              have hp0 : 0 ≤ p := hp0
              have hp1 : p < (s.runs.length : Int) := hp1
              have u0 := HC4.out.runAt hp0 hp1
              generalize getI s.runs p = x at u0 HV2
              clear m3
              rw [m2, Bool.true_and] at HV2
              rcases int_cases x t with ⟨b1, b2, -⟩ | ⟨b1, b2, -⟩
              all_goals
                rw [b2] at HV2
                cases x1 <;> cases x2 <;> (go_wp2; go_quiet (fail); go_wp2; go_ret; exact ⟨by rw [HV2.out]; rfl, pw_below_drewN HB4.out _⟩)
          · -- block
            obtain ⟨ht0, ht1⟩ := thr_in HF.out (show (2 : Int) ≠ 5 by decide) (show (2 : Int) ≠ 0 by decide) (show (2 : Int) ≠ 6 by decide)
            have ht0 : 0 ≤ t := ht0
            have ht1 : t < (s.blk.length : Int) := ht1
            have u1 := HC4.out.blkAt ht0 ht1
            have u2 := HC4.out.endAt ht0 (by omega)
            rw [show badB s ⟨t0, 2, p, t, a, bb⟩ = (getB s.blk t || getB s.ended t) from rfl] at HV2
            generalize getB s.blk t = x1 at u1 HV2
            generalize getB s.ended t = x2 at u2 HV2
            cases x1 <;> cases x2 <;> (go_wp2; go_ret; exact ⟨by rw [HV2.out]; rfl, HB4.out⟩)
          · -- wake
            obtain ⟨ht0, ht1⟩ := thr_in HF.out (show (3 : Int) ≠ 5 by decide) (show (3 : Int) ≠ 0 by decide) (show (3 : Int) ≠ 6 by decide)
            have ht0 : 0 ≤ t := ht0
            have ht1 : t < (s.blk.length : Int) := ht1
            have u1 := HC4.out.blkAt ht0 ht1
            have u2 := HC4.out.endAt ht0 (by omega)
            rw [show badB s ⟨t0, 3, p, t, a, bb⟩ = (!getB s.blk t || getB s.ended t) from rfl] at HV2
            generalize getB s.blk t = x1 at u1 HV2
            generalize getB s.ended t = x2 at u2 HV2
            cases x1 <;> cases x2 <;> (go_wp2; go_ret; exact ⟨by rw [HV2.out]; rfl, HB4.out⟩)
          · -- priority
            obtain ⟨ht0, ht1⟩ := thr_in HF.out (show (4 : Int) ≠ 5 by decide) (show (4 : Int) ≠ 0 by decide) (show (4 : Int) ≠ 6 by decide)
            have ht0 : 0 ≤ t := ht0
            have ht1 : t < (s.blk.length : Int) := ht1
            have u2 := HC4.out.endAt ht0 (by omega)
            rw [show badB s ⟨t0, 4, p, t, a, bb⟩ = getB s.ended t from rfl] at HV2
            generalize getB s.ended t = x2 at u2 HV2
            cases x2 <;> (go_wp2; go_ret; exact ⟨by rw [HV2.out]; rfl, HB4.out⟩)
          · rw [show badB s ⟨t0, 5, p, t, a, bb⟩ = false from rfl] at HV2
            go_wp2
            go_ret
            exact ⟨by rw [HV2.out]; rfl, HB4.out⟩
          · rw [show badB s ⟨t0, 6, p, t, a, bb⟩ = false from rfl] at HV2
            go_wp2
            go_ret
            exact ⟨by rw [HV2.out]; rfl, HB4.out⟩
          · -- signal
            obtain ⟨ht0, ht1⟩ := thr_in HF.out (show (7 : Int) ≠ 5 by decide) (show (7 : Int) ≠ 0 by decide) (show (7 : Int) ≠ 6 by decide)
            have ht0 : 0 ≤ t := ht0
            have ht1 : t < (s.blk.length : Int) := ht1
            have u2 := HC4.out.endAt ht0 (by omega)
            rw [show badB s ⟨t0, 7, p, t, a, bb⟩ = getB s.ended t from rfl] at HV2
            generalize getB s.ended t = x2 at u2 HV2
            cases x2 <;> (go_wp2; go_ret; exact ⟨by rw [HV2.out]; rfl, HB4.out⟩)
          · -- exit
            obtain ⟨ht0, ht1⟩ := thr_in HF.out (show (8 : Int) ≠ 5 by decide) (show (8 : Int) ≠ 0 by decide) (show (8 : Int) ≠ 6 by decide)
            have ht0 : 0 ≤ t := ht0
            have ht1 : t < (s.blk.length : Int) := ht1
            have u2 := HC4.out.endAt ht0 (by omega)
            rw [show badB s ⟨t0, 8, p, t, a, bb⟩ = getB s.ended t from rfl] at HV2
            generalize getB s.ended t = x2 at u2 HV2
            cases x2 <;> (go_wp2; go_ret; exact ⟨by rw [HV2.out]; rfl, HB4.out⟩)
end
end Go.Proofs.Ytepceelkfbjamaa
