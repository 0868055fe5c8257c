/- TraceChecks: The shape of an event. -/
import Derived.Test.YtepceelkfbjamaaK1
import Derived.Deep.DeepCutAuto
namespace Go.Proofs.Ytepceelkfbjamaa
section
set_option linter.unusedVariables false
set_option linter.unusedSimpArgs false
open Go.RowKit Go.Proofs.YtepceelkfbjamaaW.PrintWords Go.Proofs.YtepceelkfbjamaaW.PrintLast Go.Proofs.YtepceelkfbjamaaW.PrintMore PTraceFilters FLib
attribute [local go_sem ↓] hold_cells hold_from
attribute [local go_sem] below_alloc_T below_drew_T below_drewN_T run_box run_box6

/-- The cells of an event's variable at block g. -/
structure EvC (w : World) (g : Nat) (e : S47) : Prop where
  c0 : w.cell? ⟨g, 0, none⟩ = some (.int .i64 e.f0)
  c1 : w.cell? ⟨g, 1, none⟩ = some (.int .i64 e.f1)
  c2 : w.cell? ⟨g, 2, none⟩ = some (.int .i64 e.f2)
  c3 : w.cell? ⟨g, 3, none⟩ = some (.int .i64 e.f3)
  c4 : w.cell? ⟨g, 4, none⟩ = some (.int .i64 e.f4)
theorem EvC.drewN {w : World} {g : Nat} {e : S47} (h : EvC w g e) (n : Nat) : EvC (w.drewN n) g e := ⟨h.c0, h.c1, h.c2, h.c3, h.c4⟩
theorem EvC.of {w : World} {g T : Nat} {e : S47} (h : w.heap[g]? = some (.cells #[.int .i64 e.f0, .int .i64 e.f1, .int .i64 e.f2, .int .i64 e.f3, .int .i64 e.f4, .int .i64 e.f5] T (0, 0))) : EvC w g e :=
  ⟨blk_cell h 0, blk_cell h 1, blk_cell h 2, blk_cell h 3, blk_cell h 4⟩

set_option maxRecDepth 100000 in
set_option maxHeartbeats 3200000 in
theorem shaped_any (q rl bl rc bc : Nat) (A B : Option Addr) (e : S47) (w : World) (h0 : w.cell? ⟨q, 0, none⟩ = some (.slice A rl rc)) (h1 : w.cell? ⟨q, 1, none⟩ = some (.slice B bl bc)) (hq : q < w.heap.size) :
    Calls Try.prog 60 #[.pointer (some ⟨q, 0, none⟩), evV e] w fun x w' => x = .returned (.bool (shB rl bl e)) ∧ Below w.heap.size w w' := by
  obtain ⟨b0, hb0⟩ : ∃ b, isK e.f1 = b := ⟨_, rfl⟩
  have HK := Lib.hid (isKind_eq e.f1 b0 hb0)
  have HB0 := Lib.hid hb0
  clear hb0
  have hbx := below_alloc (Below.refl w.heap.size w) (.cells #[.int .i64 e.f0, .int .i64 e.f1, .int .i64 e.f2, .int .i64 e.f3, .int .i64 e.f4, .int .i64 e.f5] 47)
  have HE := Lib.hid (EvC.of (blk_new w (.cells #[.int .i64 e.f0, .int .i64 e.f1, .int .i64 e.f2, .int .i64 e.f3, .int .i64 e.f4, .int .i64 e.f5] 47)))
  have H0 := Lib.hid (pw_cell_below hbx h0)
  have H1 := Lib.hid (pw_cell_below hbx h1)
  have HB := Lib.hid hbx
  have HNE : Hid (w.heap.size ≠ q) := Lib.hid (by omega)
  clear h0 h1 hq hbx
  unfold evV
  cases b0 with
  | false =>
    have HF := Lib.hid (show shB rl bl e = false by unfold shB; rw [HB0.out]; rfl)
    go_enter Try.func60, Try.ntmps60
    go_wp2_with (go_at_call 35; refine (HK.out _).mono ?_; rintro e w' ⟨rfl, rfl⟩)
    go_ret
    exact ⟨by rw [HF.out]; rfl, HB.out⟩
  | true =>
    have HSH := Lib.hid (show shB rl bl e = (prB rl e && (thB bl e || ((e.f3 == -1) && ((e.f1 == 0) || (e.f1 == 6))))) by unfold shB; rw [HB0.out]; rfl)
    go_enter Try.func60, Try.ntmps60
    go_upto_region 3 with (go_at_call 35; refine (HK.out _).mono ?_; rintro e w' ⟨rfl, rfl⟩)
    generalize w.alloc (.cells #[.int .i64 e.f0, .int .i64 e.f1, .int .i64 e.f2, .int .i64 e.f3, .int .i64 e.f4, .int .i64 e.f5] 47) = W at HE H0 H1 HB ⊢
    generalize w.heap.size = g at HE HNE ⊢
    have HO : Hid (onB rl e.f2 = (decide (0 ≤ e.f2) && decide (e.f2 < (rl : Int)))) := Lib.hid rfl
    have HP : Hid (prB rl e = if e.f1 = 0 then onB rl e.f2 else if e.f1 = 1 then onB rl e.f2 || (e.f2 == -1) else (e.f2 == -1)) := Lib.hid rfl
    generalize onB rl e.f2 = b at HO HP
    generalize prB rl e = p at HP HSH
    go_cut [5] (fun v5 wc => v5 = .bool b ∧ ∃ n, wc = W.drewN n)
    case first =>
      have e2 := HE.out.c2
      have f0 := H0.out
      by_cases d0 : 0 ≤ e.f2
      · have d1 : decide (0 ≤ e.f2) = true := by simpa using d0
        rw [d1, Bool.true_and] at HO
        have d2 : decide (e.f2 < (rl : Int)) = b := HO.out.symm
        clear d0
        cases b <;> (go_quiet (fail); (try go_wp2); go_meet; exact ⟨by first | rfl | trivial, by first | exact ⟨_, rfl⟩ | trivial⟩)
      · have d1 : decide (0 ≤ e.f2) = false := by simpa using d0
        rw [d1, Bool.false_and] at HO
        obtain rfl : b = false := HO.out
        clear d0
        go_quiet (fail)
        try go_wp2
        go_meet
        exact ⟨by first | rfl | trivial, by first | exact ⟨_, rfl⟩ | trivial⟩
    case rest =>
      obtain ⟨rfl, n, rfl⟩ := hcut
      have HE2 : Hid (EvC (W.drewN n) g e) := Lib.hid (HE.out.drewN n)
      have H02 : Hid ((W.drewN n).cell? ⟨q, 0, none⟩ = _) := H0
      have H12 : Hid ((W.drewN n).cell? ⟨q, 1, none⟩ = _) := H1
      have HB2 := Lib.hid (pw_below_drewN HB.out n)
      clear HE H0 H1 HB
      generalize W.drewN n = W2 at HE2 H02 H12 HB2 ⊢
      have e1 := HE2.out.c1
      go_upto_block 0 with (fail)
      have e2 := HE2.out.c2
      have f0 := H02.out
      go_cut [5] (fun v5 wc => v5 = .bool p ∧ ∃ n, wc = W2.drewN n)
      case first =>
        by_cases k0 : e.f1 = 0
        · rw [if_pos k0] at HP
          obtain rfl : p = b := HP.out
          have d0 : (e.f1 == 0) = true := by simpa using k0
          clear k0
          go_wp2
          go_meet
          exact ⟨by first | rfl | trivial, by first | exact ⟨0, rfl⟩ | trivial⟩
        · rw [if_neg k0] at HP
          have d0 : (e.f1 == 0) = false := by simpa using k0
          by_cases k1 : e.f1 = 1
          · rw [if_pos k1] at HP
            have d1 : (e.f1 == 1) = true := by simpa using k1
            clear k0 k1
            cases b with
            | true =>
              obtain rfl : p = true := by simpa using HP.out
              go_wp2
              go_meet
              exact ⟨by first | rfl | trivial, by first | exact ⟨0, rfl⟩ | trivial⟩
            | false =>
              obtain rfl : p = (e.f2 == -1) := by simpa using HP.out
              go_wp2
              go_meet
              exact ⟨by first | rfl | trivial, by first | exact ⟨0, rfl⟩ | trivial⟩
          · rw [if_neg k1] at HP
            obtain rfl : p = (e.f2 == -1) := HP.out
            have d1 : (e.f1 == 1) = false := by simpa using k1
            clear k0 k1
            go_wp2
            go_meet
            exact ⟨by first | rfl | trivial, by first | exact ⟨0, rfl⟩ | trivial⟩
      case rest =>
        obtain ⟨rfl, n2, rfl⟩ := hcut
        have HE3 := Lib.hid (HE2.out.drewN n2)
        have H13 : Hid ((W2.drewN n2).cell? ⟨q, 1, none⟩ = _) := H12
        have HB3 := Lib.hid (pw_below_drewN HB2.out n2)
        clear HE2 H02 H12 HB2 HO HP e1 e2 f0
        generalize W2.drewN n2 = W3 at HE3 H13 HB3 ⊢
        go_upto_region 9 with (fail)
        have HO : Hid (thB bl e = (decide (0 ≤ e.f3) && (decide (e.f3 < (bl : Int)) || ((e.f1 == 5) && decide (e.f3 < 256))))) := Lib.hid rfl
        generalize thB bl e = b3 at HO HSH
        go_cut [6] (fun v6 wc => v6 = .bool b3 ∧ ∃ n, wc = W3.drewN n)
        case first =>
          have e1 := HE3.out.c1
          have e3 := HE3.out.c3
          have f1 := H13.out
          by_cases d0 : 0 ≤ e.f3
          · have d1 : decide (0 ≤ e.f3) = true := by simpa using d0
            rw [d1, Bool.true_and] at HO
            clear d0
            by_cases d2 : e.f3 < (bl : Int)
            · have d3 : decide (e.f3 < (bl : Int)) = true := by simpa using d2
              rw [d3, Bool.true_or] at HO
              obtain rfl : b3 = true := HO.out
              clear d2
              go_quiet (fail)
              try go_wp2
              go_meet
              exact ⟨by first | rfl | trivial, by first | exact ⟨_, rfl⟩ | trivial⟩
            · have d3 : decide (e.f3 < (bl : Int)) = false := by simpa using d2
              rw [d3, Bool.false_or] at HO
              clear d2
              cases k5 : (e.f1 == 5) with
              | false =>
                rw [k5, Bool.false_and] at HO
                obtain rfl : b3 = false := HO.out
                go_quiet (fail)
                try go_wp2
                go_meet
                exact ⟨by first | rfl | trivial, by first | exact ⟨_, rfl⟩ | trivial⟩
              | true =>
                rw [k5, Bool.true_and] at HO
                have d4 : decide (e.f3 < 256) = b3 := HO.out.symm
                cases b3 <;> (go_quiet (fail); (try go_wp2); go_meet; exact ⟨by first | rfl | trivial, by first | exact ⟨_, rfl⟩ | trivial⟩)
          · have d1 : decide (0 ≤ e.f3) = false := by simpa using d0
            rw [d1, Bool.false_and] at HO
            obtain rfl : b3 = false := HO.out
            clear d0
            go_quiet (fail)
            try go_wp2
            go_meet
            exact ⟨by first | rfl | trivial, by first | exact ⟨_, rfl⟩ | trivial⟩
        case rest =>
          obtain ⟨rfl, n3, rfl⟩ := hcut
          have HB4 := Lib.hid (pw_below_drewN HB3.out n3)
          have e1 : (W3.drewN n3).cell? ⟨g, 1, none⟩ = some (.int .i64 e.f1) := HE3.out.c1
          have e3 : (W3.drewN n3).cell? ⟨g, 3, none⟩ = some (.int .i64 e.f3) := HE3.out.c3
          clear HE3 H13 HB3 HO
          generalize W3.drewN n3 = W4 at e1 e3 HB4 ⊢
          cases p with
          | false =>
            go_wp2
            go_ret
            exact ⟨by rw [HSH.out]; rfl, HB4.out⟩
          | true =>
            cases b3 with
            | true =>
              go_wp2
              go_ret
              exact ⟨by rw [HSH.out]; rfl, HB4.out⟩
            | false =>
              cases m : (e.f3 == -1) with
              | false =>
                have HSF := Lib.hid (show shB rl bl e = false by rw [HSH.out, m]; rfl)
                go_wp2
                go_ret
                exact ⟨by rw [HSF.out]; rfl, HB4.out⟩
              | true =>
                cases k0 : (e.f1 == 0) with
                | true =>
                  have HSF := Lib.hid (show shB rl bl e = true by rw [HSH.out, m, k0]; rfl)
                  go_wp2
                  go_ret
                  exact ⟨by rw [HSF.out]; rfl, HB4.out⟩
                | false =>
                  have HSF := Lib.hid (show shB rl bl e = (e.f1 == 6) by rw [HSH.out, m, k0]; simp)
                  go_wp2
                  go_ret
                  exact ⟨by rw [HSF.out]; rfl, HB4.out⟩
end
section
set_option linter.unusedVariables false
set_option linter.unusedSimpArgs false
open Go.RowKit Go.Proofs.YtepceelkfbjamaaW.PrintWords Go.Proofs.YtepceelkfbjamaaW.PrintLast Go.Proofs.YtepceelkfbjamaaW.PrintMore PTraceFilters FLib
attribute [local go_sem ↓] hold_cells hold_from
attribute [local go_sem] below_alloc_T below_drew_T below_drewN_T run_box run_box6

theorem int_cases (x y : Int) : ((x == y) = true ∧ (x != y) = false ∧ x = y) ∨ ((x == y) = false ∧ (x != y) = true ∧ x ≠ y) := by
  by_cases h : x = y
  · left; exact ⟨by simpa using h, by simpa using h, h⟩
  · right; exact ⟨by simpa using h, by simpa using h, h⟩

set_option maxRecDepth 100000 in
set_option maxHeartbeats 6400000 in
theorem form_any (q rl bl rc bc : Nat) (A B : Option Addr) (e : S47) (w : World) (h0 : w.cell? ⟨q, 0, none⟩ = some (.slice A rl rc)) (h1 : w.cell? ⟨q, 2, none⟩ = some (.slice B bl bc)) (hq : q < w.heap.size) (h256 : bl ≤ 256) :
    Calls Try.prog 63 #[.pointer (some ⟨q, 0, none⟩), evV e] w fun x w' => x = .returned (.bool (shB rl bl e)) ∧ Below w.heap.size w w' := by
  obtain ⟨b0, hb0⟩ : ∃ b, isK e.f1 = b := ⟨_, rfl⟩
  have HK := Lib.hid (kind_eq e.f1 b0 hb0)
  have HB0 := Lib.hid hb0
  clear hb0
  have hbx := below_alloc (Below.refl w.heap.size w) (.cells #[.int .i64 e.f0, .int .i64 e.f1, .int .i64 e.f2, .int .i64 e.f3, .int .i64 e.f4, .int .i64 e.f5] 49)
  have HE := Lib.hid (EvC.of (blk_new w (.cells #[.int .i64 e.f0, .int .i64 e.f1, .int .i64 e.f2, .int .i64 e.f3, .int .i64 e.f4, .int .i64 e.f5] 49)))
  have H0 := Lib.hid (pw_cell_below hbx h0)
  have H1 := Lib.hid (pw_cell_below hbx h1)
  have HB := Lib.hid hbx
  have HNE : Hid (w.heap.size ≠ q) := Lib.hid (by omega)
  clear h0 h1 hq hbx
  unfold evV
  have HSH : Hid (shB rl bl e = (b0 && (prB rl e && (thB bl e || ((e.f3 == -1) && ((e.f1 == 0) || (e.f1 == 6))))))) := Lib.hid (by unfold shB; rw [HB0.out])
  have HP : Hid (prB rl e = if e.f1 = 0 then onB rl e.f2 else if e.f1 = 1 then onB rl e.f2 || (e.f2 == -1) else (e.f2 == -1)) := Lib.hid rfl
  have HO : Hid (onB rl e.f2 = (decide (0 ≤ e.f2) && decide (e.f2 < (rl : Int)))) := Lib.hid rfl
  have HT : Hid (thB bl e = (decide (0 ≤ e.f3) && (decide (e.f3 < (bl : Int)) || ((e.f1 == 5) && decide (e.f3 < 256))))) := Lib.hid rfl
  generalize onB rl e.f2 = b at HO HP
  generalize prB rl e = p at HP HSH
  generalize thB bl e = b3 at HT HSH
  generalize shB rl bl e = r at HSH ⊢
  go_enter Try.func63, Try.ntmps63
  go_upto_region 1 with (fail)
  generalize w.alloc (.cells #[.int .i64 e.f0, .int .i64 e.f1, .int .i64 e.f2, .int .i64 e.f3, .int .i64 e.f4, .int .i64 e.f5] 49) = W at HE H0 H1 HB ⊢
  generalize w.heap.size = g at HE HNE ⊢
  go_cut [5] (fun v5 wc => v5 = .bool b ∧ ∃ n, wc = W.drewN n)
  case first =>
    have e2 := HE.out.c2
    have f0 := H0.out
    by_cases d0 : 0 ≤ e.f2
    · have d1 : decide (0 ≤ e.f2) = true := by simpa using d0
      rw [d1, Bool.true_and] at HO
      have d2 : decide (e.f2 < (rl : Int)) = b := HO.out.symm
      clear d0
      cases b <;> (go_quiet (fail); (try go_wp2); go_meet; exact ⟨by first | rfl | trivial, by first | exact ⟨_, rfl⟩ | trivial⟩)
    · have d1 : decide (0 ≤ e.f2) = false := by simpa using d0
      rw [d1, Bool.false_and] at HO
      obtain rfl : b = false := HO.out
      clear d0
      go_quiet (fail)
      try go_wp2
      go_meet
      exact ⟨by first | rfl | trivial, by first | exact ⟨_, rfl⟩ | trivial⟩
  case rest =>
    obtain ⟨rfl, n, rfl⟩ := hcut
    have e1 : (W.drewN n).cell? ⟨g, 1, none⟩ = some (.int .i64 e.f1) := HE.out.c1
    have e2 : (W.drewN n).cell? ⟨g, 2, none⟩ = some (.int .i64 e.f2) := HE.out.c2
    have e3 : (W.drewN n).cell? ⟨g, 3, none⟩ = some (.int .i64 e.f3) := HE.out.c3
    have f1 : (W.drewN n).cell? ⟨q, 2, none⟩ = _ := H1.out
    have HB2 := Lib.hid (pw_below_drewN HB.out n)
    clear HE H0 H1 HB HO
    generalize W.drewN n = W2 at e1 e2 e3 f1 HB2 ⊢
    cases b0 with
    | false =>
      obtain rfl : r = false := HSH.out
      go_wp2_with (go_at_call 36; refine (HK.out _).mono ?_; rintro e w' ⟨rfl, rfl⟩)
      go_ret
      exact ⟨rfl, HB2.out⟩
    | true =>
      rw [Bool.true_and] at HSH
      have hpc : (((e.f1 == 0) = true ∧ (e.f1 != 0) = false ∧ (e.f1 == 1) = false ∧ (e.f1 != 1) = true ∧ b = false) ∨ ((e.f1 == 0) = false ∧ (e.f1 != 0) = true ∧ (e.f1 == 1) = true ∧ (e.f1 != 1) = false ∧ b = false ∧ (e.f2 == -1) = false ∧ (e.f2 != -1) = true) ∨ ((e.f1 == 0) = false ∧ (e.f1 != 0) = true ∧ (e.f1 == 1) = false ∧ (e.f1 != 1) = true ∧ (e.f2 == -1) = false ∧ (e.f2 != -1) = true)) ∧ p = false ∨
        (((e.f1 == 0) = true ∧ (e.f1 != 0) = false ∧ (e.f1 == 1) = false ∧ (e.f1 != 1) = true ∧ b = true) ∨ ((e.f1 == 0) = false ∧ (e.f1 != 0) = true ∧ (e.f1 == 1) = true ∧ (e.f1 != 1) = false ∧ b = true) ∨ ((e.f1 == 0) = false ∧ (e.f1 != 0) = true ∧ (e.f1 == 1) = true ∧ (e.f1 != 1) = false ∧ b = false ∧ (e.f2 == -1) = true ∧ (e.f2 != -1) = false) ∨ ((e.f1 == 0) = false ∧ (e.f1 != 0) = true ∧ (e.f1 == 1) = false ∧ (e.f1 != 1) = true ∧ (e.f2 == -1) = true ∧ (e.f2 != -1) = false)) ∧ p = true := by
        have hp := HP.out
        rcases int_cases e.f1 0 with ⟨a1, a2, a3⟩ | ⟨a1, a2, a3⟩
        · rw [if_pos a3] at hp
          have c1 : (e.f1 == 1) = false := by rw [a3]; rfl
          have c2 : (e.f1 != 1) = true := by rw [a3]; rfl
          cases b
          · left; exact ⟨Or.inl ⟨a1, a2, c1, c2, rfl⟩, hp⟩
          · right; exact ⟨Or.inl ⟨a1, a2, c1, c2, rfl⟩, hp⟩
        · rw [if_neg a3] at hp
          rcases int_cases e.f1 1 with ⟨c1, c2, c3⟩ | ⟨c1, c2, c3⟩
          · rw [if_pos c3] at hp
            cases b
            · rw [Bool.false_or] at hp
              rcases int_cases e.f2 (-1) with ⟨m1, m2, m3⟩ | ⟨m1, m2, m3⟩
              · right; exact ⟨Or.inr (Or.inr (Or.inl ⟨a1, a2, c1, c2, rfl, m1, m2⟩)), hp.trans m1⟩
              · left; exact ⟨Or.inr (Or.inl ⟨a1, a2, c1, c2, rfl, m1, m2⟩), hp.trans m1⟩
            · right; exact ⟨Or.inr (Or.inl ⟨a1, a2, c1, c2, rfl⟩), hp⟩
          · rw [if_neg c3] at hp
            rcases int_cases e.f2 (-1) with ⟨m1, m2, m3⟩ | ⟨m1, m2, m3⟩
            · right; exact ⟨Or.inr (Or.inr (Or.inr ⟨a1, a2, c1, c2, m1, m2⟩)), hp.trans m1⟩
            · left; exact ⟨Or.inr (Or.inr ⟨a1, a2, c1, c2, m1, m2⟩), hp.trans m1⟩
      clear HP
      rcases hpc with ⟨hpc, rfl⟩ | ⟨hpc, rfl⟩
      · obtain rfl : r = false := HSH.out
        rcases hpc with ⟨a1, a2, c1, c2, rfl⟩ | ⟨a1, a2, c1, c2, rfl, m1, m2⟩ | ⟨a1, a2, c1, c2, m1, m2⟩
        all_goals
          go_wp2_with (go_at_call 36; refine (HK.out _).mono ?_; rintro e w' ⟨rfl, rfl⟩)
          go_ret
          exact ⟨rfl, HB2.out⟩
      · rw [Bool.true_and] at HSH
        have htc : ((e.f1 == 5) = true ∧ ((decide (0 ≤ e.f3) = false ∧ r = false) ∨ (decide (0 ≤ e.f3) = true ∧ decide (e.f3 < 256) = r))) ∨
            ((e.f1 == 5) = false ∧ ((decide (0 ≤ e.f3) = true ∧ decide (e.f3 < (bl : Int)) = true ∧ r = true) ∨ (decide (0 ≤ e.f3) = true ∧ decide (e.f3 < (bl : Int)) = false ∧ (e.f3 == -1) = false ∧ r = false) ∨
              (decide (0 ≤ e.f3) = false ∧ (e.f3 == -1) = false ∧ r = false) ∨ (decide (0 ≤ e.f3) = false ∧ (e.f3 == -1) = true ∧ (e.f1 == 0) = true ∧ r = true) ∨ (decide (0 ≤ e.f3) = false ∧ (e.f3 == -1) = true ∧ (e.f1 == 0) = false ∧ (e.f1 == 6) = r))) := by
          have hr := HSH.out
          rw [HT.out] at hr
          rcases int_cases e.f1 5 with ⟨k1, k2, k3⟩ | ⟨k1, k2, k3⟩
          · left
            refine ⟨k1, ?_⟩
            have c0 : (e.f1 == 0) = false := by rw [k3]; rfl
            have c6 : (e.f1 == 6) = false := by rw [k3]; rfl
            rw [k1, c0, c6] at hr
            by_cases d0 : 0 ≤ e.f3
            · right
              have d1 : decide (0 ≤ e.f3) = true := by simpa using d0
              refine ⟨d1, ?_⟩
              rw [d1] at hr
              rw [hr]
              by_cases d2 : e.f3 < (bl : Int)
              · have : e.f3 < 256 := by omega
                simp [d2, this]
              · simp [d2]
            · left
              have d1 : decide (0 ≤ e.f3) = false := by simpa using d0
              rw [d1] at hr
              exact ⟨d1, by simpa using hr⟩
          · right
            refine ⟨k1, ?_⟩
            rw [k1] at hr
            by_cases d0 : 0 ≤ e.f3
            · have d1 : decide (0 ≤ e.f3) = true := by simpa using d0
              have m : (e.f3 == -1) = false := by rw [beq_eq_false_iff_ne]; omega
              rw [d1, m] at hr
              by_cases d2 : e.f3 < (bl : Int)
              · have d3 : decide (e.f3 < (bl : Int)) = true := by simpa using d2
                rw [d3] at hr
                left; exact ⟨d1, d3, by simpa using hr⟩
              · have d3 : decide (e.f3 < (bl : Int)) = false := by simpa using d2
                rw [d3] at hr
                right; left; exact ⟨d1, d3, m, by simpa using hr⟩
            · have d1 : decide (0 ≤ e.f3) = false := by simpa using d0
              rw [d1] at hr
              cases m : (e.f3 == -1) with
              | false => rw [m] at hr; right; right; left; exact ⟨d1, rfl, by simpa using hr⟩
              | true =>
                rw [m] at hr
                cases k0 : (e.f1 == 0) with
                | true => rw [k0] at hr; right; right; right; left; exact ⟨d1, rfl, rfl, by simpa using hr⟩
                | false => rw [k0] at hr; right; right; right; right; exact ⟨d1, rfl, rfl, by simpa using hr.symm⟩
        clear HSH HT
        have HTC := Lib.hid htc
        clear htc
        rcases hpc with ⟨a1, a2, c1, c2, rfl⟩ | ⟨a1, a2, c1, c2, rfl⟩ | ⟨a1, a2, c1, c2, rfl, m1, m2⟩ | ⟨a1, a2, c1, c2, m1, m2⟩
        all_goals
          rcases HTC.out with ⟨k5, ⟨d1, rfl⟩ | ⟨d1, d2⟩⟩ | ⟨k5, ⟨d1, d3, rfl⟩ | ⟨d1, d3, m3, rfl⟩ | ⟨d1, m3, rfl⟩ | ⟨d1, m3, k0, rfl⟩ | ⟨d1, m3, k0, k6⟩⟩
        all_goals
          clear HTC
          go_wp2_with (go_at_call 36; refine (HK.out _).mono ?_; rintro e w' ⟨rfl, rfl⟩)
          try (go_quiet (fail); try go_wp2)
          go_ret
          exact ⟨by first | rfl | (rw [← k6]; rfl) | (rw [← d2]; rfl) | (simp [*]; done) | (exfalso; rw [a1] at k0; cases k0) | (exfalso; simp only [beq_iff_eq, beq_eq_false_iff_ne] at *; omega), by first | exact HB2.out | exact pw_below_drewN HB2.out _⟩
end
end Go.Proofs.Ytepceelkfbjamaa
