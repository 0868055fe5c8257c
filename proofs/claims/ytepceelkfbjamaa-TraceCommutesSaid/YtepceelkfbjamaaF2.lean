/- TraceCommutes: the walk of the law: filters commute, and applying one twice changes nothing more. -/
import Derived.Test.YtepceelkfbjamaaF1
namespace Go.Proofs.Ytepceelkfbjamaa
open Go.RowKit Go.Proofs.YtepceelkfbjamaaW.PrintWords Go.Proofs.YtepceelkfbjamaaW.PrintLast Go.Proofs.YtepceelkfbjamaaW.PrintMore PTraceFilters FLib

theorem filter_le (f : Fil) (l : List S47) (h : l.length ≤ 1000000) : (l.filter (accB f)).length ≤ 1000000 := Nat.le_trans (List.length_filter_le _ _) h

set_option maxRecDepth 100000 in
set_option maxHeartbeats 3200000 in
theorem commutes_law (f : Fil) (hf : f.Ok) (g : Fil) (hg : g.Ok) (A : Option Addr) (n c : Nat) (l : List S47) (w : World) (hC : Kd.C k47 w A n l) :
    Calls Try.prog 5 #[filV f, filV g, .slice A n c] w fun e w' => e = .returned (.bool true) ∧ Below w.heap.size w w' := by
  obtain rfl := Kd.C_len hC
  have hm := Kd.C_max hC
  have hlen : (l.length : Int) ≤ 9223372036854775807 := by omega
  have HC := Lib.hid hC
  clear hC
  unfold filV
  by_cases h3 : 300 < (l.length : Int)
  · go_enter Try.func5, Try.ntmps5
    go_wp2_with (go_at_call 10; refine (awake_any _).mono ?_; rintro e w1 ⟨rfl, hb1⟩)
    go_ret
    exact ⟨rfl, below_then (below_alloc (below_alloc (Below.refl _ _) _) _) (by simp; omega) hb1⟩
  · have hn : l.length ≤ 1000000 := by omega
    have hbb := below_alloc (below_alloc (Below.refl w.heap.size w) (filObj f 43)) (filObj g 43)
    have HC0 := Lib.hid (Kd.C_drew (Kd.C_below HC.out hbb))
    have HBB := Lib.hid hbb
    clear hbb
    have tk1 : True := trivial
    have tk2 : True := trivial
    have tk3 : True := trivial
    have tk4 : True := trivial
    go_enter Try.func5, Try.ntmps5
    go_wp2
    go_region_held3 (fun W => W.cell? ⟨w.heap.size, 0, none⟩ = some (.int .u32 f.kinds) ∧ W.cell? ⟨w.heap.size, 1, none⟩ = some (.int .i64 f.thread) ∧ W.cell? ⟨w.heap.size, 2, none⟩ = some (.int .i64 f.processor) ∧ W.cell? ⟨w.heap.size, 3, none⟩ = some (.int .i64 f.lo) ∧ W.cell? ⟨w.heap.size, 4, none⟩ = some (.int .i64 f.hi) ∧
        W.cell? ⟨w.heap.size + 1, 0, none⟩ = some (.int .u32 g.kinds) ∧ W.cell? ⟨w.heap.size + 1, 1, none⟩ = some (.int .i64 g.thread) ∧ W.cell? ⟨w.heap.size + 1, 2, none⟩ = some (.int .i64 g.processor) ∧ W.cell? ⟨w.heap.size + 1, 3, none⟩ = some (.int .i64 g.lo) ∧ W.cell? ⟨w.heap.size + 1, 4, none⟩ = some (.int .i64 g.hi))
      (first
        | go_keep
        | (go_split_ands
           refine ⟨?_, ?_, ?_, ?_, ?_, ?_, ?_, ?_, ?_, ?_⟩
           all_goals first | exact pw_cell_below hb4 (by assumption) | exact pw_cell_below hb3 (by assumption) | exact pw_cell_below hb2 (by assumption) | exact pw_cell_below hb1 (by assumption)))
      (first
        | (go_at_call 23; have _t := tk1; refine (apply_any g hg _ _ _ _ _ HC0.out hn).mono ?_; rintro e w1 ⟨v1, rfl, hR1, hb1⟩; have hn1 := filter_le g l hn; generalize hq1 : l.filter (accB g) = l1 at hR1 hn1; have HQ1 := Lib.hid hq1; clear hq1; obtain ⟨A1, c1, rfl, hC1⟩ := R_slice' hR1; clear tk1)
        | (go_at_call 23; have _t := tk2; refine (apply_any f hf _ _ _ _ _ hC1 hn1).mono ?_; rintro e w2 ⟨v2, rfl, hR2, hb2⟩; have hn2 := filter_le f l1 hn1; generalize hq2 : l1.filter (accB f) = l2 at hR2 hn2; have HQ2 := Lib.hid hq2; clear hq2; obtain ⟨A2, c2, rfl, hC2⟩ := R_slice' hR2; clear tk2)
        | (go_at_call 23; have _t := tk3; refine (apply_any f hf _ _ _ _ _ (Kd.C_below (Kd.C_below HC0.out hb1) hb2) hn).mono ?_; rintro e w3 ⟨v3, rfl, hR3, hb3⟩; have hn3 := filter_le f l hn; generalize hq3 : l.filter (accB f) = l3 at hR3 hn3; have HQ3 := Lib.hid hq3; clear hq3; obtain ⟨A3, c3, rfl, hC3⟩ := R_slice' hR3; clear tk3)
        | (go_at_call 23; have _t := tk4; refine (apply_any g hg _ _ _ _ _ hC3 hn3).mono ?_; rintro e w4 ⟨v4, rfl, hR4, hb4⟩; have hn4 := filter_le g l3 hn3; generalize hq4 : l3.filter (accB g) = l4 at hR4 hn4; have HQ4 := Lib.hid hq4; clear hq4; obtain ⟨A4, c4, rfl, hC4⟩ := R_slice' hR4; clear tk4))
    have hcomm : l4 = l2 := by
      rw [← HQ4.out, ← HQ3.out, ← HQ2.out, ← HQ1.out, List.filter_filter, List.filter_filter]; congr 1; funext x; exact Bool.and_comm _ _
    have hidem : l2.filter (accB f) = l2 := by
      rw [← HQ2.out, List.filter_filter]; congr 1; funext x; exact Bool.and_self _
    subst hcomm
    have e1 := below_then (below_drew HBB.out) HBB.out.size hb1
    have e2 := below_then e1 e1.size hb2
    have e3 := below_then e2 e2.size hb3
    have e4 := below_then e3 e3.size hb4
    have hA0 := Kd.C_below (Kd.C_below hC2 hb3) hb4
    have HE := Lib.hid e4
    have HA := Lib.hid hA0
    have H4 := Lib.hid hC4
    have HI := Lib.hid hidem
    have hfb := blk_below (blk_below (blk_below (blk_below (blk_drew (blk_alloc (blk_new w (filObj f 43)) (filObj g 43))) hb1) hb2) hb3) hb4
    have f0 : w4.cell? ⟨w.heap.size, 0, none⟩ = some (.int .u32 f.kinds) := blk_cell hfb 0
    have f1 : w4.cell? ⟨w.heap.size, 1, none⟩ = some (.int .i64 f.thread) := blk_cell hfb 1
    have f2 : w4.cell? ⟨w.heap.size, 2, none⟩ = some (.int .i64 f.processor) := blk_cell hfb 2
    have f3 : w4.cell? ⟨w.heap.size, 3, none⟩ = some (.int .i64 f.lo) := blk_cell hfb 3
    have f4 : w4.cell? ⟨w.heap.size, 4, none⟩ = some (.int .i64 f.hi) := blk_cell hfb 4
    have tk1 : True := trivial
    have tk2 : True := trivial
    clear hfb hidem e1 e2 e3 e4 hA0 hC1 hC2 hC3 hC4 hR1 hR2 hR3 hR4 hb1 hb2 hb3 hb4 HQ1 HQ2 HQ3 HQ4
    go_wp2_with fail
    refine (from_any _ _ _ _ _ H4.out hn4).mono ?_
    rintro e w5 ⟨v5, rfl, hR5, hb5⟩
    obtain ⟨A5, c5, rfl, hC5⟩ := R_slice' hR5
    go_wp2_with fail
    refine (same_any _ _ _ _ _ _ _ _ (Kd.C_below HA.out hb5) hC5).mono ?_
    rintro e w6 ⟨rfl, hb6⟩
    have g0 := pw_cell_below hb6 (pw_cell_below hb5 f0)
    have g1 := pw_cell_below hb6 (pw_cell_below hb5 f1)
    have g2 := pw_cell_below hb6 (pw_cell_below hb5 f2)
    have g3 := pw_cell_below hb6 (pw_cell_below hb5 f3)
    have g4 := pw_cell_below hb6 (pw_cell_below hb5 f4)
    have HA6 := Lib.hid (Kd.C_below (Kd.C_below HA.out hb5) hb6)
    have h5 := below_then HE.out HE.out.size hb5
    have HE6 := Lib.hid (below_then h5 h5.size hb6)
    clear h5 hb5 hb6 hR5 hC5 f0 f1 f2 f3 f4
    go_wp2_with fail
    refine (apply_any f hf _ _ _ _ _ HA6.out hn4).mono ?_
    rintro e w7 ⟨v7, rfl, hR7, hb7⟩
    rw [HI.out] at hR7
    obtain ⟨A7, c7, rfl, hC7⟩ := R_slice' hR7
    go_wp2_with fail
    refine (from_any _ _ _ _ _ (Kd.C_below HA6.out hb7) hn2).mono ?_
    rintro e w8 ⟨v8, rfl, hR8, hb8⟩
    obtain ⟨A8, c8, rfl, hC8⟩ := R_slice' hR8
    go_wp2_with fail
    refine (same_any _ _ _ _ _ _ _ _ (Kd.C_below hC7 hb8) hC8).mono ?_
    rintro e w9 ⟨rfl, hb9⟩
    have h7 := below_then HE6.out HE6.out.size hb7
    have h8 := below_then h7 h7.size hb8
    have HE9 := Lib.hid (below_then h8 h8.size hb9)
    clear h7 h8 hb7 hb8 hb9 hR7 hC7 hR8 hC8 g0 g1 g2 g3 g4
    go_wp2_with fail
    refine (awake_any _).mono ?_
    rintro e w10 ⟨rfl, hb10⟩
    have HE10 := Lib.hid (below_then HE9.out HE9.out.size hb10)
    clear hb10
    go_wp2
    go_ret
    exact ⟨rfl, HE10.out⟩
end Go.Proofs.Ytepceelkfbjamaa
