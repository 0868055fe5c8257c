/- TraceChecks: The step; Check. -/
import Derived.Test.YtepceelkfbjamaaK3
namespace Go.Proofs.Ytepceelkfbjamaa
section
set_option linter.unusedVariables false
set_option linter.unusedSimpArgs false
open Go.RowKit Go.Proofs.YtepceelkfbjamaaW.PrintWords Go.Proofs.YtepceelkfbjamaaW.PrintLast Go.Proofs.YtepceelkfbjamaaW.PrintMore PTraceFilters FLib
attribute [local go_sem ↓] hold_cells hold_from
attribute [local go_sem] below_alloc_T below_drew_T below_drewN_T run_box run_box6

theorem CC.q_ne {T : Nat} {w : World} {q gr cr gb ge : Nat} {s : St} (h : CC T w q gr cr gb ge s) (h3 : T ≠ 3) (h4 : T ≠ 4) : gr ≠ q ∧ gb ≠ q ∧ ge ≠ q ∧ gr ≠ gb ∧ gr ≠ ge := by
  have hA : At w q T [.slice (some ⟨gr, 0, none⟩) s.runs.length cr, .slice (some ⟨gb, 0, none⟩) s.blk.length s.blk.length, .slice (some ⟨ge, 0, none⟩) s.ended.length s.ended.length, .int .i64 s.time] := ⟨[], by simpa using h.hq⟩
  exact ⟨h.hr.ne hA (fun e => h3 e.symm), h.hb.ne hA (fun e => h4 e.symm), h.he.ne hA (fun e => h4 e.symm), h.hr.ne h.hb (by decide), h.hr.ne h.he (by decide)⟩
theorem CC.setTime {T : Nat} {w : World} {q gr cr gb ge : Nat} {s : St} (h : CC T w q gr cr gb ge s) (h3 : T ≠ 3) (h4 : T ≠ 4) (x : Int) : CC T (w.setCell ⟨q, 3, none⟩ (.int .i64 x)) q gr cr gb ge ⟨s.runs, s.blk, s.ended, x⟩ := by
  obtain ⟨n1, n2, n3, -, -⟩ := h.q_ne h3 h4
  exact ⟨by simpa using blk_set h.hq 3 (.int .i64 x), h.hr.set_ne (fun e => n1 e.symm) _, h.hb.set_ne (fun e => n2 e.symm) _, h.he.set_ne (fun e => n3 e.symm) _, h.ne, h.hc⟩
theorem set_far {w : World} {g g' i : Nat} {o : Obj} (h : w.heap[g]? = some o) (hne : g' ≠ g) (u : Value) : (w.setCell ⟨g', i, none⟩ u).heap[g]? = some o := (Below.heap_setCell w ⟨g', i, none⟩ u g (fun e => hne e.symm)).trans h
theorem ints_set (l : List Int) (i : Nat) (x : Int) : (ints l).set i (.int .i64 x) = ints (l.set i x) := by unfold ints; rw [List.map_set]
theorem bools_set (l : List Bool) (i : Nat) (x : Bool) : (bools l).set i (.bool x) = bools (l.set i x) := by unfold bools; rw [List.map_set]
theorem CC.setRun {T : Nat} {w : World} {q gr cr gb ge : Nat} {s : St} (h : CC T w q gr cr gb ge s) (h3 : T ≠ 3) (h4 : T ≠ 4) (i : Nat) (hi : i < s.runs.length) (x : Int) : CC T (w.setCell ⟨gr, i, none⟩ (.int .i64 x)) q gr cr gb ge ⟨s.runs.set i x, s.blk, s.ended, s.time⟩ := by
  obtain ⟨n1, n2, n3, n4, n5⟩ := h.q_ne h3 h4
  refine ⟨by rw [List.length_set]; exact set_far h.hq n1 _, ?_, h.hb.set_ne n4 _, h.he.set_ne n5 _, h.ne, by rw [List.length_set]; exact h.hc⟩
  have := h.hr.set (i := i) (by rw [ints_len]; exact hi) (.int .i64 x)
  rwa [ints_set] at this
theorem CC.setBlk {T : Nat} {w : World} {q gr cr gb ge : Nat} {s : St} (h : CC T w q gr cr gb ge s) (h3 : T ≠ 3) (h4 : T ≠ 4) (i : Nat) (hi : i < s.blk.length) (x : Bool) : CC T (w.setCell ⟨gb, i, none⟩ (.bool x)) q gr cr gb ge ⟨s.runs, s.blk.set i x, s.ended, s.time⟩ := by
  obtain ⟨n1, n2, n3, n4, n5⟩ := h.q_ne h3 h4
  refine ⟨by rw [List.length_set]; exact set_far h.hq n2 _, h.hr.set_ne (fun e => n4 e.symm) _, ?_, h.he.set_ne h.ne _, h.ne, h.hc⟩
  have := h.hb.set (i := i) (by rw [bools_len]; exact hi) (.bool x)
  rwa [bools_set] at this
theorem CC.setEnd {T : Nat} {w : World} {q gr cr gb ge : Nat} {s : St} (h : CC T w q gr cr gb ge s) (h3 : T ≠ 3) (h4 : T ≠ 4) (i : Nat) (hi : i < s.ended.length) (x : Bool) : CC T (w.setCell ⟨ge, i, none⟩ (.bool x)) q gr cr gb ge ⟨s.runs, s.blk, s.ended.set i x, s.time⟩ := by
  obtain ⟨n1, n2, n3, n4, n5⟩ := h.q_ne h3 h4
  refine ⟨by rw [List.length_set]; exact set_far h.hq n3 _, h.hr.set_ne (fun e => n5 e.symm) _, h.hb.set_ne (fun e => h.ne e.symm) _, ?_, h.ne, h.hc⟩
  have := h.he.set (i := i) (by rw [bools_len]; exact hi) (.bool x)
  rwa [bools_set] at this
/-- What a step may turn. -/
def chF (q gr gb ge : Nat) (i : Nat) : Prop := i = q ∨ i = gr ∨ i = gb ∨ i = ge

set_option maxRecDepth 100000 in
set_option maxHeartbeats 3200000 in
theorem step_any (q gr cr gb ge : Nat) (s : St) (hs : StOk s) (e : S47) (hf : Fine s e) (w : World) (hC : CC 115 w q gr cr gb ge s) :
    Calls Try.prog 48 #[.pointer (some ⟨q, 0, none⟩), evV e] w fun x w' => x = .returned (.tuple #[]) ∧ CC 115 w' q gr cr gb ge (stp s e) ∧ Keeps w w' (chF q gr gb ge) := by
  obtain ⟨t0, k, p, t, a, bb⟩ := e
  have hel := hs.el
  have HF := Lib.hid hf
  have HX := Lib.hid (hC.below (below_alloc (Below.refl _ _) (.cells #[.int .i64 t0, .int .i64 k, .int .i64 p, .int .i64 t, .int .i64 a, .int .i64 bb] 47)))
  have HK := Lib.hid ((Keeps.refl w (chF q gr gb ge)).alloc (.cells #[.int .i64 t0, .int .i64 k, .int .i64 p, .int .i64 t, .int .i64 a, .int .i64 bb] 47))
  have HE := Lib.hid (blk_new w (.cells #[.int .i64 t0, .int .i64 k, .int .i64 p, .int .i64 t, .int .i64 a, .int .i64 bb] 47))
  have HNE := Lib.hid (show q ≠ w.heap.size by have := hC.lt; omega)
  clear hf hC
  unfold evV
  go_enter Try.func48, Try.ntmps48
  go_upto_region 1 with (fail)
  generalize w.alloc (.cells #[.int .i64 t0, .int .i64 k, .int .i64 p, .int .i64 t, .int .i64 a, .int .i64 bb] 47) = W at HX HK HE ⊢
  generalize w.heap.size = g at HE HNE ⊢
  have HX1 := Lib.hid (HX.out.setTime (by decide) (by decide) t0)
  have HK1 := Lib.hid (HK.out.set ⟨q, 3, none⟩ (.int .i64 t0) (Or.inl (Or.inl rfl)))
  have HE1 := Lib.hid (set_far (i := 3) HE.out HNE.out (.int .i64 t0))
  have e0 : W.cell? ⟨g, 0, none⟩ = some (.int .i64 t0) := blk_cell HE.out 0
  have z0 := blk_frozen HX.out.hq 3
  have z1 : W.cell? ⟨q, 3, none⟩ = some (.int .i64 s.time) := blk_cell HX.out.hq 3
  go_upto_region 2 with (fail)
  generalize W.setCell ⟨q, 3, none⟩ (.int .i64 t0) = W1 at HX1 HK1 HE1 ⊢
  clear e0 z0 z1 HX HK HE
  have e1 : W1.cell? ⟨g, 1, none⟩ = some (.int .i64 k) := blk_cell HE1.out 1
  have e2 : W1.cell? ⟨g, 2, none⟩ = some (.int .i64 p) := blk_cell HE1.out 2
  have e3 : W1.cell? ⟨g, 3, none⟩ = some (.int .i64 t) := blk_cell HE1.out 3
  have q0 : W1.cell? ⟨q, 0, none⟩ = some (.slice (some ⟨gr, 0, none⟩) s.runs.length cr) := blk_cell HX1.out.hq 0
  have q1 : W1.cell? ⟨q, 1, none⟩ = some (.slice (some ⟨gb, 0, none⟩) s.blk.length s.blk.length) := blk_cell HX1.out.hq 1
  have q2 : W1.cell? ⟨q, 2, none⟩ = some (.slice (some ⟨ge, 0, none⟩) s.ended.length s.ended.length) := blk_cell HX1.out.hq 2
  rw [hel] at q2
  have hk : k = 0 ∨ k = 1 ∨ k = 2 ∨ k = 3 ∨ k = 4 ∨ k = 5 ∨ k = 6 ∨ k = 7 ∨ k = 8 := by
    have : (0 : Int) ≤ k ∧ k < 9 := HF.out.kind
    omega
  rcases hk with rfl | rfl | rfl | rfl | rfl | rfl | rfl | rfl | rfl
  · -- run
    obtain ⟨hp0, hp1⟩ := HF.out.proc rfl
    have hp0 : 0 ≤ p := hp0
    have hp1 : p < (s.runs.length : Int) := hp1
    have u0 := HX1.out.runAt hp0 hp1
    have z0 := HX1.out.hr.frozen p.toNat
    have HPL := Lib.hid (show p.toNat < s.runs.length by omega)
    go_wp2
    refine still_tail 9 (by kernel_rfl) (by kernel_rfl) ?_
    simp only [List.take_succ_cons, List.take_zero, List.drop_succ_cons, List.drop_zero]
    repeat still_step
    refine wpStill_nil ?_
    go_wp2
    go_end0
    exact ⟨rfl, (HX1.out.drewN 1).setRun (by decide) (by decide) _ HPL.out t, (HK1.out.drew).set _ _ (Or.inl (Or.inr (Or.inl rfl)))⟩
  · go_wp2
    go_end0
    exact ⟨rfl, HX1.out, HK1.out⟩
  · -- block
    obtain ⟨ht0, ht1⟩ := thr_in HF.out (show (2 : Int) ≠ 5 by decide) (show (2 : Int) ≠ 0 by decide) (show (2 : Int) ≠ 6 by decide)
    have ht0 : 0 ≤ t := ht0
    have ht1 : t < (s.blk.length : Int) := ht1
    have u0 := HX1.out.blkAt ht0 ht1
    have z0 := HX1.out.hb.frozen t.toNat
    have HPL := Lib.hid (show t.toNat < s.blk.length by omega)
    go_wp2
    refine still_tail 7 (by kernel_rfl) (by kernel_rfl) ?_
    simp only [List.take_succ_cons, List.take_zero, List.drop_succ_cons, List.drop_zero]
    repeat still_step
    refine wpStill_nil ?_
    go_wp2
    go_end0
    exact ⟨rfl, (HX1.out.drewN 1).setBlk (by decide) (by decide) _ HPL.out true, (HK1.out.drew).set _ _ (Or.inl (Or.inr (Or.inr (Or.inl rfl))))⟩
  · -- wake
    obtain ⟨ht0, ht1⟩ := thr_in HF.out (show (3 : Int) ≠ 5 by decide) (show (3 : Int) ≠ 0 by decide) (show (3 : Int) ≠ 6 by decide)
    have ht0 : 0 ≤ t := ht0
    have ht1 : t < (s.blk.length : Int) := ht1
    have u0 := HX1.out.blkAt ht0 ht1
    have z0 := HX1.out.hb.frozen t.toNat
    have HPL := Lib.hid (show t.toNat < s.blk.length by omega)
    go_wp2
    refine still_tail 7 (by kernel_rfl) (by kernel_rfl) ?_
    simp only [List.take_succ_cons, List.take_zero, List.drop_succ_cons, List.drop_zero]
    repeat still_step
    refine wpStill_nil ?_
    go_wp2
    go_end0
    exact ⟨rfl, (HX1.out.drewN 1).setBlk (by decide) (by decide) _ HPL.out false, (HK1.out.drew).set _ _ (Or.inl (Or.inr (Or.inr (Or.inl rfl))))⟩
  · go_wp2
    go_end0
    exact ⟨rfl, HX1.out, HK1.out⟩
  · go_wp2
    go_end0
    exact ⟨rfl, HX1.out, HK1.out⟩
  · go_wp2
    go_end0
    exact ⟨rfl, HX1.out, HK1.out⟩
  · go_wp2
    go_end0
    exact ⟨rfl, HX1.out, HK1.out⟩
  · -- exit
    obtain ⟨ht0, ht1⟩ := thr_in HF.out (show (8 : Int) ≠ 5 by decide) (show (8 : Int) ≠ 0 by decide) (show (8 : Int) ≠ 6 by decide)
    have ht0 : 0 ≤ t := ht0
    have ht1 : t < (s.blk.length : Int) := ht1
    have u0 := HX1.out.endAt ht0 (show t < (s.ended.length : Int) by have := hs.el; omega)
    have z0 := HX1.out.he.frozen t.toNat
    have HPL := Lib.hid (show t.toNat < s.ended.length by have := hs.el; omega)
    go_wp2
    refine still_tail 7 (by kernel_rfl) (by kernel_rfl) ?_
    simp only [List.take_succ_cons, List.take_zero, List.drop_succ_cons, List.drop_zero]
    repeat still_step
    refine wpStill_nil ?_
    go_wp2
    go_end0
    exact ⟨rfl, (HX1.out.drewN 1).setEnd (by decide) (by decide) _ HPL.out true, (HK1.out.drew).set _ _ (Or.inl (Or.inr (Or.inr (Or.inr rfl))))⟩

set_option maxRecDepth 100000 in
set_option maxHeartbeats 3200000 in
theorem change_any (q gr cr gb ge : Nat) (s : St) (hs : StOk s) (e : S47) (hf : Fine s e) (w : World) (hC : CC 118 w q gr cr gb ge s) :
    Calls Try.prog 52 #[.pointer (some ⟨q, 0, none⟩), evV e] w fun x w' => x = .returned (.tuple #[]) ∧ CC 118 w' q gr cr gb ge (stp s e) ∧ Keeps w w' (chF q gr gb ge) := by
  obtain ⟨t0, k, p, t, a, bb⟩ := e
  have hel := hs.el
  have HF := Lib.hid hf
  have HX := Lib.hid (hC.below (below_alloc (Below.refl _ _) (.cells #[.int .i64 t0, .int .i64 k, .int .i64 p, .int .i64 t, .int .i64 a, .int .i64 bb] 49)))
  have HK := Lib.hid ((Keeps.refl w (chF q gr gb ge)).alloc (.cells #[.int .i64 t0, .int .i64 k, .int .i64 p, .int .i64 t, .int .i64 a, .int .i64 bb] 49))
  have HE := Lib.hid (blk_new w (.cells #[.int .i64 t0, .int .i64 k, .int .i64 p, .int .i64 t, .int .i64 a, .int .i64 bb] 49))
  have HNE := Lib.hid (show q ≠ w.heap.size by have := hC.lt; omega)
  clear hf hC
  unfold evV
  go_enter Try.func52, Try.ntmps52
  go_upto_region 1 with (fail)
  generalize w.alloc (.cells #[.int .i64 t0, .int .i64 k, .int .i64 p, .int .i64 t, .int .i64 a, .int .i64 bb] 49) = W at HX HK HE ⊢
  generalize w.heap.size = g at HE HNE ⊢
  have HX1 := Lib.hid (HX.out.setTime (by decide) (by decide) t0)
  have HK1 := Lib.hid (HK.out.set ⟨q, 3, none⟩ (.int .i64 t0) (Or.inl (Or.inl rfl)))
  have HE1 := Lib.hid (set_far (i := 3) HE.out HNE.out (.int .i64 t0))
  have e0 : W.cell? ⟨g, 0, none⟩ = some (.int .i64 t0) := blk_cell HE.out 0
  have z0 := blk_frozen HX.out.hq 3
  have z1 : W.cell? ⟨q, 3, none⟩ = some (.int .i64 s.time) := blk_cell HX.out.hq 3
  go_upto_region 2 with (fail)
  generalize W.setCell ⟨q, 3, none⟩ (.int .i64 t0) = W1 at HX1 HK1 HE1 ⊢
  clear e0 z0 z1 HX HK HE
  have e1 : W1.cell? ⟨g, 1, none⟩ = some (.int .i64 k) := blk_cell HE1.out 1
  have e2 : W1.cell? ⟨g, 2, none⟩ = some (.int .i64 p) := blk_cell HE1.out 2
  have e3 : W1.cell? ⟨g, 3, none⟩ = some (.int .i64 t) := blk_cell HE1.out 3
  have q0 : W1.cell? ⟨q, 0, none⟩ = some (.slice (some ⟨gr, 0, none⟩) s.runs.length cr) := blk_cell HX1.out.hq 0
  have q1 : W1.cell? ⟨q, 1, none⟩ = some (.slice (some ⟨gb, 0, none⟩) s.blk.length s.blk.length) := blk_cell HX1.out.hq 1
  have q2 : W1.cell? ⟨q, 2, none⟩ = some (.slice (some ⟨ge, 0, none⟩) s.ended.length s.ended.length) := blk_cell HX1.out.hq 2
  rw [hel] at q2
  have hk : k = 0 ∨ k = 1 ∨ k = 2 ∨ k = 3 ∨ k = 4 ∨ k = 5 ∨ k = 6 ∨ k = 7 ∨ k = 8 := by
    have : (0 : Int) ≤ k ∧ k < 9 := HF.out.kind
    omega
  rcases hk with rfl | rfl | rfl | rfl | rfl | rfl | rfl | rfl | rfl
  · -- run
    obtain ⟨hp0, hp1⟩ := HF.out.proc rfl
    have hp0 : 0 ≤ p := hp0
    have hp1 : p < (s.runs.length : Int) := hp1
    have u0 := HX1.out.runAt hp0 hp1
    have z0 := HX1.out.hr.frozen p.toNat
    have HPL := Lib.hid (show p.toNat < s.runs.length by omega)
    go_wp2
    refine still_tail 9 (by kernel_rfl) (by kernel_rfl) ?_
    simp only [List.take_succ_cons, List.take_zero, List.drop_succ_cons, List.drop_zero]
    repeat still_step
    refine wpStill_nil ?_
    go_wp2
    go_end0
    exact ⟨rfl, (HX1.out.drewN 1).setRun (by decide) (by decide) _ HPL.out t, (HK1.out.drew).set _ _ (Or.inl (Or.inr (Or.inl rfl)))⟩
  · go_wp2
    go_end0
    exact ⟨rfl, HX1.out, HK1.out⟩
  · -- block
    obtain ⟨ht0, ht1⟩ := thr_in HF.out (show (2 : Int) ≠ 5 by decide) (show (2 : Int) ≠ 0 by decide) (show (2 : Int) ≠ 6 by decide)
    have ht0 : 0 ≤ t := ht0
    have ht1 : t < (s.blk.length : Int) := ht1
    have u0 := HX1.out.blkAt ht0 ht1
    have z0 := HX1.out.hb.frozen t.toNat
    have HPL := Lib.hid (show t.toNat < s.blk.length by omega)
    go_wp2
    refine still_tail 7 (by kernel_rfl) (by kernel_rfl) ?_
    simp only [List.take_succ_cons, List.take_zero, List.drop_succ_cons, List.drop_zero]
    repeat still_step
    refine wpStill_nil ?_
    go_wp2
    go_end0
    exact ⟨rfl, (HX1.out.drewN 1).setBlk (by decide) (by decide) _ HPL.out true, (HK1.out.drew).set _ _ (Or.inl (Or.inr (Or.inr (Or.inl rfl))))⟩
  · -- wake
    obtain ⟨ht0, ht1⟩ := thr_in HF.out (show (3 : Int) ≠ 5 by decide) (show (3 : Int) ≠ 0 by decide) (show (3 : Int) ≠ 6 by decide)
    have ht0 : 0 ≤ t := ht0
    have ht1 : t < (s.blk.length : Int) := ht1
    have u0 := HX1.out.blkAt ht0 ht1
    have z0 := HX1.out.hb.frozen t.toNat
    have HPL := Lib.hid (show t.toNat < s.blk.length by omega)
    go_wp2
    refine still_tail 7 (by kernel_rfl) (by kernel_rfl) ?_
    simp only [List.take_succ_cons, List.take_zero, List.drop_succ_cons, List.drop_zero]
    repeat still_step
    refine wpStill_nil ?_
    go_wp2
    go_end0
    exact ⟨rfl, (HX1.out.drewN 1).setBlk (by decide) (by decide) _ HPL.out false, (HK1.out.drew).set _ _ (Or.inl (Or.inr (Or.inr (Or.inl rfl))))⟩
  · go_wp2
    go_end0
    exact ⟨rfl, HX1.out, HK1.out⟩
  · go_wp2
    go_end0
    exact ⟨rfl, HX1.out, HK1.out⟩
  · go_wp2
    go_end0
    exact ⟨rfl, HX1.out, HK1.out⟩
  · go_wp2
    go_end0
    exact ⟨rfl, HX1.out, HK1.out⟩
  · -- exit
    obtain ⟨ht0, ht1⟩ := thr_in HF.out (show (8 : Int) ≠ 5 by decide) (show (8 : Int) ≠ 0 by decide) (show (8 : Int) ≠ 6 by decide)
    have ht0 : 0 ≤ t := ht0
    have ht1 : t < (s.blk.length : Int) := ht1
    have u0 := HX1.out.endAt ht0 (show t < (s.ended.length : Int) by have := hs.el; omega)
    have z0 := HX1.out.he.frozen t.toNat
    have HPL := Lib.hid (show t.toNat < s.ended.length by have := hs.el; omega)
    go_wp2
    refine still_tail 7 (by kernel_rfl) (by kernel_rfl) ?_
    simp only [List.take_succ_cons, List.take_zero, List.drop_succ_cons, List.drop_zero]
    repeat still_step
    refine wpStill_nil ?_
    go_wp2
    go_end0
    exact ⟨rfl, (HX1.out.drewN 1).setEnd (by decide) (by decide) _ HPL.out true, (HK1.out.drew).set _ _ (Or.inl (Or.inr (Or.inr (Or.inr rfl))))⟩
end
section
set_option linter.unusedVariables false
set_option linter.unusedSimpArgs false
open Go.RowKit Go.Proofs.YtepceelkfbjamaaW.PrintWords Go.Proofs.YtepceelkfbjamaaW.PrintLast Go.Proofs.YtepceelkfbjamaaW.PrintMore PTraceFilters FLib
attribute [local go_sem ↓] hold_cells hold_from
attribute [local go_sem] below_alloc_T below_drew_T below_drewN_T run_box run_box6

def ev (l : List S47) (k : Nat) : S47 := l.getD k z47
theorem ev_get {l : List S47} {k : Nat} (h : k < l.length) : l[k]? = some (ev l k) := by simp [ev, List.getD, h]
theorem ev_mem {l : List S47} {k : Nat} (h : k < l.length) : ev l k ∈ l := List.mem_of_getElem? (ev_get h)
/-- The events of a slice, in every later world. -/
theorem evs_at {W : World} {A : Option Addr} {n : Nat} {l : List S47} (h : Kd.C k47 W A n l) (k : Nat) (hk : k < n) : ∃ ad, A = some ad ∧ (∀ w', Below W.heap.size W w' → RunCells Try.prog (ad.add (k * 6)) 6 w' = .ok #[.int .i64 (ev l k).f0, .int .i64 (ev l k).f1, .int .i64 (ev l k).f2, .int .i64 (ev l k).f3, .int .i64 (ev l k).f4, .int .i64 (ev l k).f5] w') := by
  obtain ⟨ad, c, e, _, hK, hc0⟩ := Kd.C_get h z47 (k : Int) (by omega) (by omega)
  have hc : ∀ j u, c[j]? = some u → W.cell? (ad.add (k * 6 + j)) = some u := hc0
  obtain rfl := k47_open hK
  refine ⟨ad, e, later_run (fun j v hv => ?_) rfl⟩
  rw [show (ad.add (k * 6)).add j = ad.add (k * 6 + j) from ?_]
  · refine hc j v ?_
    rw [← hv]
    simp [ev]
  · unfold Addr.add
    by_cases h1 : k * 6 = 0 <;> by_cases h2 : j = 0 <;> simp [h1, h2, Nat.add_assoc]

theorem below_then' {w w1 w2 : World} {F : Nat → Prop} (h : Below w.heap.size w w1) (hk : Keeps w1 w2 F) (hF : ∀ i, F i → w.heap.size ≤ i) : Below w.heap.size w w2 := h.trans (hk.below h.size hF)
def chkF (s : St) (i : Nat) : List S47 → Int × Int
  | [] => if twB s.runs = true then ((i : Int), 3) else (-1, 0)
  | e :: l => if vio s e = 0 then chkF (stp s e) (i + 1) l else ((i : Int), vio s e)
def s0 (p t : Nat) : St := ⟨List.replicate p (-1), List.replicate t false, List.replicate t false, 0⟩
theorem s0_ok {p t : Nat} (h1 : 1 ≤ p) (h8 : p ≤ 8) (ht : t ≤ 256) : StOk (s0 p t) := ⟨by simpa [s0] using h8, by simpa [s0] using ht, by simp [s0], by simp [s0]; omega⟩
theorem stp_ok {s : St} (h : StOk s) (e : S47) : StOk (stp s e) := by
  obtain ⟨a, b, c, d⟩ := stp_len s e
  exact ⟨by rw [a]; exact h.rl, by rw [b]; exact h.bl, by rw [b, c]; exact h.el, by rw [a]; exact h.rp⟩
theorem drop_ev {l : List S47} {k : Nat} (h : k < l.length) : l.drop k = ev l k :: l.drop (k + 1) := by
  rw [List.drop_eq_getElem_cons h]
  have e := ev_get h
  rw [List.getElem?_eq_getElem h] at e
  injection e with e
  rw [e]
def chkR (l : List S47) (p t : Int) : Int × Int × Int :=
  if p < 1 ∨ 8 < p ∨ t < 0 ∨ 256 < t then (0, 0, 34) else if 20000 < l.length then (0, 0, 18) else ((chkF (s0 p.toNat t.toNat) 0 l).1, (chkF (s0 p.toNat t.toNat) 0 l).2, 0)
def chV (r : Int × Int × Int) : Value := .tuple #[.int .i64 r.1, .int .i64 r.2.1, .int .i64 r.2.2]
theorem chk_range {p t : Int} : (decide (p < 1) = true ∨ (decide (p < 1) = false ∧ decide (8 < p) = true) ∨ (decide (p < 1) = false ∧ decide (8 < p) = false ∧ decide (t < 0) = true) ∨ (decide (p < 1) = false ∧ decide (8 < p) = false ∧ decide (t < 0) = false ∧ decide (256 < t) = true)) ∧ (p < 1 ∨ 8 < p ∨ t < 0 ∨ 256 < t) ∨
    (decide (p < 1) = false ∧ decide (8 < p) = false ∧ decide (t < 0) = false ∧ decide (256 < t) = false) ∧ ¬ (p < 1 ∨ 8 < p ∨ t < 0 ∨ 256 < t) := by
  simp only [decide_eq_true_eq, decide_eq_false_iff_not]
  omega

set_option maxRecDepth 100000 in
set_option maxHeartbeats 6400000 in
theorem check_any (A : Option Addr) (c : Nat) (l : List S47) (p t : Int) (w : World) (hC : Kd.C k47 w A l.length l) :
    Calls Try.prog 29 #[.slice A l.length c, .int .i64 p, .int .i64 t] w fun x w' => x = .returned (chV (chkR l p t)) ∧ Below w.heap.size w w' := by
  have hln := hC.2.1
  have HC := Lib.hid hC
  clear hC
  rcases chk_range (p := p) (t := t) with ⟨hc, hr⟩ | ⟨⟨d1, d2, d3, d4⟩, hr⟩
  · have HR := Lib.hid (show chkR l p t = (0, 0, 34) by unfold chkR; rw [if_pos hr])
    clear hr
    rcases hc with d1 | ⟨d1, d2⟩ | ⟨d1, d2, d3⟩ | ⟨d1, d2, d3, d4⟩
    all_goals
      go_enter Try.func29, Try.ntmps29
      go_wp2
      go_ret3
      exact ⟨by rw [HR.out]; rfl, Below.refl _ _⟩
  by_cases h2 : 20000 < l.length
  · have HR := Lib.hid (show chkR l p t = (0, 0, 18) by unfold chkR; rw [if_neg hr, if_pos h2])
    have d5 : decide ((20000 : Int) < (l.length : Int)) = true := by simp; omega
    clear hr h2
    go_enter Try.func29, Try.ntmps29
    go_wp2
    go_ret3
    exact ⟨by rw [HR.out]; rfl, Below.refl _ _⟩
  have HR := Lib.hid (show chkR l p t = ((chkF (s0 p.toNat t.toNat) 0 l).1, (chkF (s0 p.toNat t.toNat) 0 l).2, 0) by unfold chkR; rw [if_neg hr, if_neg h2])
  have d5 : decide ((20000 : Int) < (l.length : Int)) = false := by simp; omega
  obtain ⟨pn, rfl⟩ := Int.eq_ofNat_of_zero_le (show 0 ≤ p by omega)
  obtain ⟨tn, rfl⟩ := Int.eq_ofNat_of_zero_le (show 0 ≤ t by omega)
  rw [Int.toNat_natCast, Int.toNat_natCast] at HR
  have hlen : (l.length : Int) ≤ 20000 := by omega
  have HS0 := Lib.hid (s0_ok (p := pn) (t := tn) (by omega) (by omega) (by omega))
  have HN := Lib.hid (newChecker_any pn tn (by omega) (by omega) w)
  clear hr h2
  generalize chkR l (pn : Int) (tn : Int) = r at HR ⊢
  go_enter Try.func29, Try.ntmps29
  go_wp2_with fail
  refine HN.out.mono ?_
  rintro x w1 ⟨q, rfl, hCK, hb1⟩
  obtain ⟨gr, cr, gb, ge, hCC, b1, b2, b3, b4⟩ := CK.cc hCK HS0.out.rp
  have HC1 : Hid (CC 115 w1 q gr cr gb ge (s0 pn tn)) := Lib.hid hCC
  have HB1 := Lib.hid hb1
  have HBB : Hid (∀ i, chF q gr gb ge i → w.heap.size ≤ i) := Lib.hid (by rintro i (rfl | rfl | rfl | rfl) <;> assumption)
  generalize s0 pn tn = s at HR HS0 HC1
  clear hCK hb1 hCC b1 b2 b3 b4 HN d1 d2 d3 d4 d5
  go_wp2
  go_loopw [35] (fun i wr => ∃ k : Nat, k ≤ l.length ∧ i = .int .i64 k ∧ (∃ sk, Hid (CC 115 wr q gr cr gb ge sk) ∧ Hid (StOk sk) ∧ Hid (chkF s 0 l = chkF sk k (l.drop k))) ∧ Hid (Below w.heap.size w wr)) (fun i _ => l.length - (intOf i).toNat)
  case atStart => exact ⟨0, Nat.zero_le _, rfl, ⟨s, HC1, HS0, Lib.hid (by rw [List.drop_zero])⟩, HB1⟩
  case round =>
    obtain ⟨k, hk, rfl, ⟨sk, HCk, HSk, HFk⟩, HBk⟩ := hrel
    by_cases hlt : k < l.length
    · obtain ⟨ad, rfl, lk⟩ := evs_at (Kd.C_below HC.out HBk.out) k hlt
      rw [drop_ev hlt] at HFk
      have hi0 : (0 : Int) ≤ (k : Int) := by omega
      have hi1 : (k : Int) < (l.length : Int) := by omega
      have HLT := Lib.hid hlt
      generalize ev l k = e at lk HFk
      have hs := Below.refl wr.heap.size wr
      have HV := Lib.hid (fun w hC => violates_any q gr cr gb ge sk HSk.out e w hC)
      have HST := Lib.hid (fun hf w hC => step_any q gr cr gb ge sk HSk.out e hf w hC)
      unfold evV at HV HST
      obtain ⟨v, hv⟩ : ∃ v, vio sk e = v := ⟨_, rfl⟩
      have HVV := Lib.hid hv
      rw [hv] at HV
      clear hv
      have HCa := Lib.hid (HCk.out.below (below_alloc (Below.refl _ _) (.cells #[.int .i64 e.f0, .int .i64 e.f1, .int .i64 e.f2, .int .i64 e.f3, .int .i64 e.f4, .int .i64 e.f5] 47)))
      have HEa := Lib.hid (blk_new wr (.cells #[.int .i64 e.f0, .int .i64 e.f1, .int .i64 e.f2, .int .i64 e.f3, .int .i64 e.f4, .int .i64 e.f5] 47))
      have HBa := Lib.hid (below_new HBk.out (.cells #[.int .i64 e.f0, .int .i64 e.f1, .int .i64 e.f2, .int .i64 e.f3, .int .i64 e.f4, .int .i64 e.f5] 47))
      go_wp2_with fail
      refine (HV.out _ HCa.out).mono ?_
      rintro x w3 ⟨rfl, hb3⟩
      have HC3 := Lib.hid (HCa.out.below hb3)
      have HE3 := Lib.hid (blk_below HEa.out hb3)
      have HB3 := Lib.hid (below_then HBa.out HBa.out.size hb3)
      clear lk hs hb3 HCa HEa HBa
      rcases int_cases v 0 with ⟨v1, v2, v3⟩ | ⟨v1, v2, v3⟩
      · have HF := Lib.hid (vio_fine (HVV.out.trans v3))
        have HN : Hid (chkF s 0 l = chkF (stp sk e) (k + 1) (l.drop (k + 1))) := Lib.hid (by rw [HFk.out, chkF, if_pos (HVV.out.trans v3)])
        have l1 : RunCells Try.prog ⟨wr.heap.size, 0, none⟩ 6 w3 = _ := runCells_blk (P := Try.prog) (n := 6) HE3.out rfl
        clear v3
        go_wp2_with fail
        refine (HST.out HF.out _ HC3.out).mono ?_
        rintro x w4 ⟨rfl, hC4, hK4⟩
        have HC4 := Lib.hid hC4
        have HB4 := Lib.hid (below_then' HB3.out hK4 HBB.out)
        clear l1 v1 v2 hC4 hK4
        go_wp2
        go_roundw
        case rel => exact ⟨k + 1, by omega, by go_num, ⟨stp sk e, HC4, Lib.hid (stp_ok HSk.out e), HN⟩, HB4⟩
        case measure => simp [intOf]; omega
      · have HN := Lib.hid (show r = ((k : Int), v, 0) by
          rw [HR.out, HFk.out, chkF, if_neg (by rw [HVV.out]; exact v3), HVV.out])
        clear v3
        go_wp2
        go_ret3
        exact ⟨by rw [HN.out]; rfl, HB3.out⟩
    · obtain rfl : k = l.length := by omega
      rw [List.drop_length] at HFk
      have HTW := Lib.hid (twice_any q gr cr gb ge sk HSk.out.rl wr HCk.out)
      obtain ⟨b, hb⟩ : ∃ b, twB sk.runs = b := ⟨_, rfl⟩
      rw [hb] at HTW
      cases b with
      | true =>
        have HN := Lib.hid (show r = ((l.length : Int), 3, 0) by rw [HR.out, HFk.out, chkF, if_pos hb])
        clear hb
        go_wp2_with (go_at_call 49; refine HTW.out.mono ?_; rintro e w' ⟨rfl, rfl⟩)
        go_ret3
        exact ⟨by rw [HN.out]; rfl, HBk.out⟩
      | false =>
        have HN := Lib.hid (show r = (-1, 0, 0) by rw [HR.out, HFk.out, chkF, if_neg (by rw [hb]; decide)])
        clear hb
        go_wp2_with (go_at_call 49; refine HTW.out.mono ?_; rintro e w' ⟨rfl, rfl⟩)
        go_ret3
        exact ⟨by rw [HN.out]; rfl, HBk.out⟩

set_option maxRecDepth 100000 in
set_option maxHeartbeats 6400000 in
theorem rcheck_any (A : Option Addr) (c : Nat) (l : List S47) (p t : Int) (w : World) (hC : Kd.C k47 w A l.length l) :
    Calls Try.prog 30 #[.slice A l.length c, .int .i64 p, .int .i64 t] w fun x w' => x = .returned (chV (chkR l p t)) ∧ Below w.heap.size w w' := by
  have hln := hC.2.1
  have HC := Lib.hid hC
  clear hC
  rcases chk_range (p := p) (t := t) with ⟨hc, hr⟩ | ⟨⟨d1, d2, d3, d4⟩, hr⟩
  · have HR := Lib.hid (show chkR l p t = (0, 0, 34) by unfold chkR; rw [if_pos hr])
    clear hr
    rcases hc with d1 | ⟨d1, d2⟩ | ⟨d1, d2, d3⟩ | ⟨d1, d2, d3, d4⟩
    all_goals
      go_enter Try.func30, Try.ntmps30
      go_wp2
      go_ret3
      exact ⟨by rw [HR.out]; rfl, Below.refl _ _⟩
  by_cases h2 : 20000 < l.length
  · have HR := Lib.hid (show chkR l p t = (0, 0, 18) by unfold chkR; rw [if_neg hr, if_pos h2])
    have d5 : decide ((20000 : Int) < (l.length : Int)) = true := by simp; omega
    clear hr h2
    go_enter Try.func30, Try.ntmps30
    go_wp2
    go_ret3
    exact ⟨by rw [HR.out]; rfl, Below.refl _ _⟩
  have HR := Lib.hid (show chkR l p t = ((chkF (s0 p.toNat t.toNat) 0 l).1, (chkF (s0 p.toNat t.toNat) 0 l).2, 0) by unfold chkR; rw [if_neg hr, if_neg h2])
  have d5 : decide ((20000 : Int) < (l.length : Int)) = false := by simp; omega
  obtain ⟨pn, rfl⟩ := Int.eq_ofNat_of_zero_le (show 0 ≤ p by omega)
  obtain ⟨tn, rfl⟩ := Int.eq_ofNat_of_zero_le (show 0 ≤ t by omega)
  rw [Int.toNat_natCast, Int.toNat_natCast] at HR
  have hlen : (l.length : Int) ≤ 20000 := by omega
  have HS0 := Lib.hid (s0_ok (p := pn) (t := tn) (by omega) (by omega) (by omega))
  have HN := Lib.hid (fresh_any pn tn (by omega) (by omega) w)
  clear hr h2
  generalize chkR l (pn : Int) (tn : Int) = r at HR ⊢
  go_enter Try.func30, Try.ntmps30
  go_wp2_with fail
  refine HN.out.mono ?_
  rintro x w1 ⟨q, rfl, hCK, hb1⟩
  obtain ⟨gr, cr, gb, ge, hCC, b1, b2, b3, b4⟩ := CK.cc hCK HS0.out.rp
  have HC1 : Hid (CC 118 w1 q gr cr gb ge (s0 pn tn)) := Lib.hid hCC
  have HB1 := Lib.hid hb1
  have HBB : Hid (∀ i, chF q gr gb ge i → w.heap.size ≤ i) := Lib.hid (by rintro i (rfl | rfl | rfl | rfl) <;> assumption)
  generalize s0 pn tn = s at HR HS0 HC1
  clear hCK hb1 hCC b1 b2 b3 b4 HN d1 d2 d3 d4 d5
  go_wp2
  go_loopw [10] (fun i wr => ∃ k : Nat, k ≤ l.length ∧ i = .int .i64 k ∧ (∃ sk, Hid (CC 118 wr q gr cr gb ge sk) ∧ Hid (StOk sk) ∧ Hid (chkF s 0 l = chkF sk k (l.drop k))) ∧ Hid (Below w.heap.size w wr)) (fun i _ => l.length - (intOf i).toNat)
  case atStart => exact ⟨0, Nat.zero_le _, rfl, ⟨s, HC1, HS0, Lib.hid (by rw [List.drop_zero])⟩, HB1⟩
  case round =>
    obtain ⟨k, hk, rfl, ⟨sk, HCk, HSk, HFk⟩, HBk⟩ := hrel
    by_cases hlt : k < l.length
    · obtain ⟨ad, rfl, lk⟩ := evs_at (Kd.C_below HC.out HBk.out) k hlt
      rw [drop_ev hlt] at HFk
      have hi0 : (0 : Int) ≤ (k : Int) := by omega
      have hi1 : (k : Int) < (l.length : Int) := by omega
      have HLT := Lib.hid hlt
      generalize ev l k = e at lk HFk
      have hs := Below.refl wr.heap.size wr
      have HV := Lib.hid (fun w hC => rule_any q gr cr gb ge sk HSk.out e w hC)
      have HST := Lib.hid (fun hf w hC => change_any q gr cr gb ge sk HSk.out e hf w hC)
      unfold evV at HV HST
      obtain ⟨v, hv⟩ : ∃ v, vio sk e = v := ⟨_, rfl⟩
      have HVV := Lib.hid hv
      rw [hv] at HV
      clear hv
      go_wp2_with fail
      refine (HV.out _ HCk.out).mono ?_
      rintro x w3 ⟨rfl, hb3⟩
      have HC3 := Lib.hid (HCk.out.below hb3)
      have HB3 := Lib.hid (below_then HBk.out HBk.out.size hb3)
      have hs3 := hb3
      clear hs hb3
      rcases int_cases v 0 with ⟨v1, v2, v3⟩ | ⟨v1, v2, v3⟩
      · have HF := Lib.hid (vio_fine (HVV.out.trans v3))
        have HN : Hid (chkF s 0 l = chkF (stp sk e) (k + 1) (l.drop (k + 1))) := Lib.hid (by rw [HFk.out, chkF, if_pos (HVV.out.trans v3)])
        clear v3
        go_wp2_with fail
        refine (HST.out HF.out _ HC3.out).mono ?_
        rintro x w4 ⟨rfl, hC4, hK4⟩
        have HC4 := Lib.hid hC4
        have HB4 := Lib.hid (below_then' HB3.out hK4 HBB.out)
        clear v1 v2 hC4 hK4 hs3 lk
        go_wp2
        go_roundw
        case rel => exact ⟨k + 1, by omega, by go_num, ⟨stp sk e, HC4, Lib.hid (stp_ok HSk.out e), HN⟩, HB4⟩
        case measure => simp [intOf]; omega
      · have HN := Lib.hid (show r = ((k : Int), v, 0) by
          rw [HR.out, HFk.out, chkF, if_neg (by rw [HVV.out]; exact v3), HVV.out])
        clear v3
        go_wp2
        go_ret3
        exact ⟨by rw [HN.out]; rfl, HB3.out⟩
    · obtain rfl : k = l.length := by omega
      rw [List.drop_length] at HFk
      have HTW := Lib.hid (rtwice_any q gr cr gb ge sk HSk.out.rl wr HCk.out)
      obtain ⟨b, hb⟩ : ∃ b, twB sk.runs = b := ⟨_, rfl⟩
      rw [hb] at HTW
      cases b with
      | true =>
        have HN := Lib.hid (show r = ((l.length : Int), 3, 0) by rw [HR.out, HFk.out, chkF, if_pos hb])
        clear hb
        go_wp2_with (go_at_call 53; refine HTW.out.mono ?_; rintro e w' ⟨rfl, nn, rfl⟩)
        go_ret3
        exact ⟨by rw [HN.out]; rfl, pw_below_drewN HBk.out _⟩
      | false =>
        have HN := Lib.hid (show r = (-1, 0, 0) by rw [HR.out, HFk.out, chkF, if_neg (by rw [hb]; decide)])
        clear hb
        go_wp2_with (go_at_call 53; refine HTW.out.mono ?_; rintro e w' ⟨rfl, nn, rfl⟩)
        go_ret3
        exact ⟨by rw [HN.out]; rfl, pw_below_drewN HBk.out _⟩
end
end Go.Proofs.Ytepceelkfbjamaa
