/- Timers: both: Set. -/
import Derived.Test.YtodgbpggkikbcaaMT
namespace Go.Proofs.Ytodgbpggkikbcaa
section
set_option linter.unusedVariables false
set_option linter.unusedSimpArgs false
open Go.RowKit Go.Maps Go.Sort Go.Proofs.YtodgbpggkikbcaaW.PrintWords Go.Proofs.YtodgbpggkikbcaaW.PrintLast Go.Proofs.YtodgbpggkikbcaaW.PrintMore FLib
attribute [local go_sem] below_alloc_T below_drew_T below_drewN_T

theorem set2k {w0 : World} {p mb q B : Nat} {o : Obj} {c1 : Int} {L : Slots} {c2 : Int} {v : Value} {W : World} {L1 : Slots} (h : Mid w0 p mb q B o c1 L1 c2 (rR L) v W) (i f iv tol : Int) {d a b c : Int} (hd : setC L i f iv tol = d) (hs : setV L i f iv tol = .agg #[.int .i64 a, .int .i64 b, .int .i64 c]) :
    Calls Try.prog 35 #[.pointer (some ⟨q, 0, none⟩), .int .i64 i, .agg #[.int .i64 f, .int .i64 iv, .int .i64 tol]] W fun e w' => e = .returned (.tuple #[.agg #[.int .i64 a, .int .i64 b, .int .i64 c], .int .i64 d]) ∧ Mid w0 p mb q B o c1 L1 c2 (rsetR (rR L) i f iv tol) v w' ∧ (∀ (g : Nat) (o' : Obj), W.heap[g]? = some o' → ¬ ROwn q v g → w'.heap[g]? = some o') := by
  have := rset_any q v c2 (rR L) i f iv tol W h.ref
  rw [rR_setC, rR_setV, hs, hd] at this
  refine this.mono ?_
  rintro e w' ⟨he, hT, hk⟩
  exact ⟨he, h.snd hT hk (fun k hk => .inl hk), fun g o' hg hn => hk.blk hg hn⟩

theorem Mid.keeps {w0 : World} {p mb q B : Nat} {o : Obj} {c1 : Int} {L : Slots} {c2 : Int} {R : RSt} {v : Value} {W W' : World} {F : Nat → Prop} (h : Mid w0 p mb q B o c1 L c2 R v W) (hk : Keeps W W' F) (hF : ∀ k, F k → ¬ TOwn p mb L k ∧ ¬ ROwn q v k ∧ k ≠ B ∧ w0.heap.size ≤ k) : Mid w0 p mb q B o c1 L c2 R v W' :=
  ⟨below_keeps h.low hk (fun k hf => (hF k hf).2.2.2), h.set.keep hk (fun k hf => (hF k hf).1), h.ref.keep hk (fun k hf => (hF k hf).2.1), h.own, h.rown, h.sep, hk.blk h.box (fun hf => (hF B hf).2.2.1 rfl), h.bt, h.br⟩
theorem Mid.set3 {w0 : World} {p mb q B : Nat} {o : Obj} {c1 : Int} {L : Slots} {c2 : Int} {R R0 : RSt} {v : Value} {W W0 : World} (h : Mid w0 p mb q B o c1 L c2 R v W) (h0 : Mid w0 p mb q B o c1 L c2 R0 v W0) {N : Nat} (hN : W0.heap.size ≤ N) (a b c : Value) : Mid w0 p mb q B o c1 L c2 R v (((W.setCell ⟨N, 0, none⟩ a).setCell ⟨N, 1, none⟩ b).setCell ⟨N, 2, none⟩ c) :=
  h.keeps (F := fun k => k = N) (((((Keeps.refl W (fun k => k = N)).set ⟨N, 0, none⟩ a (.inl rfl))).set ⟨N, 1, none⟩ b (.inl rfl)).set ⟨N, 2, none⟩ c (.inl rfl)) (fun k e => by
    subst e
    exact ⟨fun e => by have := h0.set.own_lt e; omega, fun e => by have := h0.ref.own_lt e; omega, fun e => by have := blk_lt h0.box; omega, Nat.le_trans h0.low.size hN⟩)

set_option maxRecDepth 100000 in
set_option maxHeartbeats 8000000 in
theorem do_set (w0 : World) (p mb q : Nat) (c : Int) (L : Slots) (v : Value) (x : OpR) (hk : x.k = 1) (hi : (Lit.int .i64 x.i).wf = true) (w : World) (h : Two w0 p mb q c L v w) :
    Calls Try.prog 21 #[.pointer (some ⟨p, 0, none⟩), .pointer (some ⟨q, 0, none⟩), .agg x.arr] w (DoPost w0 p mb q w) := by
  have HM := Lib.hid (h.mid (.cells x.arr 55 (0, 0)))
  have HL := Lib.hid h.ok
  clear h
  obtain ⟨k, i, e0, e1, e2, e3, e4, f, iv, tol, now⟩ := x
  obtain rfl : k = 1 := hk
  simp only [OpR.arr] at HM hi ⊢
  generalize hO : Obj.cells #[.int .i64 1, .int .i64 i, .int .i64 e0, .int .i64 e1, .int .i64 e2, .int .i64 e3, .int .i64 e4, .int .i64 f, .int .i64 iv, .int .i64 tol, .int .i64 now] 55 (0, 0) = O at HM
  obtain ⟨d, hd⟩ : ∃ d : Int, setC L i f iv tol = d := ⟨_, rfl⟩
  obtain ⟨s0, s1, s2, hs⟩ := setV_form L i f iv tol
  have HD := Lib.hid hd
  have HS := Lib.hid hs
  have HI := Lib.hid hi
  have HO := Lib.hid hO
  clear hd hs hi hO
  go_enter Try.func21, Try.ntmps21
  go_wp2_with fail
  rw [HO.out]
  refine (set1d HM.out _ HI.out _ _ _ HD.out HS.out).mono ?_
  rintro e w1 ⟨rfl, hm1⟩
  have H1 := Lib.hid hm1
  clear hm1
  go_wp2
  refine abs_w (fun W => W.heap[w1.heap.size]? = some (.cells #[.int .i64 s0, .int .i64 s1, .int .i64 s2] 30 (0, 0)) ∧ Mid w0 p mb q w.heap.size O c (setL L i f iv tol) c (rR L) v W)
    ⟨blk_new w1 _, H1.out.below (below_alloc (Below.refl _ _) _)⟩ ?_
  rintro W ⟨hq0, hm⟩
  have H3 := Lib.hid (And.intro hq0 hm)
  have hS0 : W.drew.heap[w.heap.size]? = some O := hm.box
  have hBW := blk_lt hm.box
  have hnq0 : ¬ ROwn q v w1.heap.size := fun e => by have := H1.out.ref.own_lt e; omega
  have hq0W := blk_lt hq0
  clear hm hq0
  generalize w1.heap.size = q0 at H3 hnq0 hq0W ⊢
  have HQD := Lib.hid (show W.drew.heap[q0]? = some (.cells #[.int .i64 s0, .int .i64 s1, .int .i64 s2] 30 (0, 0)) from H3.out.1)
  have x1 : ∀ w' : World, w'.heap[w.heap.size]? = some O → w'.cell? ⟨w.heap.size, 1, none⟩ = some (.int .i64 i) := fun w' hw => blk_cell (hw.trans (congrArg some HO.out.symm)) 1
  have x7 : ∀ w' : World, w'.heap[w.heap.size]? = some O → w'.cell? ⟨w.heap.size, 7, none⟩ = some (.int .i64 f) := fun w' hw => blk_cell (hw.trans (congrArg some HO.out.symm)) 7
  have x8 : ∀ w' : World, w'.heap[w.heap.size]? = some O → w'.cell? ⟨w.heap.size, 8, none⟩ = some (.int .i64 iv) := fun w' hw => blk_cell (hw.trans (congrArg some HO.out.symm)) 8
  have x9 : ∀ w' : World, w'.heap[w.heap.size]? = some O → w'.cell? ⟨w.heap.size, 9, none⟩ = some (.int .i64 tol) := fun w' hw => blk_cell (hw.trans (congrArg some HO.out.symm)) 9
  go_region_held3 (fun w' => w'.heap[w.heap.size]? = some O) (first | assumption | exact blk_alloc (by assumption) _ | exact blk_alloc (Mid.box (by assumption)) _ | exact Mid.box (by assumption) | exact blk_below (by assumption) hb3 | exact (set_far3 _ _ _ (by omega)).trans (by assumption))
    (first | (go_at_call 36; refine (spec_any _ _ _ _).mono ?_; rintro e w3 ⟨rfl, hb3⟩)
           | (go_at_call 35; refine (set2k (by first | exact H3.out.2.below (below_step (below_drew (Below.refl _ _)) hb3) | exact H3.out.2.below (below_step (below_alloc (below_drew (Below.refl _ _)) _) hb3) | exact H3.out.2.below (below_alloc (below_step (below_drew (Below.refl _ _)) hb3) _)) _ _ _ _ HD.out HS.out).mono ?_; rintro e w4 ⟨rfl, hm4, hk4⟩
              have hq4 := hk4 q0 (.cells #[.int .i64 s0, .int .i64 s1, .int .i64 s2] 30 (0, 0)) (by first | exact blk_below HQD.out hb3 | exact blk_below (blk_alloc HQD.out _) hb3 | exact blk_alloc (blk_below HQD.out hb3) _) hnq0
              first
                | (have hz := hk4 W.heap.size (.cells #[.int .i64 0, .int .i64 0, .int .i64 0] 86 (0, 0)) (blk_below (blk_new W.drew _) hb3) (fun e => by have := H3.out.2.ref.own_lt e; omega)
                   have hz0 := blk_cell hz 0
                   have hz1 := blk_cell hz 1
                   have hz2 := blk_cell hz 2
                   simp at hz0 hz1 hz2
                   have hf0 := blk_frozen hz 0
                   have hf1 := blk_frozen hz 1
                   have hf2 := blk_frozen hz 2)
                | (have hw3 : W.heap.size ≤ w3.heap.size := hb3.size
                   have hz := hk4 w3.heap.size (.cells #[.int .i64 0, .int .i64 0, .int .i64 0] 86 (0, 0)) (blk_new w3 _) (fun e => by have := H3.out.2.ref.own_lt e; omega)
                   have hz0 := blk_cell hz 0
                   have hz1 := blk_cell hz 1
                   have hz2 := blk_cell hz 2
                   simp at hz0 hz1 hz2
                   have hf0 := blk_frozen hz 0
                   have hf1 := blk_frozen hz 1
                   have hf2 := blk_frozen hz 2)
                | skip))
  all_goals
    have H4 := Lib.hid (And.intro hm4 hq4)
    clear hm4 hq4 x1 x7 x8 x9
    try clear hz0 hz1 hz2 hf0 hf1 hf2
    go_wp2
    first
      | refine abs_w (fun W' => W'.heap[q0]? = some (.cells #[.int .i64 s0, .int .i64 s1, .int .i64 s2] 30 (0, 0)) ∧ (∃ q1, q1 = w4.heap.size ∧ W'.heap[q1]? = some (.cells #[.int .i64 s0, .int .i64 s1, .int .i64 s2] 86 (0, 0))) ∧ Mid w0 p mb q w.heap.size O c (setL L i f iv tol) c (rsetR (rR L) i f iv tol) v W')
          ⟨blk_alloc H4.out.2 _, ⟨_, rfl, blk_new w4 _⟩, H4.out.1.below (below_alloc (Below.refl _ _) _)⟩ ?_
      | refine abs_w (fun W' => W'.heap[q0]? = some (.cells #[.int .i64 s0, .int .i64 s1, .int .i64 s2] 30 (0, 0)) ∧ (∃ q1, q1 = W.heap.size ∧ W'.heap[q1]? = some (.cells #[.int .i64 s0, .int .i64 s1, .int .i64 s2] 86 (0, 0))) ∧ Mid w0 p mb q w.heap.size O c (setL L i f iv tol) c (rsetR (rR L) i f iv tol) v W')
          ⟨(set_far3 _ _ _ (by omega)).trans H4.out.2, ⟨_, rfl, blk_set3 hz _ _ _ rfl⟩, H4.out.1.set3 H3.out.2 (Nat.le_refl _) _ _ _⟩ ?_
      | refine abs_w (fun W' => W'.heap[q0]? = some (.cells #[.int .i64 s0, .int .i64 s1, .int .i64 s2] 30 (0, 0)) ∧ (∃ q1, q1 = w3.heap.size ∧ W'.heap[q1]? = some (.cells #[.int .i64 s0, .int .i64 s1, .int .i64 s2] 86 (0, 0))) ∧ Mid w0 p mb q w.heap.size O c (setL L i f iv tol) c (rsetR (rR L) i f iv tol) v W')
          ⟨(set_far3 _ _ _ (by omega)).trans H4.out.2, ⟨_, rfl, blk_set3 hz _ _ _ rfl⟩, H4.out.1.set3 H3.out.2 hw3 _ _ _⟩ ?_
    rintro W5 ⟨hq0, ⟨q1, hq1e, hq1⟩, hm5⟩
    rw [← hq1e]
    have H5 := Lib.hid hm5
    clear hm5 hq1e
    have z0 := later_cell (v := .int .i64 s0) (blk_cell hq0 0)
    have z1 := later_cell (v := .int .i64 s1) (blk_cell hq0 1)
    have z2 := later_cell (v := .int .i64 s2) (blk_cell hq0 2)
    have y0 := later_cell (v := .int .i64 s0) (blk_cell hq1 0)
    have y1 := later_cell (v := .int .i64 s1) (blk_cell hq1 1)
    have y2 := later_cell (v := .int .i64 s2) (blk_cell hq1 2)
    clear hq0 hq1
    have hb1 := below_drew (Below.refl W5.heap.size W5)
    go_region_held3 (fun w' => Below W5.heap.size W5 w') (first | assumption | exact below_step (by assumption) hb6)
      (first | (go_at_call 36; refine (spec_any _ _ _ _).mono ?_; rintro e w6 ⟨rfl, hb6⟩))
    all_goals
      go_wp2
      go_ret
      exact ⟨rfl, _, _, _, setL L i f iv tol, v, by rw [rR_setL]; exact H5.out.below (by assumption), HL.out.setL i f iv tol⟩
end
end Go.Proofs.Ytodgbpggkikbcaa
