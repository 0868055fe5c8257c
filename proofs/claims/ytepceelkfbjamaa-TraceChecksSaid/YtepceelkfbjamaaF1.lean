/- TraceFilters: the walk of the law. -/
import Derived.Test.YtepceelkfbjamaaA5
import Derived.Test.YtepceelkfbjamaaA8
import Derived.OpenShut
namespace Go.Proofs.Ytepceelkfbjamaa
open Go.RowKit Go.Proofs.YtepceelkfbjamaaW.PrintWords Go.Proofs.YtepceelkfbjamaaW.PrintLast Go.Proofs.YtepceelkfbjamaaW.PrintMore PTraceFilters FLib

theorem u32_ok {n : Int} {a b c d : Int} (h : (Lit.int .u32 n).wf = true) : Fil.Ok ⟨n, a, b, c, d⟩ := by
  have := bounds_u32 h
  exact ⟨this.1, by have := this.2; simpa using (by omega : n < 4294967296)⟩

theorem R_slice' {w : World} {e base : Nat} {ok : Nat → Prop} {v : Value} {l : List S47} (h : Kd.R k47 e w base ok v l) : ∃ A c, v = .slice A l.length c ∧ Kd.C k47 w A l.length l := by
  obtain ⟨A, c, h1, -, h2⟩ := Kd.R_reads h
  exact ⟨A, c, h1, h2⟩

set_option maxRecDepth 100000 in
set_option maxHeartbeats 3200000 in
theorem filters_law (f : Fil) (hf : f.Ok) (A : Option Addr) (n c : Nat) (l : List S47) (w : World) (hC : Kd.C k47 w A n l) :
    Calls Try.prog 4 #[filV f, .slice A n c] w fun e w' => e = .returned (.bool true) ∧ Below w.heap.size w w' := by
  obtain rfl := Kd.C_len hC
  have hm := Kd.C_max hC
  have hlen : (l.length : Int) ≤ 9223372036854775807 := by omega
  have HC := Lib.hid hC
  clear hC
  unfold filV
  by_cases h3 : 300 < (l.length : Int)
  · go_enter Try.func4, Try.ntmps4
    go_wp2_with (go_at_call 10; refine (awake_any _).mono ?_; rintro e w1 ⟨rfl, hb1⟩)
    go_ret
    exact ⟨rfl, below_then (below_alloc (Below.refl _ _) _) (by simp) hb1⟩
  · go_enter Try.func4, Try.ntmps4
    go_wp2
    go_loopw [6] (fun i wr => ∃ k : Nat, k ≤ l.length ∧ i = .int .i64 k ∧ Hid (Below ((w.alloc (filObj f 43)).alloc (filObj f 44)).heap.size ((w.alloc (filObj f 43)).alloc (filObj f 44)) wr)) (fun i _ => l.length - (intOf i).toNat)
    case atStart => exact ⟨0, Nat.zero_le _, rfl, Below.refl _ _⟩
    case round =>
      obtain ⟨k, hk, rfl, HB⟩ := hrel
      have hbw : Below w.heap.size w wr := (below_alloc (below_alloc (Below.refl _ _) _) _).trans (HB.out.mono (by simp; omega))
      have hbb := blk_below (blk_alloc (blk_new w (filObj f 43)) (filObj f 44)) HB.out
      have hbd := blk_below (blk_new (w.alloc (filObj f 43)) (filObj f 44)) HB.out
      have b0 : wr.cell? ⟨w.heap.size, 0, none⟩ = some (.int .u32 f.kinds) := blk_cell hbb 0
      have b1 : wr.cell? ⟨w.heap.size, 1, none⟩ = some (.int .i64 f.thread) := blk_cell hbb 1
      have b2 : wr.cell? ⟨w.heap.size, 2, none⟩ = some (.int .i64 f.processor) := blk_cell hbb 2
      have b3 : wr.cell? ⟨w.heap.size, 3, none⟩ = some (.int .i64 f.lo) := blk_cell hbb 3
      have b4 : wr.cell? ⟨w.heap.size, 4, none⟩ = some (.int .i64 f.hi) := blk_cell hbb 4
      have d0 : wr.cell? ⟨w.heap.size + 1, 0, none⟩ = some (.int .u32 f.kinds) := by have := blk_cell hbd 0; simpa using this
      have d1 : wr.cell? ⟨w.heap.size + 1, 1, none⟩ = some (.int .i64 f.thread) := by have := blk_cell hbd 1; simpa using this
      have d2 : wr.cell? ⟨w.heap.size + 1, 2, none⟩ = some (.int .i64 f.processor) := by have := blk_cell hbd 2; simpa using this
      have d3 : wr.cell? ⟨w.heap.size + 1, 3, none⟩ = some (.int .i64 f.lo) := by have := blk_cell hbd 3; simpa using this
      have d4 : wr.cell? ⟨w.heap.size + 1, 4, none⟩ = some (.int .i64 f.hi) := by have := blk_cell hbd 4; simpa using this
      have HBW := Lib.hid hbw
      clear hbw hbb hbd
      by_cases hlt : k < l.length
      · obtain ⟨ad, rfl, -⟩ := at_T47 (Kd.C_below HC.out HBW.out) (k : Int) (by omega) (by omega)
        generalize hx : rd_T47 l k = x
        obtain ⟨c0, c1, c2, c3, c4, c5⟩ := cells6 ad k x (Kd.C_below HC.out HBW.out) hlt hx
        have hi0 : (0 : Int) ≤ (k : Int) := by omega
        have hi1 : (k : Int) < (l.length : Int) := by omega
        have HX := Lib.hid hx
        clear hx
        go_wp2
        go_region_held3 (fun W => W.cell? ⟨w.heap.size, 0, none⟩ = some (.int .u32 f.kinds) ∧ W.cell? ⟨w.heap.size, 1, none⟩ = some (.int .i64 f.thread) ∧ W.cell? ⟨w.heap.size, 2, none⟩ = some (.int .i64 f.processor) ∧ W.cell? ⟨w.heap.size, 3, none⟩ = some (.int .i64 f.lo) ∧ W.cell? ⟨w.heap.size, 4, none⟩ = some (.int .i64 f.hi) ∧
          W.cell? ⟨w.heap.size + 1, 0, none⟩ = some (.int .u32 f.kinds) ∧ W.cell? ⟨w.heap.size + 1, 1, none⟩ = some (.int .i64 f.thread) ∧ W.cell? ⟨w.heap.size + 1, 2, none⟩ = some (.int .i64 f.processor) ∧ W.cell? ⟨w.heap.size + 1, 3, none⟩ = some (.int .i64 f.lo) ∧ W.cell? ⟨w.heap.size + 1, 4, none⟩ = some (.int .i64 f.hi) ∧
          W.cell? (ad.add (k * 6)) = some (.int .i64 x.f0) ∧ W.cell? ⟨(ad.add (k * 6)).block, (ad.add (k * 6)).off + 1, none⟩ = some (.int .i64 x.f1) ∧ W.cell? ⟨(ad.add (k * 6)).block, (ad.add (k * 6)).off + 2, none⟩ = some (.int .i64 x.f2) ∧ W.cell? ⟨(ad.add (k * 6)).block, (ad.add (k * 6)).off + 3, none⟩ = some (.int .i64 x.f3) ∧ W.cell? ⟨(ad.add (k * 6)).block, (ad.add (k * 6)).off + 4, none⟩ = some (.int .i64 x.f4) ∧ W.cell? ⟨(ad.add (k * 6)).block, (ad.add (k * 6)).off + 5, none⟩ = some (.int .i64 x.f5))
          (first
            | go_keep
            | (go_split_ands
               refine ⟨?_, ?_, ?_, ?_, ?_, ?_, ?_, ?_, ?_, ?_, ?_, ?_, ?_, ?_, ?_, ?_⟩
               all_goals first | exact pw_cell_below hb2 (by assumption) | exact pw_cell_below hb1 (by assumption)))
          (first
            | (go_at_call 21; refine (accepts_any f hf x _).mono ?_; rintro e w1 ⟨rfl, hb1⟩)
            | (go_at_call 22; refine (raccepts_any f hf x _).mono ?_; rintro e w2 ⟨rfl, hb2⟩))
        have hbn := Lib.hid ((HB.out.drew.trans (hb1.mono (by have := HB.out.size; simpa using this))).trans (hb2.mono (Nat.le_trans HB.out.size hb1.size)))
        clear hb1 hb2 b0 b1 b2 b3 b4 d0 d1 d2 d3 d4 c0 c1 c2 c3 c4 c5 HB HBW
        go_wp2
        go_roundw
        case rel => exact ⟨k + 1, by omega, by go_num, hbn⟩
        case measure => simp [intOf]; omega
      · go_wp2
        have hC0 := Kd.C_drew (Kd.C_below HC.out HBW.out)
        have HC0 := Lib.hid hC0
        have hn : l.length ≤ 1000000 := by omega
        clear hC0
        go_region_held3 (fun W => W.cell? ⟨w.heap.size, 0, none⟩ = some (.int .u32 f.kinds) ∧ W.cell? ⟨w.heap.size, 1, none⟩ = some (.int .i64 f.thread) ∧ W.cell? ⟨w.heap.size, 2, none⟩ = some (.int .i64 f.processor) ∧ W.cell? ⟨w.heap.size, 3, none⟩ = some (.int .i64 f.lo) ∧ W.cell? ⟨w.heap.size, 4, none⟩ = some (.int .i64 f.hi) ∧
          W.cell? ⟨w.heap.size + 1, 0, none⟩ = some (.int .u32 f.kinds) ∧ W.cell? ⟨w.heap.size + 1, 1, none⟩ = some (.int .i64 f.thread) ∧ W.cell? ⟨w.heap.size + 1, 2, none⟩ = some (.int .i64 f.processor) ∧ W.cell? ⟨w.heap.size + 1, 3, none⟩ = some (.int .i64 f.lo) ∧ W.cell? ⟨w.heap.size + 1, 4, none⟩ = some (.int .i64 f.hi))
          (first
            | go_keep
            | (go_split_ands
               refine ⟨?_, ?_, ?_, ?_, ?_, ?_, ?_, ?_, ?_, ?_⟩
               all_goals first | exact pw_cell_below hb5 (by assumption) | exact pw_cell_below hb4 (by assumption) | exact pw_cell_below hb3 (by assumption) | exact pw_cell_below hb2 (by assumption) | exact pw_cell_below hb1 (by assumption)))
          (first
            | (go_at_call 23; refine (apply_any f hf _ _ _ _ _ HC0.out hn).mono ?_; rintro e w1 ⟨v1, rfl, hR1, hb1⟩; obtain ⟨A1, c1, rfl, hC1⟩ := R_slice' hR1)
            | (go_at_call 15; refine (from_any _ _ _ _ _ (Kd.C_below HC0.out hb1) hn).mono ?_; rintro e w2 ⟨v2, rfl, hR2, hb2⟩; obtain ⟨A2, c2, rfl, hC2⟩ := R_slice' hR2)
            | (go_at_call 24; refine (rapply_any f hf _ _ _ _ _ hC2 hn).mono ?_; rintro e w3 ⟨v3, rfl, hR3, hb3⟩; obtain ⟨A3, c3, rfl, hC3⟩ := R_slice' hR3)
            | (go_at_call 16; refine (same_any _ _ _ _ _ _ _ _ (Kd.C_below (Kd.C_below hC1 hb2) hb3) hC3).mono ?_; rintro e w4 ⟨rfl, hb4⟩)
            | (go_at_call 10; refine (awake_any _).mono ?_; rintro e w5 ⟨rfl, hb5⟩))
        have e1 := below_then (below_drew HBW.out) HBW.out.size hb1
        have e2 := below_then e1 e1.size hb2
        have e3 := below_then e2 e2.size hb3
        have e4 := below_then e3 e3.size hb4
        have e5 := Lib.hid (below_then e4 e4.size hb5)
        clear e1 e2 e3 e4 hb1 hb2 hb3 hb4 hb5 hR1 hR2 hR3 hC1 hC2 hC3
        go_wp2
        go_ret
        exact ⟨rfl, e5.out⟩
end Go.Proofs.Ytepceelkfbjamaa
