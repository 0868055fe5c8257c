/- Apply of the reference. -/
import Derived.Test.YtepceelkfbjamaaA7
namespace Go.Proofs.Ytepceelkfbjamaa
open Go.RowKit Go.Proofs.YtepceelkfbjamaaW.PrintWords Go.Proofs.YtepceelkfbjamaaW.PrintLast Go.Proofs.YtepceelkfbjamaaW.PrintMore PTraceFilters FLib




theorem cells6 {w : World} {n : Nat} {l : List S47} (ad : Addr) (k : Nat) (x : S47) (h : Kd.C k47 w (some ad) n l) (hk : k < l.length) (hx : rd_T47 l k = x) :
    w.cell? (ad.add (k * 6)) = some (.int .i64 x.f0) ∧ w.cell? ⟨(ad.add (k * 6)).block, (ad.add (k * 6)).off + 1, none⟩ = some (.int .i64 x.f1) ∧ w.cell? ⟨(ad.add (k * 6)).block, (ad.add (k * 6)).off + 2, none⟩ = some (.int .i64 x.f2) ∧
    w.cell? ⟨(ad.add (k * 6)).block, (ad.add (k * 6)).off + 3, none⟩ = some (.int .i64 x.f3) ∧ w.cell? ⟨(ad.add (k * 6)).block, (ad.add (k * 6)).off + 4, none⟩ = some (.int .i64 x.f4) ∧ w.cell? ⟨(ad.add (k * 6)).block, (ad.add (k * 6)).off + 5, none⟩ = some (.int .i64 x.f5) := by
  obtain ⟨ad', e, c⟩ := at_T47 h (k : Int) (by omega) (by have := Kd.C_len h; omega)
  injection e with e
  subst e
  rw [hx] at c
  simpa only [Int.toNat_natCast] using c

set_option maxRecDepth 100000 in
set_option maxHeartbeats 1600000 in
theorem rapply_any (f : Fil) (hf : f.Ok) (A : Option Addr) (n c : Nat) (l : List S47) (w : World) (hC : Kd.C k47 w A n l) (hn : n ≤ 1000000) :
    Calls Try.prog 24 #[filV f, .slice A n c] w fun e w' => ∃ v, e = .returned v ∧ Kd.R k47 49 w' w.heap.size (fun _ => True) v (l.filter (accB f)) ∧ Below w.heap.size w w' := by
  obtain rfl := Kd.C_len hC
  have HC := Lib.hid hC
  have hlen : (l.length : Int) ≤ 1000000 := by omega
  clear hC
  unfold filV
  go_enter Try.func24, Try.ntmps24
  go_wp2
  go_loopw [5, 6] (fun v i wr => ∃ k : Nat, k ≤ l.length ∧ i = .int .i64 k ∧ Hid (Kd.R k47 49 wr (w.heap.size + 1) (fun _ => True) v ((l.take k).filter (accB f))) ∧ Hid (Below (w.heap.size + 1) (w.alloc (filObj f 44)) wr)) (fun _ i _ => l.length - (intOf i).toNat)
  case atStart => exact ⟨0, Nat.zero_le _, rfl, Kd.R_nil _ _ _ _ _, Below.refl _ _⟩
  case round =>
    obtain ⟨k, hk, rfl, HR, HB⟩ := hrel
    have hbw : Below w.heap.size w wr := (below_alloc (Below.refl _ _) _).trans (HB.out.mono (by omega))
    have hbb := blk_below (blk_new w (filObj f 44)) (HB.out.mono (B' := (w.alloc (filObj f 44)).heap.size) (by simp))
    by_cases hlt : k < l.length
    · obtain ⟨ad, rfl, c0, c1, c2, c3, c4, c5⟩ := at_T47 (Kd.C_below HC.out hbw) (k : Int) (by omega) (by omega)
      simp only [Int.toNat_natCast] at c0 c1 c2 c3 c4 c5
      have hi0 : (0 : Int) ≤ (k : Int) := by omega
      have hi1 : (k : Int) < (l.length : Int) := by omega
      have hts := take_snoc l k hlt
      generalize hx : rd_T47 l k = x at c0 c1 c2 c3 c4 c5 hts
      have hl2 : ((l.take k).filter (accB f)).length ≤ k := Nat.le_trans (List.length_filter_le _ _) (List.length_take_le _ _)
      have b0 : wr.cell? ⟨w.heap.size, 0, none⟩ = some (.int .u32 f.kinds) := blk_cell hbb 0
      have b1 : wr.cell? ⟨w.heap.size, 1, none⟩ = some (.int .i64 f.thread) := blk_cell hbb 1
      have b2 : wr.cell? ⟨w.heap.size, 2, none⟩ = some (.int .i64 f.processor) := blk_cell hbb 2
      have b3 : wr.cell? ⟨w.heap.size, 3, none⟩ = some (.int .i64 f.lo) := blk_cell hbb 3
      have b4 : wr.cell? ⟨w.heap.size, 4, none⟩ = some (.int .i64 f.hi) := blk_cell hbb 4
      have hsz : w.heap.size < wr.heap.size := blk_lt hbb
      have HX := Lib.hid hx
      have HT := Lib.hid hts
      have HBW := Lib.hid hbw
      clear hx hts hbw hbb
      cases ha : accB f x with
      | false =>
        have HA := Lib.hid ha
        clear ha
        go_wp2
        refine still_tail 5 (by kernel_rfl) (by kernel_rfl) ?_
        simp only [List.take_succ_cons, List.take_zero, List.drop_succ_cons, List.drop_zero]
        repeat still_step
        refine wpStill_nil ?_
        go_wp2_with fail
        refine (raccepts_eq f hf x false HA.out _).mono ?_
        rintro e w1 ⟨rfl, hb1⟩
        have hbn := HB.out.drew.trans (hb1.mono (by simp; omega))
        have hrn := Kd.R_below (Kd.R_drew HR.out) hb1
        have hfl : (l.take (k + 1)).filter (accB f) = (l.take k).filter (accB f) := by rw [HT.out, List.filter_append]; simp [HA.out]
        rw [← hfl] at hrn
        have HR2 := Lib.hid hrn
        have HB2 := Lib.hid hbn
        clear hbn hrn hfl hb1 b0 b1 b2 b3 b4 c0 c1 c2 c3 c4 c5
        go_wp2
        go_roundw
        case rel => exact ⟨k + 1, by omega, by go_num, HR2, HB2⟩
        case measure => simp [intOf]; omega
      | true =>
        have HA := Lib.hid ha
        clear ha
        go_wp2
        refine still_tail 5 (by kernel_rfl) (by kernel_rfl) ?_
        simp only [List.take_succ_cons, List.take_zero, List.drop_succ_cons, List.drop_zero]
        repeat still_step
        refine wpStill_nil ?_
        go_wp2_with fail
        refine (raccepts_eq f hf x true HA.out _).mono ?_
        rintro e w1 ⟨rfl, hb1⟩
        obtain ⟨d0, d1, d2, d3, d4, d5⟩ := cells6 ad k x (Kd.C_below (Kd.C_below HC.out HBW.out) ((below_drew (Below.refl _ _)).trans hb1)) hlt HX.out
        have hbn := HB.out.drew.trans (hb1.mono (by simp; omega))
        have hrn := Kd.R_below (Kd.R_drew HR.out) hb1
        have hfl : (l.take (k + 1)).filter (accB f) = (l.take k).filter (accB f) ++ [x] := by rw [HT.out, List.filter_append]; simp [HA.out]
        have hs1 : w.heap.size + 1 ≤ w1.heap.size := by have := hb1.size; simp at this; omega
        have HR2 := Lib.hid hrn
        have HB2 := Lib.hid hbn
        have HF := Lib.hid hfl
        clear hbn hrn hfl hb1 b0 b1 b2 b3 b4 c0 c1 c2 c3 c4 c5
        go_wp2_with (at_builtin; (refine Kd.R_append k47 (w0 := w.alloc (filObj f 44)) (W := w1) (w.heap.size + 1) rfl (.tmp 19) (.tmp 24) 34 49 _ 48 rfl Try.underlying34 info49 rfl (by decide) (by decide) _ ((l.take k).filter (accB f)) x (evCells x) (fun _ => True) (fun _ => False) rfl rfl (k47_mkM _ _ _ x) (fun _ h => h.elim) (fun _ _ => trivial) HR2.out HB2.out hs1 (by omega) ?_); intro v1 w2 hR1 hB1 _ _)
        rw [← HF.out] at hR1
        have HR3 := Lib.hid hR1
        have HB3 := Lib.hid hB1
        clear hR1 hB1 d0 d1 d2 d3 d4 d5
        go_wp2
        go_roundw
        case rel => exact ⟨k + 1, by omega, by go_num, HR3, HB3⟩
        case measure => simp [intOf]; omega
    · have : k = l.length := by omega
      subst this
      go_wp2
      go_ret
      exact ⟨_, rfl, by simpa using Kd.R_lower HR.out (by omega), hbw⟩
end Go.Proofs.Ytepceelkfbjamaa
