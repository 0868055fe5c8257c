/- Decode. -/
import Derived.Test.YtepceelkfbjamaaD2
import Derived.Deep.Slices
namespace Go.Proofs.Ytepceelkfbjamaa
open Go.RowKit Go.Proofs.YtepceelkfbjamaaW.PrintWords Go.Proofs.YtepceelkfbjamaaW.PrintLast Go.Proofs.YtepceelkfbjamaaW.PrintMore PTraceFilters FLib

def DecPost (ty : Nat) (b : List Int) (w : World) (e : Ending) (w' : World) : Prop :=
  Below w.heap.size w w' ∧ ∃ v a c l, e = .returned (.tuple #[v, .agg #[.int .i64 a, .int .i64 c]]) ∧ Dec b a c l ∧ Kd.R k47 ty w' w.heap.size (fun _ => True) v l

set_option maxRecDepth 100000 in
theorem decode_long (A : Option Addr) (n c : Nat) (b : List Int) (w : World) (hC : Kd.C (Kd.int .u8) w A n b) (h : 800000 < (n : Int)) :
    Calls Try.prog 27 #[.slice A n c] w (DecPost 47 b w) := by
  have hl := Kd.C_len hC
  clear hC
  go_enter Try.func27, Try.ntmps27
  go_wp2
  exact bodyPost_ret (results_tc rfl _ _ w.heap.size 58 #[.int .i64 0, .int .i64 18] (0, 0) _ rfl (blk_new _ _) Try.underlying58 rfl (by kernel_rfl)) rfl
    ⟨below_alloc (Below.refl _ _) _, _, 0, 18, [], rfl, .long (by omega), Kd.R_nil _ _ _ _ _⟩

theorem wrap64_eq (n : Int) : IntKind.i64.wrap n = wrap64 n := by unfold wrap64; rw [IntKind.wrap_i64]
theorem wrap32_eq (n : Int) : IntKind.i32.wrap n = wrap32 n := by unfold wrap32; rw [IntKind.wrap_i32]
theorem abs_c {P : Program} {f : FuncId} {args : Array Value} {w : World} {R : Ending → World → Prop} (F : World → Prop) (hF : F w) (h : ∀ w2, F w2 → Calls P f args w2 R) : Calls P f args w R := h w hF
theorem keeps_row (w : World) (o : Obj) (cs : Array Value) : Keeps w ((w.alloc o).setRow w.heap.size cs) (fun k => k = w.heap.size) := by
  refine ⟨rfl, rfl, rfl, by simp, fun k hk hne => ?_⟩
  simp only [World.setRow, Array.getElem?_modify]
  rw [if_neg (fun e => hne e.symm)]
  exact Below.heap_alloc w o k hk
theorem part_bytes {r : List Int} (h : Bytes r) (o n : Nat) : Bytes ((r.drop o).take n) := fun z hz => h z (List.mem_of_mem_drop (List.mem_of_mem_take hz))
theorem u8s_one (r : List Int) : (u8s r).toArray.all (·.oneCell') = true := by simp [u8s, Value.oneCell']

set_option maxRecDepth 100000 in
set_option maxHeartbeats 6400000 in
theorem decode_short (A : Option Addr) (n c : Nat) (b : List Int) (w : World) (hC : Kd.C (Kd.int .u8) w A n b) (hb : Bytes b) (hnc : n ≤ c) (h : (n : Int) ≤ 800000) :
    Calls Try.prog 27 #[.slice A n c] w (DecPost 47 b w) := by
  obtain rfl := Kd.C_len hC
  have HC := Lib.hid hC
  have HBy := Lib.hid hb
  have hsa := arrayAt_40
  have hnc' : (b.length : Int) ≤ (c : Int) := by omega
  clear hC hb
  go_enter Try.func27, Try.ntmps27
  go_wp2
  go_loopw [4, 5] (fun v i wr => ∃ a : Nat, a ≤ b.length ∧ i = .int .i64 a ∧ Hid (wr.heap[w.heap.size]? = some (.cells #[.int .i64 0, .int .i64 0] 58 (0, 0))) ∧ Hid (Below w.heap.size w wr) ∧ Hid (∃ k, a = 40 * k ∧ (∀ j, j < k → okR (recAt b j) = true) ∧ Kd.R k47 47 wr w.heap.size (fun _ => True) v (evs b k))) (fun _ i _ => b.length - (intOf i).toNat)
  case atStart => exact ⟨0, Nat.zero_le _, rfl, blk_new _ _, below_alloc (Below.refl _ _) _, 0, rfl, fun j hj => by omega, Kd.R_nil _ _ _ _ _⟩
  case round =>
    obtain ⟨a, ha, rfl, HF, HB, HK⟩ := hrel
    obtain ⟨k, hak, hok, hR⟩ := HK.out
    have f0 : wr.cell? ⟨w.heap.size, 0, none⟩ = some (.int .i64 0) := blk_cell HF.out 0
    have f1 : wr.cell? ⟨w.heap.size, 1, none⟩ = some (.int .i64 0) := blk_cell HF.out 1
    have g0 : wr.frozen? ⟨w.heap.size, 0, none⟩ = false := blk_frozen HF.out 0
    have g1 : wr.frozen? ⟨w.heap.size, 1, none⟩ = false := blk_frozen HF.out 1
    by_cases hlt : (a : Int) + 40 ≤ (b.length : Int)
    · have hk40 : 40 * k + 40 ≤ b.length := by omega
      have hrl := recAt_length b k hk40
      have hrb := recAt_bytes b k HBy.out
      have HAK := Lib.hid hak
      have HOK := Lib.hid hok
      have HR := Lib.hid hR
      clear hak hok hR HK
      have hBwr := HB.out
      generalize hr : recAt b k = r at hrl hrb
      have hCa : ∃ D, (if c = a then A else A.map (fun x => x.add a)) = some D ∧ ∀ j v, (u8s r)[j]? = some v → wr.cell? (D.add j) = some v := by
        obtain ⟨ad, rfl, -⟩ := u8_atC HC.out 0 (by omega)
        refine ⟨ad.add a, by rw [if_neg (by omega)]; rfl, fun j v hv => ?_⟩
        have hj : j < 40 := by have := (List.getElem?_eq_some_iff.1 hv).1; rw [u8s_length, hrl] at this; exact this
        rw [Go.Deep.add_add]
        have hc := pw_cell_below hBwr (u8_at0 HC.out (a + j) (by omega))
        rw [hc, ← hv, ← hr]
        simp only [u8s, recAt, List.getElem?_map, List.getElem?_take_of_lt hj, List.getElem?_drop]
        rw [← HAK.out, List.getElem?_eq_getElem (show a + j < b.length by omega)]
        simp [List.getD, show a + j < b.length by omega]
      obtain ⟨D, hD, hcells⟩ := hCa
      have HCL := Lib.hid hcells
      have HRL := Lib.hid hrl
      have HRB := Lib.hid hrb
      have HREC := Lib.hid hr
      have ha0 : (0 : Int) ≤ (a : Int) := by omega
      have ha1 : (a : Int) + 40 ≤ (c : Int) := by omega
      have hlt' : (a : Int) ≤ 800000 := by omega
      clear hcells hrl hrb hr hBwr
      go_wp2_with (first
        | (refine gate_ (.load 88 (.tmp 24)) rfl ?_; refine wpList_load_at rfl 88 (.tmp 24) rfl D (by rfl) (u8s r) HCL.out _ Try.underlying88 rfl (by rw [u8s_length, HRL.out]; kernel_rfl) ?_)
        | (refine gate_ (.store 88 (.tmp 6) (.tmp 25)) rfl ?_; refine wpList_store_row rfl 88 (.tmp 6) (.tmp 25) rfl wr.heap.size (u8s r).toArray rfl rfl 88 (u8s (List.replicate 40 0)).toArray (blk_new _ _) (by rw [List.size_toArray, u8s_length, HRL.out]; kernel_rfl) (by simp [u8s_length, HRL.out]) (u8s_one r) ?_)
        | fail)
      refine abs_c (fun W => U8 W wr.heap.size 88 r ∧ Keeps wr W (fun k => k = wr.heap.size)) ⟨setRow_heap _ _ _ (u8s r).toArray _ _ (blk_new wr (.cells (u8s (List.replicate 40 0)).toArray 88)), keeps_row wr _ _⟩ ?_
      rintro W1 ⟨hU1, hK1⟩
      have HU1 := Lib.hid hU1
      have HK1 := Lib.hid hK1
      clear hU1 hK1
      obtain ⟨N1, hN1⟩ : ∃ N, numOf ((r.drop 8).take 8) = N := ⟨_, rfl⟩
      refine (get_eq _ _ _ _ N1 hN1 _ (HU1.out.part 8 8 (by rw [HRL.out]; omega) (by rw [HRL.out]; omega)) (part_bytes HRB.out 8 8) (by omega)).mono ?_
      rintro e W2 ⟨rfl, rfl⟩
      have HN1 := Lib.hid hN1
      clear hN1
      obtain ⟨K, hKd⟩ : ∃ K, wrap64 N1 = K := ⟨_, rfl⟩
      have hKw : IntKind.i64.wrap N1 = K := (wrap64_eq N1).trans hKd
      have hF1 := HK1.out.blk HF.out (by have := blk_lt HF.out; omega)
      have HF1 := Lib.hid hF1
      have f0 : W1.cell? ⟨w.heap.size, 0, none⟩ = some (.int .i64 0) := blk_cell hF1 0
      have f1 : W1.cell? ⟨w.heap.size, 1, none⟩ = some (.int .i64 0) := blk_cell hF1 1
      have g0 : W1.frozen? ⟨w.heap.size, 0, none⟩ = false := blk_frozen hF1 0
      have g1 : W1.frozen? ⟨w.heap.size, 1, none⟩ = false := blk_frozen hF1 1
      have HBW1 := Lib.hid (HB.out.trans (HK1.out.below HB.out.size (fun i hi => by have := HB.out.size; omega)))
      have hkind : kindOf r = K := by unfold kindOf; rw [HN1.out]; exact hKd
      have HKD := Lib.hid hkind
      have hbadK : K < 0 ∨ 9 ≤ K → okR r = false := by
        intro hc
        unfold okR; rw [hkind]
        rcases hc with hc | hc
        · simp; omega
        · simp; omega
      have HBAD := Lib.hid hbadK
      clear hF1 hkind hbadK
      by_cases hKneg : K < 0
      · go_wp2
        refine bodyPost_ret (results_tc rfl _ _ w.heap.size 58 #[.int .i64 a, .int .i64 17] (0, 0) _ rfl (by simpa using blk_set (blk_set HF1.out 0 (.int .i64 a)) 1 (.int .i64 17)) Try.underlying58 rfl (by kernel_rfl)) rfl ?_
        refine ⟨(HBW1.out.setCell (Nat.le_refl _) _).setCell (Nat.le_refl _) _, _, (a : Int), 17, [], rfl, ?_, Kd.R_nil _ _ _ _ _⟩
        have hak := HAK.out
        rw [hak]
        exact .bad k (by omega) HOK.out (by rw [HREC.out]; exact HBAD.out (.inl hKneg)) hk40
      by_cases hKbig : 9 ≤ K
      · go_wp2
        refine bodyPost_ret (results_tc rfl _ _ w.heap.size 58 #[.int .i64 a, .int .i64 17] (0, 0) _ rfl (by simpa using blk_set (blk_set HF1.out 0 (.int .i64 a)) 1 (.int .i64 17)) Try.underlying58 rfl (by kernel_rfl)) rfl ?_
        refine ⟨(HBW1.out.setCell (Nat.le_refl _) _).setCell (Nat.le_refl _) _, _, (a : Int), 17, [], rfl, ?_, Kd.R_nil _ _ _ _ _⟩
        have hak := HAK.out
        rw [hak]
        exact .bad k (by omega) HOK.out (by rw [HREC.out]; exact HBAD.out (.inr hKbig)) hk40
      go_wp2
      have HU2 : Hid (U8 W1.drew wr.heap.size 88 r) := Lib.hid HU1.out
      have hRW := Kd.R_drew (Kd.R_below HR.out (HK1.out.below (Nat.le_refl _) (fun i hi => by omega)))
      have HRW := Lib.hid hRW
      have HBD := Lib.hid HBW1.out.drew
      obtain ⟨N0, hN0⟩ : ∃ N, numOf ((r.drop 0).take 8) = N := ⟨_, rfl⟩
      have HN0 := Lib.hid hN0
      clear hN0
      obtain ⟨Y0, hY0⟩ : ∃ Y, wrap64 N0 = Y := ⟨_, rfl⟩
      have hZ0 : IntKind.i64.wrap N0 = Y0 := (wrap64_eq N0).trans hY0
      have HY0 := Lib.hid hY0
      obtain ⟨N2, hN2⟩ : ∃ N, numOf ((r.drop 16).take 4) = N := ⟨_, rfl⟩
      have HN2 := Lib.hid hN2
      clear hN2
      obtain ⟨Y2, hY2⟩ : ∃ Y, wrap32 N2 = Y := ⟨_, rfl⟩
      have hZ2 : IntKind.i32.wrap N2 = Y2 := (wrap32_eq N2).trans hY2
      have hX2 : IntKind.i64.wrap Y2 = Y2 := IntWalk.i64_in _ (by rw [← hY2]; unfold wrap32; omega)
      have HY2 := Lib.hid hY2
      obtain ⟨N3, hN3⟩ : ∃ N, numOf ((r.drop 20).take 4) = N := ⟨_, rfl⟩
      have HN3 := Lib.hid hN3
      clear hN3
      obtain ⟨Y3, hY3⟩ : ∃ Y, wrap32 N3 = Y := ⟨_, rfl⟩
      have hZ3 : IntKind.i32.wrap N3 = Y3 := (wrap32_eq N3).trans hY3
      have hX3 : IntKind.i64.wrap Y3 = Y3 := IntWalk.i64_in _ (by rw [← hY3]; unfold wrap32; omega)
      have HY3 := Lib.hid hY3
      obtain ⟨N4, hN4⟩ : ∃ N, numOf ((r.drop 24).take 8) = N := ⟨_, rfl⟩
      have HN4 := Lib.hid hN4
      clear hN4
      obtain ⟨Y4, hY4⟩ : ∃ Y, wrap64 N4 = Y := ⟨_, rfl⟩
      have hZ4 : IntKind.i64.wrap N4 = Y4 := (wrap64_eq N4).trans hY4
      have HY4 := Lib.hid hY4
      obtain ⟨N5, hN5⟩ : ∃ N, numOf ((r.drop 32).take 8) = N := ⟨_, rfl⟩
      have HN5 := Lib.hid hN5
      clear hN5
      obtain ⟨Y5, hY5⟩ : ∃ Y, wrap64 N5 = Y := ⟨_, rfl⟩
      have hZ5 : IntKind.i64.wrap N5 = Y5 := (wrap64_eq N5).trans hY5
      have HY5 := Lib.hid hY5
      have hdec : decEv r = ⟨Y0, K, Y2, Y3, Y4, Y5⟩ := by
        unfold decEv
        rw [HKD.out, HN2.out, HN3.out, HN4.out, HN5.out, HY2.out, HY3.out, HY4.out, HY5.out, show r.take 8 = (r.drop 0).take 8 by simp, HN0.out, HY0.out]
      have HDEC := Lib.hid hdec
      have tk0 : True := trivial
      have tk2 : True := trivial
      have tk3 : True := trivial
      have tk4 : True := trivial
      have tk5 : True := trivial
      have hkl : (evs b k).length = k := evs_length b k
      have HKL := Lib.hid hkl
      clear hRW hdec f0 f1 g0 g1 hKw hKd hkl
      go_region_held3 (fun _ => True) (exact trivial)
        (first
          | (go_at_call 43; have _t := tk0; refine (get_eq _ _ _ _ N0 HN0.out _ (HU2.out.part 0 8 (by rw [HRL.out]; omega) (by rw [HRL.out]; omega)) (part_bytes HRB.out 0 8) (by omega)).mono ?_; rintro e V0 ⟨rfl, rfl⟩; clear tk0)
          | (go_at_call 43; have _t := tk2; refine (get_eq _ _ _ _ N2 HN2.out _ (HU2.out.part 16 4 (by rw [HRL.out]; omega) (by rw [HRL.out]; omega)) (part_bytes HRB.out 16 4) (by omega)).mono ?_; rintro e V2 ⟨rfl, rfl⟩; clear tk2)
          | (go_at_call 43; have _t := tk3; refine (get_eq _ _ _ _ N3 HN3.out _ (HU2.out.part 20 4 (by rw [HRL.out]; omega) (by rw [HRL.out]; omega)) (part_bytes HRB.out 20 4) (by omega)).mono ?_; rintro e V3 ⟨rfl, rfl⟩; clear tk3)
          | (go_at_call 43; have _t := tk4; refine (get_eq _ _ _ _ N4 HN4.out _ (HU2.out.part 24 8 (by rw [HRL.out]; omega) (by rw [HRL.out]; omega)) (part_bytes HRB.out 24 8) (by omega)).mono ?_; rintro e V4 ⟨rfl, rfl⟩; clear tk4)
          | (go_at_call 43; have _t := tk5; refine (get_eq _ _ _ _ N5 HN5.out _ (HU2.out.part 32 8 (by rw [HRL.out]; omega) (by rw [HRL.out]; omega)) (part_bytes HRB.out 32 8) (by omega)).mono ?_; rintro e V5 ⟨rfl, rfl⟩; clear tk5)
          | (refine Kd.R_append_step k47 (w0 := w) (W := W1.drew) w.heap.size (by rfl) (.tmp 37) (.tmp 57) 22 47 _ 48 (by rfl) Try.underlying22 info47 rfl (by decide) (by decide) u4 (evs b k) ⟨Y0, K, Y2, Y3, Y4, Y5⟩ (evCells ⟨Y0, K, Y2, Y3, Y4, Y5⟩) (fun _ => True) (fun _ => False) (by rfl) (by rfl) (k47_mkM _ _ _ ⟨Y0, K, Y2, Y3, Y4, Y5⟩) (fun _ h => h.elim) (fun _ _ => trivial) HRW.out HBD.out HBD.out.size (by rw [HKL.out]; omega) ?_; intro v3 w3 hR3 hB3 hg3 _))
      have hF3 := blk_grown (blk_drew HF1.out) hg3 (Kd.R_ne HRW.out (blk_drew HF1.out) (by decide))
      have HF3 := Lib.hid hF3
      have HB3 := Lib.hid hB3
      have HK3 : Hid (∃ k', a + 40 = 40 * k' ∧ (∀ j, j < k' → okR (recAt b j) = true) ∧ Kd.R k47 47 w3 w.heap.size (fun _ => True) v3 (evs b k')) := by
        refine ⟨k + 1, by have := HAK.out; omega, fun j hj => ?_, ?_⟩
        · rcases Nat.lt_or_ge j k with h | h
          · exact HOK.out j h
          · obtain rfl : j = k := by omega
            rw [HREC.out]; unfold okR; rw [HKD.out]
            simp; omega
        · rw [evs_succ, HREC.out, HDEC.out]; exact hR3
      clear hR3 hB3 hg3 hF3 HF1 HBD HRW HU2 HU1 HK1 HF HB HBW1 HAK HOK HR
      go_wp2
      go_roundw
      case rel => exact ⟨a + 40, by omega, by go_num, HF3, HB3, HK3⟩
      case measure => simp [intOf]; omega
    · have hx1 : (b.length : Int) < (a : Int) + 40 := by omega
      have HAK := Lib.hid hak
      clear hak
      by_cases hrest : (a : Int) < (b.length : Int)
      · go_wp2
        refine bodyPost_ret (results_tc rfl _ _ w.heap.size 58 #[.int .i64 a, .int .i64 12] (0, 0) _ rfl (by simpa using blk_set (blk_set HF.out 0 (.int .i64 a)) 1 (.int .i64 12)) Try.underlying58 rfl (by kernel_rfl)) rfl ?_
        refine ⟨(HB.out.setCell (Nat.le_refl _) _).setCell (Nat.le_refl _) _, _, (a : Int), 12, [], rfl, ?_, Kd.R_nil _ _ _ _ _⟩
        have hak := HAK.out
        rw [hak]
        exact .rest k (by omega) hok (by omega) (by omega)
      · go_wp2
        refine bodyPost_ret (results_tc rfl _ _ w.heap.size 58 #[.int .i64 0, .int .i64 0] (0, 0) _ rfl (by simpa using blk_set (blk_set HF.out 0 (.int .i64 0)) 1 (.int .i64 0)) Try.underlying58 rfl (by kernel_rfl)) rfl ?_
        refine ⟨(HB.out.setCell (Nat.le_refl _) _).setCell (Nat.le_refl _) _, _, 0, 0, evs b k, rfl, .all k (by omega) hok (by have := HAK.out; omega), ?_⟩
        exact Kd.R_set (Kd.R_set hR HF.out (by decide) 0 _) (blk_set HF.out 0 _) (by decide) 1 _
end Go.Proofs.Ytepceelkfbjamaa
