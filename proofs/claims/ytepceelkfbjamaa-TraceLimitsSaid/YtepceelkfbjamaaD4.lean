/- Decode of the reference. -/
import Derived.Test.YtepceelkfbjamaaD3
import Derived.Test.YtepceelkfbjamaaB1
namespace Go.Proofs.Ytepceelkfbjamaa
open Go.RowKit Go.Proofs.YtepceelkfbjamaaW.PrintWords Go.Proofs.YtepceelkfbjamaaW.PrintLast Go.Proofs.YtepceelkfbjamaaW.PrintMore PTraceFilters FLib

theorem C_part {w : World} {D : Addr} {r : List Int} {m : Nat} (h : Kd.C (Kd.int .u8) w (some D) m r) (o n : Nat) (hn : o + n ≤ m) : Kd.C (Kd.int .u8) w (some (D.add o)) n ((r.drop o).take n) := by
  have hl := Kd.C_len h
  have hm := Kd.C_max h
  refine ⟨by simp; omega, by omega, fun _ => ⟨_, rfl, fun j p hj => ⟨[.int .u8 p], rfl, rfl, fun i u hu => ?_⟩⟩⟩
  have hjl : j < n := by have := (List.getElem?_eq_some_iff.1 hj).1; simp at this; omega
  match i, hu with
  | 0, hu =>
    simp at hu
    subst hu
    have hc := u8_at0 h (o + j) (by omega)
    rw [List.getElem?_take_of_lt hjl, List.getElem?_drop] at hj
    rw [show r.getD (o + j) 0 = p by simp [List.getD, hj]] at hc
    rw [show (Kd.int .u8).sz = 1 from rfl, Nat.mul_one, Nat.add_zero, Go.Deep.add_add]
    exact hc
  | i + 1, hu => simp at hu
theorem C_part0 {w : World} {D : Addr} {r : List Int} {m : Nat} (h : Kd.C (Kd.int .u8) w (some D) m r) (n : Nat) (hn : n ≤ m) : Kd.C (Kd.int .u8) w (some D) n ((r.drop 0).take n) := by
  have e : D.add 0 = D := by unfold Addr.add; simp
  have := C_part h 0 n (by omega)
  rwa [e] at this
theorem number_eq (A : Option Addr) (c : Nat) (bs : List Int) (N : Int) (hN : wrap64 (numOf bs) = N) (w : World) (hC : Kd.C (Kd.int .u8) w A 8 bs) (hb : Bytes bs) :
    Calls Try.prog 44 #[.slice A 8 c] w fun e w' => e = .returned (.int .i64 N) ∧ w = w' := hN ▸ number_any A c bs w hC hb
theorem half_eq (A : Option Addr) (c : Nat) (bs : List Int) (N : Int) (hN : wrap32 (numOf bs) = N) (w : World) (hC : Kd.C (Kd.int .u8) w A 4 bs) (hb : Bytes bs) :
    Calls Try.prog 45 #[.slice A 4 c] w fun e w' => e = .returned (.int .i64 N) ∧ Below w.heap.size w w' := hN ▸ half_any A c bs w hC hb

set_option maxRecDepth 100000 in
theorem rdecode_long (A : Option Addr) (n c : Nat) (b : List Int) (w : World) (hC : Kd.C (Kd.int .u8) w A n b) (h : 800000 < (n : Int)) :
    Calls Try.prog 28 #[.slice A n c] w (DecPost 49 b w) := by
  have hl := Kd.C_len hC
  clear hC
  go_enter Try.func28, Try.ntmps28
  go_wp2
  exact bodyPost_ret (results_tc rfl _ _ w.heap.size 58 #[.int .i64 0, .int .i64 18] (0, 0) _ rfl (blk_new _ _) Try.underlying58 rfl (by kernel_rfl)) rfl
    ⟨below_alloc (Below.refl _ _) _, _, 0, 18, [], rfl, .long (by omega), Kd.R_nil _ _ _ _ _⟩

set_option maxRecDepth 100000 in
set_option maxHeartbeats 6400000 in
theorem rdecode_short (A : Option Addr) (n c : Nat) (b : List Int) (w : World) (hC : Kd.C (Kd.int .u8) w A n b) (hb : Bytes b) (hnc : n ≤ c) (h : (n : Int) ≤ 800000) :
    Calls Try.prog 28 #[.slice A n c] w (DecPost 49 b w) := by
  obtain rfl := Kd.C_len hC
  have HC := Lib.hid hC
  have HBy := Lib.hid hb
  have hnc' : (b.length : Int) ≤ (c : Int) := by omega
  clear hC hb
  go_enter Try.func28, Try.ntmps28
  go_wp2
  go_loopw [4, 5] (fun v i wr => ∃ a : Nat, a ≤ b.length ∧ i = .int .i64 a ∧ Hid (wr.heap[w.heap.size]? = some (.cells #[.int .i64 0, .int .i64 0] 58 (0, 0))) ∧ Hid (Below w.heap.size w wr) ∧ Hid (∃ k, a = 40 * k ∧ (∀ j, j < k → okR (recAt b j) = true) ∧ Kd.R k47 49 wr w.heap.size (fun _ => True) v (evs b k))) (fun _ i _ => b.length - (intOf i).toNat)
  case atStart => exact ⟨0, Nat.zero_le _, rfl, blk_new _ _, below_alloc (Below.refl _ _) _, 0, rfl, fun j hj => by omega, Kd.R_nil _ _ _ _ _⟩
  case round =>
    obtain ⟨a, ha, rfl, HF, HB, HK⟩ := hrel
    obtain ⟨k, hak, hok, hR⟩ := HK.out
    have f0 : wr.cell? ⟨w.heap.size, 0, none⟩ = some (.int .i64 0) := blk_cell HF.out 0
    have f1 : wr.cell? ⟨w.heap.size, 1, none⟩ = some (.int .i64 0) := blk_cell HF.out 1
    have g0 : wr.frozen? ⟨w.heap.size, 0, none⟩ = false := blk_frozen HF.out 0
    have g1 : wr.frozen? ⟨w.heap.size, 1, none⟩ = false := blk_frozen HF.out 1
    by_cases hlt : (a : Int) + 40 ≤ (b.length : Int)
    · have hk40 : 40 * k + 40 ≤ b.length := by omega
      have hrl := recAt_length b k hk40
      have hrb := recAt_bytes b k HBy.out
      have HAK := Lib.hid hak
      have HOK := Lib.hid hok
      have HR := Lib.hid hR
      clear hak hok hR HK
      have hCa : ∃ D, (if c = a then A else A.map (fun x => x.add a)) = some D ∧ Kd.C (Kd.int .u8) w (some D) 40 (recAt b k) := by
        obtain ⟨ad, rfl, -⟩ := u8_atC HC.out 0 (by omega)
        refine ⟨ad.add a, by rw [if_neg (by omega)]; rfl, ?_⟩
        have := C_part HC.out a 40 (by omega)
        unfold recAt
        rw [← HAK.out]; exact this
      generalize hr : recAt b k = r at hrl hrb hCa
      obtain ⟨D, hD, hCD⟩ := hCa
      obtain ⟨q, hq⟩ : ∃ q, c - a = q := ⟨_, rfl⟩
      have hq40 : 40 ≤ q := by omega
      have q1 : ¬ q = 8 := by omega
      have q2 : ¬ q = 16 := by omega
      have q3 : ¬ q = 20 := by omega
      have q4 : ¬ q = 24 := by omega
      have q5 : ¬ q = 32 := by omega
      have hq40' : (40 : Int) ≤ (q : Int) := by omega
      have HCD := Lib.hid hCD
      have HRL := Lib.hid hrl
      have HRB := Lib.hid hrb
      have HREC := Lib.hid hr
      have ha0 : (0 : Int) ≤ (a : Int) := by omega
      have ha1 : (a : Int) + 40 ≤ (c : Int) := by omega
      have hlt' : (a : Int) ≤ 800000 := by omega
      clear hCD hrl hrb hr
      obtain ⟨K, hKd⟩ : ∃ K, wrap64 (numOf ((r.drop 8).take 8)) = K := ⟨_, rfl⟩
      have HKN := Lib.hid hKd
      have hkind : kindOf r = K := hKd
      have HKD := Lib.hid hkind
      have hbadK : K < 0 ∨ 9 ≤ K → okR r = false := by
        intro hc
        unfold okR; rw [hkind]
        rcases hc with hc | hc
        · simp; omega
        · simp; omega
      have HBAD := Lib.hid hbadK
      clear hkind hbadK hKd
      go_wp2_with fail
      refine (number_eq _ _ _ K HKN.out _ (C_part (Kd.C_below HCD.out HB.out) 8 8 (by omega)) (part_bytes HRB.out 8 8)).mono ?_
      rintro e W2 ⟨rfl, rfl⟩
      by_cases hKneg : K < 0
      · go_wp2
        refine bodyPost_ret (results_tc rfl _ _ w.heap.size 58 #[.int .i64 a, .int .i64 17] (0, 0) _ rfl (by simpa using blk_set (blk_set HF.out 0 (.int .i64 a)) 1 (.int .i64 17)) Try.underlying58 rfl (by kernel_rfl)) rfl ?_
        refine ⟨(HB.out.setCell (Nat.le_refl _) _).setCell (Nat.le_refl _) _, _, (a : Int), 17, [], rfl, ?_, Kd.R_nil _ _ _ _ _⟩
        have hak := HAK.out
        rw [hak]
        exact .bad k (by omega) HOK.out (by rw [HREC.out]; exact HBAD.out (.inl hKneg)) hk40
      by_cases hKbig : 9 ≤ K
      · go_wp2
        refine bodyPost_ret (results_tc rfl _ _ w.heap.size 58 #[.int .i64 a, .int .i64 17] (0, 0) _ rfl (by simpa using blk_set (blk_set HF.out 0 (.int .i64 a)) 1 (.int .i64 17)) Try.underlying58 rfl (by kernel_rfl)) rfl ?_
        refine ⟨(HB.out.setCell (Nat.le_refl _) _).setCell (Nat.le_refl _) _, _, (a : Int), 17, [], rfl, ?_, Kd.R_nil _ _ _ _ _⟩
        have hak := HAK.out
        rw [hak]
        exact .bad k (by omega) HOK.out (by rw [HREC.out]; exact HBAD.out (.inr hKbig)) hk40
      go_wp2
      have HRW := Lib.hid (Kd.R_drew HR.out)
      have HBD := Lib.hid HB.out.drew
      have HFD := Lib.hid (blk_drew HF.out)
      obtain ⟨Y0, hY0⟩ : ∃ Y, wrap64 (numOf ((r.drop 0).take 8)) = Y := ⟨_, rfl⟩
      have HY0 := Lib.hid hY0
      obtain ⟨Y2, hY2⟩ : ∃ Y, wrap32 (numOf ((r.drop 16).take 4)) = Y := ⟨_, rfl⟩
      have HY2 := Lib.hid hY2
      obtain ⟨Y3, hY3⟩ : ∃ Y, wrap32 (numOf ((r.drop 20).take 4)) = Y := ⟨_, rfl⟩
      have HY3 := Lib.hid hY3
      obtain ⟨Y4, hY4⟩ : ∃ Y, wrap64 (numOf ((r.drop 24).take 8)) = Y := ⟨_, rfl⟩
      have HY4 := Lib.hid hY4
      obtain ⟨Y5, hY5⟩ : ∃ Y, wrap64 (numOf ((r.drop 32).take 8)) = Y := ⟨_, rfl⟩
      have HY5 := Lib.hid hY5
      have hdec : decEv r = ⟨Y0, K, Y2, Y3, Y4, Y5⟩ := by
        unfold decEv
        rw [HKD.out, HY2.out, HY3.out, HY4.out, HY5.out, show r.take 8 = (r.drop 0).take 8 by simp, HY0.out]
      have HDEC := Lib.hid hdec
      have s8 : (8 : Int) ≤ (q : Int) := by omega
      have s16 : (16 : Int) ≤ (q : Int) := by omega
      have s20 : (20 : Int) ≤ (q : Int) := by omega
      have s24 : (24 : Int) ≤ (q : Int) := by omega
      have s32 : (32 : Int) ≤ (q : Int) := by omega
      have tk0 : True := trivial
      have tk2 : True := trivial
      have tk3 : True := trivial
      have tk4 : True := trivial
      have tk5 : True := trivial
      have hkl : (evs b k).length = k := evs_length b k
      have HKL := Lib.hid hkl
      clear hdec f0 f1 g0 g1 hkl hY0 hY2 hY3 hY4 hY5
      go_region_held3 (fun _ => True) (exact trivial)
        (first
          | (go_at_call 44; have _t := tk0; refine (number_eq _ _ _ Y0 HY0.out _ (C_part0 (Kd.C_below HCD.out HBD.out) 8 (by omega)) (part_bytes HRB.out 0 8)).mono ?_; rintro e V0 ⟨rfl, rfl⟩; clear tk0)
          | (go_at_call 45; have _t := tk2; refine (half_eq _ _ _ Y2 HY2.out _ (C_part (Kd.C_below HCD.out HBD.out) 16 4 (by omega)) (part_bytes HRB.out 16 4)).mono ?_; rintro e V2 ⟨rfl, hb2⟩; have HB2 := Lib.hid (HBD.out.trans (hb2.mono HBD.out.size)); have HR2 := Lib.hid (Kd.R_below HRW.out hb2); have HF2 := Lib.hid (blk_below HFD.out hb2); clear tk2 hb2)
          | (go_at_call 45; have _t := tk3; refine (half_eq _ _ _ Y3 HY3.out _ (C_part (Kd.C_below HCD.out HB2.out) 20 4 (by omega)) (part_bytes HRB.out 20 4)).mono ?_; rintro e V3 ⟨rfl, hb3⟩; have HB5 := Lib.hid (HB2.out.trans (hb3.mono HB2.out.size)); have HR5 := Lib.hid (Kd.R_below HR2.out hb3); have HF5 := Lib.hid (blk_below HF2.out hb3); clear tk3 hb3)
          | (go_at_call 44; have _t := tk4; refine (number_eq _ _ _ Y4 HY4.out _ (C_part (Kd.C_below HCD.out HB5.out) 24 8 (by omega)) (part_bytes HRB.out 24 8)).mono ?_; rintro e V4 ⟨rfl, rfl⟩; clear tk4)
          | (go_at_call 44; have _t := tk5; refine (number_eq _ _ _ Y5 HY5.out _ (C_part (Kd.C_below HCD.out HB5.out) 32 8 (by omega)) (part_bytes HRB.out 32 8)).mono ?_; rintro e V5 ⟨rfl, rfl⟩; clear tk5)
          | (refine Kd.R_append_step k47 (w0 := w) w.heap.size (by rfl) (.tmp 33) (.tmp 51) 34 49 _ 48 (by rfl) Try.underlying34 info49 rfl (by decide) (by decide) u4 (evs b k) ⟨Y0, K, Y2, Y3, Y4, Y5⟩ (evCells ⟨Y0, K, Y2, Y3, Y4, Y5⟩) (fun _ => True) (fun _ => False) (by rfl) (by rfl) (k47_mkM _ _ _ ⟨Y0, K, Y2, Y3, Y4, Y5⟩) (fun _ h => h.elim) (fun _ _ => trivial) HR5.out HB5.out HB5.out.size (by rw [HKL.out]; omega) ?_; intro v3 w3 hR3 hB3 hg3 _))
      have hF3 := blk_grown HF5.out hg3 (Kd.R_ne HR5.out HF5.out (by decide))
      have HF3 := Lib.hid hF3
      have HB3 := Lib.hid hB3
      have HK3 : Hid (∃ k', a + 40 = 40 * k' ∧ (∀ j, j < k' → okR (recAt b j) = true) ∧ Kd.R k47 49 w3 w.heap.size (fun _ => True) v3 (evs b k')) := by
        refine ⟨k + 1, by have := HAK.out; omega, fun j hj => ?_, ?_⟩
        · rcases Nat.lt_or_ge j k with h | h
          · exact HOK.out j h
          · obtain rfl : j = k := by omega
            rw [HREC.out]; unfold okR; rw [HKD.out]
            simp; omega
        · rw [evs_succ, HREC.out, HDEC.out]; exact hR3
      clear hR3 hB3 hg3 hF3 HBD HRW HFD HF5 HR5 HB5 HF2 HR2 HB2 HF HB HAK HOK HR
      go_wp2
      go_roundw
      case rel => exact ⟨a + 40, by omega, by go_num, HF3, HB3, HK3⟩
      case measure => simp [intOf]; omega
    · have hx1 : (b.length : Int) < (a : Int) + 40 := by omega
      have HAK := Lib.hid hak
      clear hak
      by_cases hrest : (a : Int) < (b.length : Int)
      · go_wp2
        refine bodyPost_ret (results_tc rfl _ _ w.heap.size 58 #[.int .i64 a, .int .i64 12] (0, 0) _ rfl (by simpa using blk_set (blk_set HF.out 0 (.int .i64 a)) 1 (.int .i64 12)) Try.underlying58 rfl (by kernel_rfl)) rfl ?_
        refine ⟨(HB.out.setCell (Nat.le_refl _) _).setCell (Nat.le_refl _) _, _, (a : Int), 12, [], rfl, ?_, Kd.R_nil _ _ _ _ _⟩
        have hak := HAK.out
        rw [hak]
        exact .rest k (by omega) hok (by omega) (by omega)
      · go_wp2
        refine bodyPost_ret (results_tc rfl _ _ w.heap.size 58 #[.int .i64 0, .int .i64 0] (0, 0) _ rfl (by simpa using blk_set (blk_set HF.out 0 (.int .i64 0)) 1 (.int .i64 0)) Try.underlying58 rfl (by kernel_rfl)) rfl ?_
        refine ⟨(HB.out.setCell (Nat.le_refl _) _).setCell (Nat.le_refl _) _, _, 0, 0, evs b k, rfl, .all k (by omega) hok (by have := HAK.out; omega), ?_⟩
        exact Kd.R_set (Kd.R_set hR HF.out (by decide) 0 _) (blk_set HF.out 0 _) (by decide) 1 _
end Go.Proofs.Ytepceelkfbjamaa
