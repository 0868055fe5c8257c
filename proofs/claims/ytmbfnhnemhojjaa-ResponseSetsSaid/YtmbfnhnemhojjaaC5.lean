/- The reference: Blocking, Cost, Bound, Admitted. -/
import Derived.Test.YtmbfnhnemhojjaaC4
namespace Go.Proofs.Ytmbfnhnemhojjaa
set_option linter.unusedVariables false
set_option linter.unusedSimpArgs false
open Go.RowKit Go.Proofs.YtmbfnhnemhojjaaW.PrintWords Go.Proofs.YtmbfnhnemhojjaaW.PrintLast Go.Proofs.YtmbfnhnemhojjaaW.PrintMore PResponseCosts FLib
attribute [local go_sem ↓] hold_cells hold_from
attribute [local go_sem] below_alloc_T below_drew_T below_drewN_T run_box run_box2 run_box6

theorem atI_eq (t : Tab) (l : List S33) (i : Int) : atI t l i = if chkI t l = 0 then (if i < 0 ∨ (l.length : Int) ≤ i then 34 else 0) else chkI t l := rfl

set_option maxRecDepth 100000 in
set_option maxHeartbeats 400000 in
theorem rblocking_any (cs : Array Value) (t : Tab) (ht : t.costs.length = 24) (h : TabC' cs t) (A : Option Addr) (c : Nat) (l : List S33) (i : Int) (w : World) (hC : Kd.C k33 w A l.length l) :
    Calls Try.prog 15 #[.agg cs, .slice A l.length c, .int .i64 i] w fun e w' => e = .returned (blkR t l i) ∧ Below w.heap.size w w' := by
  have HA := Lib.hid (fun w hC => rcheck_any cs t ht h A c l w hC)
  have HK := Lib.hid (fun ht hl h12 i hi w hC => rblock_any cs t h.toTabC ht A c l hl h12 i hi w hC)
  have HOK := Lib.hid (fun h => chk_ok (l := l) ht h)
  have HE0 := Lib.hid (atI_eq t l i)
  have HC := Lib.hid hC
  have hsz := h.size
  clear ht hC h
  go_enter Try.func15, Try.ntmps15
  go_wp2_with fail
  refine (HA.out _ (Kd.C_below HC.out (below_alloc (Below.refl _ _) _))).mono ?_
  rintro e w1 ⟨rfl, hb1⟩
  have k0 := runCells_blk (P := Try.prog) (n := 26) (blk_below (blk_new w (.cells cs 36)) hb1) hsz
  have HB := Lib.hid (below_then (below_alloc (Below.refl w.heap.size w) (.cells cs 36)) (by simp) hb1)
  clear hb1
  by_cases h0 : chkI t l = 0
  · have HSet := HOK.out h0
    rw [h0, if_pos rfl] at HE0
    rw [h0]
    clear h0
    by_cases hi : i < 0
    · have HE := Lib.hid (show blkR t l i = .tuple #[.int .i64 0, .int .i64 34] by (have hat : atI t l i = 34 := (by rw [HE0.out, if_pos (.inl hi)])); unfold blkR; rw [hat, if_neg (by decide)])
      go_wp2
      go_ret2
      exact ⟨by rw [HE.out]; rfl, HB.out⟩
    by_cases hi2 : (l.length : Int) ≤ i
    · have HE := Lib.hid (show blkR t l i = .tuple #[.int .i64 0, .int .i64 34] by (have hat : atI t l i = 34 := (by rw [HE0.out, if_pos (.inr hi2)])); unfold blkR; rw [hat, if_neg (by decide)])
      go_wp2
      go_ret2
      exact ⟨by rw [HE.out]; rfl, HB.out⟩
    obtain ⟨j, rfl⟩ := Int.eq_ofNat_of_zero_le (show 0 ≤ i by omega)
    have HE := Lib.hid (show blkR t l (j : Int) = .tuple #[.int .i64 (blockI t l j), .int .i64 0] by (have hat : atI t l (j : Int) = 0 := (by rw [HE0.out, if_neg (by omega)])); unfold blkR; rw [if_pos hat]; rfl)
    have HKX := Lib.hid (HK.out HSet.tab HSet.tasks HSet.le j (by omega) w1 (Kd.C_below HC.out HB.out))
    have hj : ¬ (l.length : Int) ≤ (j : Int) := hi2
    clear HSet
    go_wp2_with fail
    refine HKX.out.mono ?_
    rintro e w2 ⟨rfl, hb2⟩
    go_wp2
    go_ret2
    exact ⟨by rw [HE.out]; rfl, below_then HB.out HB.out.size hb2⟩
  · rw [if_neg h0] at HE0
    have HE := Lib.hid (show blkR t l i = .tuple #[.int .i64 0, .int .i64 (chkI t l)] by unfold blkR; rw [HE0.out, if_neg h0])
    have h1 : (chkI t l == 0) = false := by simpa using h0
    have h2 : (chkI t l != 0) = true := by simpa using h0
    clear h0
    go_wp2
    go_ret2
    exact ⟨by rw [HE.out]; rfl, HB.out⟩

set_option maxRecDepth 100000 in
set_option maxHeartbeats 400000 in
theorem rBound_any (cs : Array Value) (t : Tab) (ht : t.costs.length = 24) (h : TabC' cs t) (A : Option Addr) (c : Nat) (l : List S33) (i : Int) (w : World) (hC : Kd.C k33 w A l.length l) :
    Calls Try.prog 18 #[.agg cs, .slice A l.length c, .int .i64 i] w fun e w' => e = .returned (bndR t l i) ∧ Below w.heap.size w w' := by
  have HA := Lib.hid (fun w hC => rcheck_any cs t ht h A c l w hC)
  have HK := Lib.hid (fun ht hl h12 i hi w hC => rbound_any cs t h.toTabC ht A c l hl h12 i hi 1000000 (Nat.le_refl _) w hC)
  have HOK := Lib.hid (fun h => chk_ok (l := l) ht h)
  have HE0 := Lib.hid (atI_eq t l i)
  have HC := Lib.hid hC
  have hsz := h.size
  clear ht hC h
  go_enter Try.func18, Try.ntmps18
  go_wp2_with fail
  refine (HA.out _ (Kd.C_below HC.out (below_alloc (Below.refl _ _) _))).mono ?_
  rintro e w1 ⟨rfl, hb1⟩
  have k0 := runCells_blk (P := Try.prog) (n := 26) (blk_below (blk_new w (.cells cs 36)) hb1) hsz
  have HB := Lib.hid (below_then (below_alloc (Below.refl w.heap.size w) (.cells cs 36)) (by simp) hb1)
  clear hb1
  by_cases h0 : chkI t l = 0
  · have HSet := HOK.out h0
    rw [h0, if_pos rfl] at HE0
    rw [h0]
    clear h0
    by_cases hi : i < 0
    · have HE := Lib.hid (show bndR t l i = .tuple #[.int .i64 0, .int .i64 34] by (have hat : atI t l i = 34 := (by rw [HE0.out, if_pos (.inl hi)])); unfold bndR; rw [hat, if_neg (by decide)])
      go_wp2
      go_ret2
      exact ⟨by rw [HE.out]; rfl, HB.out⟩
    by_cases hi2 : (l.length : Int) ≤ i
    · have HE := Lib.hid (show bndR t l i = .tuple #[.int .i64 0, .int .i64 34] by (have hat : atI t l i = 34 := (by rw [HE0.out, if_pos (.inr hi2)])); unfold bndR; rw [hat, if_neg (by decide)])
      go_wp2
      go_ret2
      exact ⟨by rw [HE.out]; rfl, HB.out⟩
    obtain ⟨j, rfl⟩ := Int.eq_ofNat_of_zero_le (show 0 ≤ i by omega)
    have HE := Lib.hid (show bndR t l (j : Int) = bndT (bndO (demI t l j (baseI t l j)) 1000000) by (have hat : atI t l (j : Int) = 0 := (by rw [HE0.out, if_neg (by omega)])); unfold bndR; rw [if_pos hat]; rfl)
    have HKX := Lib.hid (HK.out HSet.tab HSet.tasks HSet.le j (by omega) w1 (Kd.C_below HC.out HB.out))
    have hj : ¬ (l.length : Int) ≤ (j : Int) := hi2
    clear HSet
    go_wp2_with fail
    refine HKX.out.mono ?_
    rintro e w2 ⟨rfl, hb2⟩
    clear HKX HK HA
    obtain ⟨o, ho⟩ : ∃ o, bndO (demI t l j (baseI t l j)) 1000000 = o := ⟨_, rfl⟩
    rw [ho] at HE ⊢
    clear ho
    cases o
    all_goals
      unfold rbndV
      dsimp only
      go_wp2
      go_ret2
      exact ⟨by rw [HE.out]; rfl, below_then HB.out HB.out.size hb2⟩
  · rw [if_neg h0] at HE0
    have HE := Lib.hid (show bndR t l i = .tuple #[.int .i64 0, .int .i64 (chkI t l)] by unfold bndR; rw [HE0.out, if_neg h0])
    have h1 : (chkI t l == 0) = false := by simpa using h0
    have h2 : (chkI t l != 0) = true := by simpa using h0
    clear h0
    go_wp2
    go_ret2
    exact ⟨by rw [HE.out]; rfl, HB.out⟩

theorem lit1' (W : World) (q : Nat) (x : S33) (h : W.heap[q]? = some (.cells #[.int .i64 x.f0, .int .i64 x.f1, .int .i64 x.f2, .int .i64 x.f3, .int .i64 x.f4, .int .i64 x.f5] 43 (0, 0))) : Kd.C k33 W (some ⟨q, 0, none⟩) 1 [x] := by
  refine ⟨rfl, by decide, fun _ => ⟨_, rfl, fun j p hj => ?_⟩⟩
  match j, hj with
  | 0, hj =>
    obtain rfl : x = p := by simpa using hj
    refine ⟨tkCells x, rfl, k33_mk W x, fun j u hu => ?_⟩
    rw [add_plain, blk_cell h]
    rw [← hu]
    simp [tkCells]
  | j + 1, hj => simp at hj
set_option maxRecDepth 100000 in
set_option maxHeartbeats 400000 in
theorem rCost_any (cs : Array Value) (t : Tab) (ht : t.costs.length = 24) (h : TabC' cs t) (x : S33) (w : World) : Calls Try.prog 17 #[.agg cs, tkV x] w fun e w' => e = .returned (costR t x) ∧ Below w.heap.size w w' := by
  have HA := Lib.hid (fun A c w hC => rcheck_any cs t ht h A c [x] w hC)
  have HK := Lib.hid (fun ht h4 h5 w => rcost_any cs t h.toTabC ht x h4 h5 w)
  have HOK := Lib.hid (fun h => chk_ok (l := [x]) ht h)
  have hsz := h.size
  unfold tkV
  clear ht h
  have b0 := blk_alloc (blk_alloc (blk_new w (.cells cs 36)) (.cells #[.int .i64 x.f0, .int .i64 x.f1, .int .i64 x.f2, .int .i64 x.f3, .int .i64 x.f4, .int .i64 x.f5] 43)) (.cells #[.int .i64 x.f0, .int .i64 x.f1, .int .i64 x.f2, .int .i64 x.f3, .int .i64 x.f4, .int .i64 x.f5] 43)
  have b1 := blk_alloc (blk_new (w.alloc (.cells cs 36)) (.cells #[.int .i64 x.f0, .int .i64 x.f1, .int .i64 x.f2, .int .i64 x.f3, .int .i64 x.f4, .int .i64 x.f5] 43)) (.cells #[.int .i64 x.f0, .int .i64 x.f1, .int .i64 x.f2, .int .i64 x.f3, .int .i64 x.f4, .int .i64 x.f5] 43)
  have b2 := blk_new ((w.alloc (.cells cs 36)).alloc (.cells #[.int .i64 x.f0, .int .i64 x.f1, .int .i64 x.f2, .int .i64 x.f3, .int .i64 x.f4, .int .i64 x.f5] 43)) (.cells #[.int .i64 x.f0, .int .i64 x.f1, .int .i64 x.f2, .int .i64 x.f3, .int .i64 x.f4, .int .i64 x.f5] 43)
  rw [show (w.alloc (.cells cs 36)).heap.size = w.heap.size + 1 by simp] at b1
  rw [show ((w.alloc (.cells cs 36)).alloc (.cells #[.int .i64 x.f0, .int .i64 x.f1, .int .i64 x.f2, .int .i64 x.f3, .int .i64 x.f4, .int .i64 x.f5] 43)).heap.size = w.heap.size + 1 + 1 by simp] at b2
  have HB0 := Lib.hid (below_alloc (below_alloc (below_alloc (Below.refl w.heap.size w) (.cells cs 36)) (.cells #[.int .i64 x.f0, .int .i64 x.f1, .int .i64 x.f2, .int .i64 x.f3, .int .i64 x.f4, .int .i64 x.f5] 43)) (.cells #[.int .i64 x.f0, .int .i64 x.f1, .int .i64 x.f2, .int .i64 x.f3, .int .i64 x.f4, .int .i64 x.f5] 43))
  have b0 := Lib.hid b0
  have b1 := Lib.hid b1
  have b2 := Lib.hid b2
  go_enter Try.func17, Try.ntmps17
  go_wp2_with fail
  refine (HA.out (some ⟨w.heap.size + 1 + 1, 0, none⟩) 1 _ (lit1' _ _ x b2.out)).mono ?_
  rintro e w1 ⟨rfl, hb1⟩
  have k0 := runCells_blk (P := Try.prog) (n := 26) (blk_below b0.out hb1) hsz
  have k1 := runCells_blk (P := Try.prog) (n := 6) (blk_below b1.out hb1) rfl
  have HB := Lib.hid (below_then HB0.out (by simp; omega) hb1)
  clear hb1 b0 b1 b2 HB0
  by_cases h0 : chkI t [x] = 0
  · have HSet := HOK.out h0
    have hx := HSet.tasks x (List.mem_singleton.2 rfl)
    have HKX := Lib.hid (HK.out HSet.tab hx.f4 hx.f5)
    have HE := Lib.hid (show costR t x = .tuple #[.int .i64 (jobI t x), .int .i64 0] by unfold costR; rw [if_pos h0])
    unfold tkV at HKX
    rw [h0]
    clear h0 HSet hx
    go_wp2_with fail
    refine (HKX.out _).mono ?_
    rintro e w2 ⟨rfl, hb2⟩
    clear k0 k1
    go_wp2
    go_ret2
    exact ⟨by rw [HE.out]; rfl, below_then HB.out HB.out.size hb2⟩
  · have HE := Lib.hid (show costR t x = .tuple #[.int .i64 0, .int .i64 (chkI t [x])] by unfold costR; rw [if_neg h0])
    have h1 : (chkI t [x] == 0) = false := by simpa using h0
    have h2 : (chkI t [x] != 0) = true := by simpa using h0
    clear h0
    go_wp2
    go_ret2
    exact ⟨by rw [HE.out]; rfl, HB.out⟩
end Go.Proofs.Ytmbfnhnemhojjaa
