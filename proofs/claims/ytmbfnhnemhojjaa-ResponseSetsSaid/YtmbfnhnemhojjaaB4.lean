/- Blocking, Bound, Cost of the program. -/
import Derived.Test.YtmbfnhnemhojjaaB3
namespace Go.Proofs.Ytmbfnhnemhojjaa
set_option linter.unusedVariables false
set_option linter.unusedSimpArgs false
open Go.RowKit Go.Proofs.YtmbfnhnemhojjaaW.PrintWords Go.Proofs.YtmbfnhnemhojjaaW.PrintLast Go.Proofs.YtmbfnhnemhojjaaW.PrintMore PResponseCosts FLib

def One (cs : Array Value) : Prop := cs.all (·.oneCell') = true
theorem run_heldAlloc {W : World} {cs : Array Value} (hs : cs.size = 27) (h1 : One cs) : (HeldStore 69 ⟨W.heap.size, 0, none⟩ (.agg cs)).run Try.prog (W.alloc (.cells #[.int .i64 0, .int .i64 0, .int .i64 0, .int .i64 0, .int .i64 0, .int .i64 0, .int .i64 0, .int .i64 0, .int .i64 0, .int .i64 0, .int .i64 0, .int .i64 0, .int .i64 0, .int .i64 0, .int .i64 0, .int .i64 0, .int .i64 0, .int .i64 0, .int .i64 0, .int .i64 0, .int .i64 0, .int .i64 0, .int .i64 0, .int .i64 0, .int .i64 0, .int .i64 0, .slice none 0 0] 69)) = .ok () (W.alloc (.cells cs 69)) := by
  have h2 := run_storeAll (P := Try.prog) (W := W) (cs := cs) (zs := #[.int .i64 0, .int .i64 0, .int .i64 0, .int .i64 0, .int .i64 0, .int .i64 0, .int .i64 0, .int .i64 0, .int .i64 0, .int .i64 0, .int .i64 0, .int .i64 0, .int .i64 0, .int .i64 0, .int .i64 0, .int .i64 0, .int .i64 0, .int .i64 0, .int .i64 0, .int .i64 0, .int .i64 0, .int .i64 0, .int .i64 0, .int .i64 0, .int .i64 0, .int .i64 0, .slice none 0 0]) (ty := 69) (by rw [hs]; rfl) h1
  have hi : (Try.prog.info? 69).map (·.size) = some 27 := by kernel_rfl
  cases hq : Try.prog.info? 69 with
  | none => simp [hq] at hi
  | some i =>
    have hs' : i.size = 27 := by simpa [hq] using hi
    simp [HeldStore, storeVar, sizeOf, typeInfo, hq, Value.cells, hs', hs, h2]
theorem run_boxAt {P : Program} {w : World} {cs : Array Value} {ty n g : Nat} (hg : g = w.heap.size) (h : cs.size = n) : RunCells P ⟨g, 0, none⟩ n (w.alloc (.cells cs ty)) = .ok cs (w.alloc (.cells cs ty)) := by subst hg; exact run_box h
theorem run_box6 {P : Program} {w : World} {a b c d e f : Value} {ty g : Nat} (hg : g = w.heap.size) : RunCells P ⟨g, 0, none⟩ 6 (w.alloc (.cells #[a, b, c, d, e, f] ty)) = .ok #[a, b, c, d, e, f] (w.alloc (.cells #[a, b, c, d, e, f] ty)) := run_boxAt hg rfl
attribute [local go_sem ↓] hold_cells hold_from hold_build69 hold_store69
attribute [local go_sem] below_alloc_T below_drew_T below_drewN_T run_box run_box2 run_box6 run_zero69 run_heldAlloc

def blkR (t : Tab) (l : List S33) (i : Int) : Value := if atI t l i = 0 then .tuple #[.int .i64 (blockI t l i.toNat), .int .i64 0] else .tuple #[.int .i64 0, .int .i64 (atI t l i)]
def bndT : Option Nat → Value
  | some v => .tuple #[.int .i64 v, .int .i64 0]
  | none => .tuple #[.int .i64 0, .int .i64 25]
def bndR (t : Tab) (l : List S33) (i : Int) : Value := if atI t l i = 0 then bndT (bndO (demI t l i.toNat (baseI t l i.toNat)) 1000000) else .tuple #[.int .i64 0, .int .i64 (atI t l i)]
def costR (t : Tab) (x : S33) : Value := if chkI t [x] = 0 then .tuple #[.int .i64 (jobI t x), .int .i64 0] else .tuple #[.int .i64 0, .int .i64 (chkI t [x])]
theorem at_zero {t : Tab} {l : List S33} {i : Int} (h : atI t l i = 0) : chkI t l = 0 ∧ 0 ≤ i ∧ i < l.length := by
  unfold atI at h
  split at h
  · rename_i h1
    split at h
    · cases h
    · exact ⟨h1, by omega, by omega⟩
  · rename_i h1; exact absurd h h1

set_option maxRecDepth 100000 in
set_option maxHeartbeats 400000 in
theorem blocking_any (t : Tab) (ht : t.costs.length = 24) (A : Option Addr) (c : Nat) (l : List S33) (i : Int) (w : World) (hC : Kd.C k33 w A l.length l) :
    Calls Try.prog 14 #[tabV t, .slice A l.length c, .int .i64 i] w fun e w' => e = .returned (blkR t l i) ∧ Below w.heap.size w w' := by
  have HA := Lib.hid (fun w hC => at_any t ht A c l i w hC)
  have HK := Lib.hid (fun cs A c h ht hl h12 i hi w hC => block_any cs t A c l h ht hl h12 i hi w hC)
  have HOK := Lib.hid (fun h => chk_ok (l := l) ht h)
  have HC := Lib.hid hC
  have hsz := tcells_len ht
  unfold tabV at HA ⊢
  generalize (tabCells t).toArray = cs at HA hsz ⊢
  clear ht hC
  go_enter Try.func14, Try.ntmps14
  go_wp2_with fail
  refine (HA.out _ (Kd.C_below HC.out (below_alloc (Below.refl _ _) _))).mono ?_
  rintro e w1 ⟨cs1, rfl, hs1, ho1, hb1, hp⟩
  have HB := Lib.hid (below_then (below_alloc (Below.refl w.heap.size w) (.cells cs 24)) (by simp) hb1)
  have HB2 := Lib.hid (below_alloc HB.out (.cells cs1 69))
  have HP := Lib.hid hp
  clear hp hb1
  have ho : One cs1 := ho1
  clear ho1
  by_cases h0 : atI t l i = 0
  · obtain ⟨hck, hi0, hi1⟩ := at_zero h0
    obtain ⟨A1, c1, hana, hR⟩ := HP.out h0
    have HSet := HOK.out hck
    obtain ⟨j, rfl⟩ := Int.eq_ofNat_of_zero_le hi0
    have HKX := Lib.hid (HK.out cs1 A1 c1 hana HSet.tab HSet.tasks HSet.le j (by omega) (w1.alloc (.cells cs1 69)) (Kd.C_alloc (Kd.R_reads' hR).2.2 _))
    have HE := Lib.hid (show blkR t l (j : Int) = .tuple #[.int .i64 (blockI t l j), .int .i64 0] by unfold blkR; rw [if_pos h0]; rfl)
    rw [h0]
    clear h0 hck hana hR HSet
    go_wp2_with fail
    refine HKX.out.mono ?_
    rintro e w2 ⟨rfl, hb2⟩
    go_wp2
    go_ret2
    exact ⟨by rw [HE.out]; rfl, below_then HB2.out HB2.out.size hb2⟩
  · have HE := Lib.hid (show blkR t l i = .tuple #[.int .i64 0, .int .i64 (atI t l i)] by unfold blkR; rw [if_neg h0])
    have h1 : (atI t l i == 0) = false := by simpa using h0
    have h2 : (atI t l i != 0) = true := by simpa using h0
    clear h0
    go_wp2
    go_ret2
    exact ⟨by rw [HE.out]; rfl, HB2.out⟩

set_option maxRecDepth 100000 in
set_option maxHeartbeats 400000 in
theorem Bound_any (t : Tab) (ht : t.costs.length = 24) (A : Option Addr) (c : Nat) (l : List S33) (i : Int) (w : World) (hC : Kd.C k33 w A l.length l) :
    Calls Try.prog 10 #[tabV t, .slice A l.length c, .int .i64 i] w fun e w' => e = .returned (bndR t l i) ∧ Below w.heap.size w w' := by
  have HA := Lib.hid (fun w hC => at_any t ht A c l i w hC)
  have HK := Lib.hid (fun cs A c h ht hl h12 i hi w hC => bound_any cs t A c l h ht hl h12 i hi w hC)
  have HOK := Lib.hid (fun h => chk_ok (l := l) ht h)
  have HC := Lib.hid hC
  have hsz := tcells_len ht
  unfold tabV at HA ⊢
  generalize (tabCells t).toArray = cs at HA hsz ⊢
  clear ht hC
  go_enter Try.func10, Try.ntmps10
  go_wp2_with fail
  refine (HA.out _ (Kd.C_below HC.out (below_alloc (Below.refl _ _) _))).mono ?_
  rintro e w1 ⟨cs1, rfl, hs1, ho1, hb1, hp⟩
  have HB := Lib.hid (below_then (below_alloc (Below.refl w.heap.size w) (.cells cs 24)) (by simp) hb1)
  have HB2 := Lib.hid (below_alloc HB.out (.cells cs1 69))
  have HP := Lib.hid hp
  clear hp hb1
  have ho : One cs1 := ho1
  clear ho1
  by_cases h0 : atI t l i = 0
  · obtain ⟨hck, hi0, hi1⟩ := at_zero h0
    obtain ⟨A1, c1, hana, hR⟩ := HP.out h0
    have HSet := HOK.out hck
    obtain ⟨j, rfl⟩ := Int.eq_ofNat_of_zero_le hi0
    have HKX := Lib.hid (HK.out cs1 A1 c1 hana HSet.tab HSet.tasks HSet.le j (by omega) (w1.alloc (.cells cs1 69)) (Kd.C_alloc (Kd.R_reads' hR).2.2 _))
    have HE := Lib.hid (show bndR t l (j : Int) = bndT (bndO (demI t l j (baseI t l j)) 1000000) by unfold bndR; rw [if_pos h0]; rfl)
    rw [h0]
    clear h0 hck hana hR HSet
    go_wp2_with fail
    refine HKX.out.mono ?_
    rintro e w2 ⟨rfl, hb2⟩
    clear HKX HP HK HA
    obtain ⟨o, ho⟩ : ∃ o, bndO (demI t l j (baseI t l j)) 1000000 = o := ⟨_, rfl⟩
    rw [ho] at HE ⊢
    clear ho
    cases o
    all_goals
      unfold bndV
      dsimp only
      go_wp2
      go_ret2
      exact ⟨by rw [HE.out]; rfl, below_then HB2.out HB2.out.size hb2⟩
  · have HE := Lib.hid (show bndR t l i = .tuple #[.int .i64 0, .int .i64 (atI t l i)] by unfold bndR; rw [if_neg h0])
    have h1 : (atI t l i == 0) = false := by simpa using h0
    have h2 : (atI t l i != 0) = true := by simpa using h0
    clear h0
    go_wp2
    go_ret2
    exact ⟨by rw [HE.out]; rfl, HB2.out⟩
/-- A literal of one task. -/
theorem lit1 (W : World) (q : Nat) (x : S33) (h : W.heap[q]? = some (.cells #[.int .i64 x.f0, .int .i64 x.f1, .int .i64 x.f2, .int .i64 x.f3, .int .i64 x.f4, .int .i64 x.f5] 33 (0, 0))) : Kd.C k33 W (some ⟨q, 0, none⟩) 1 [x] := by
  refine ⟨rfl, by decide, fun _ => ⟨_, rfl, fun j p hj => ?_⟩⟩
  match j, hj with
  | 0, hj =>
    obtain rfl : x = p := by simpa using hj
    refine ⟨tkCells x, rfl, k33_mk W x, fun j u hu => ?_⟩
    rw [add_plain, blk_cell h]
    rw [← hu]
    simp [tkCells]
  | j + 1, hj => simp at hj

set_option maxRecDepth 100000 in
set_option maxHeartbeats 400000 in
theorem Cost_any (t : Tab) (ht : t.costs.length = 24) (x : S33) (w : World) : Calls Try.prog 11 #[tabV t, tkV x] w fun e w' => e = .returned (costR t x) ∧ Below w.heap.size w w' := by
  have HA := Lib.hid (fun A c w hC => check_any t ht A c [x] w hC)
  have HK := Lib.hid (fun cs v h ht x h4 h5 w => job_any cs t v h ht x h4 h5 w)
  have HOK := Lib.hid (fun h => chk_ok (l := [x]) ht h)
  have HTC := Lib.hid (tabC ht)
  have hsz := tcells_len ht
  unfold tabV at HA ⊢
  generalize (tabCells t).toArray = cs at HA HTC hsz ⊢
  unfold tkV
  clear ht
  have b0 := blk_alloc (blk_alloc (blk_new w (.cells cs 24)) (.cells #[.int .i64 x.f0, .int .i64 x.f1, .int .i64 x.f2, .int .i64 x.f3, .int .i64 x.f4, .int .i64 x.f5] 33)) (.cells #[.int .i64 x.f0, .int .i64 x.f1, .int .i64 x.f2, .int .i64 x.f3, .int .i64 x.f4, .int .i64 x.f5] 33)
  have b1 := blk_alloc (blk_new (w.alloc (.cells cs 24)) (.cells #[.int .i64 x.f0, .int .i64 x.f1, .int .i64 x.f2, .int .i64 x.f3, .int .i64 x.f4, .int .i64 x.f5] 33)) (.cells #[.int .i64 x.f0, .int .i64 x.f1, .int .i64 x.f2, .int .i64 x.f3, .int .i64 x.f4, .int .i64 x.f5] 33)
  have b2 := blk_new ((w.alloc (.cells cs 24)).alloc (.cells #[.int .i64 x.f0, .int .i64 x.f1, .int .i64 x.f2, .int .i64 x.f3, .int .i64 x.f4, .int .i64 x.f5] 33)) (.cells #[.int .i64 x.f0, .int .i64 x.f1, .int .i64 x.f2, .int .i64 x.f3, .int .i64 x.f4, .int .i64 x.f5] 33)
  rw [show (w.alloc (.cells cs 24)).heap.size = w.heap.size + 1 by simp] at b1
  rw [show ((w.alloc (.cells cs 24)).alloc (.cells #[.int .i64 x.f0, .int .i64 x.f1, .int .i64 x.f2, .int .i64 x.f3, .int .i64 x.f4, .int .i64 x.f5] 33)).heap.size = w.heap.size + 1 + 1 by simp] at b2
  have HB0 := Lib.hid (below_alloc (below_alloc (below_alloc (Below.refl w.heap.size w) (.cells cs 24)) (.cells #[.int .i64 x.f0, .int .i64 x.f1, .int .i64 x.f2, .int .i64 x.f3, .int .i64 x.f4, .int .i64 x.f5] 33)) (.cells #[.int .i64 x.f0, .int .i64 x.f1, .int .i64 x.f2, .int .i64 x.f3, .int .i64 x.f4, .int .i64 x.f5] 33))
  have b0 := Lib.hid b0
  have b1 := Lib.hid b1
  have b2 := Lib.hid b2
  go_enter Try.func11, Try.ntmps11
  go_wp2_with fail
  refine (HA.out (some ⟨w.heap.size + 1 + 1, 0, none⟩) 1 _ (lit1 _ _ x b2.out)).mono ?_
  rintro e w1 ⟨rfl, hb1⟩
  have k0 := runCells_blk (P := Try.prog) (n := 26) (blk_below b0.out hb1) hsz
  have k1 := runCells_blk (P := Try.prog) (n := 6) (blk_below b1.out hb1) rfl
  have HB := Lib.hid (below_then HB0.out (by simp; omega) hb1)
  clear hb1 b0 b1 b2 HB0
  by_cases h0 : chkI t [x] = 0
  · have HSet := HOK.out h0
    have hx := HSet.tasks x (List.mem_singleton.2 rfl)
    have HKX := Lib.hid (HK.out _ _ (HTC.out.ana (.slice none 0 0)) HSet.tab x hx.f4 hx.f5)
    have HE := Lib.hid (show costR t x = .tuple #[.int .i64 (jobI t x), .int .i64 0] by unfold costR; rw [if_pos h0])
    have hbld := fun w => run_build69 hsz none 0 0 w
    unfold tkV at HKX
    rw [h0]
    clear h0 HSet hx
    go_wp2_with fail
    refine (HKX.out _).mono ?_
    rintro e w2 ⟨rfl, hb2⟩
    clear hbld k0 k1
    go_wp2
    go_ret2
    exact ⟨by rw [HE.out]; rfl, below_then HB.out HB.out.size hb2⟩
  · have HE := Lib.hid (show costR t x = .tuple #[.int .i64 0, .int .i64 (chkI t [x])] by unfold costR; rw [if_neg h0])
    have h1 : (chkI t [x] == 0) = false := by simpa using h0
    have h2 : (chkI t [x] != 0) = true := by simpa using h0
    clear h0
    go_wp2
    go_ret2
    exact ⟨by rw [HE.out]; rfl, HB.out⟩
end Go.Proofs.Ytmbfnhnemhojjaa
