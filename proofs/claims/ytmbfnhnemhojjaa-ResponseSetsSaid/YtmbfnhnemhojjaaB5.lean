/- Admission by the program. -/
import Derived.Test.YtmbfnhnemhojjaaB4
namespace Go.Proofs.Ytmbfnhnemhojjaa
set_option linter.unusedVariables false
set_option linter.unusedSimpArgs false
open Go.RowKit Go.Proofs.YtmbfnhnemhojjaaW.PrintWords Go.Proofs.YtmbfnhnemhojjaaW.PrintLast Go.Proofs.YtmbfnhnemhojjaaW.PrintMore PResponseCosts FLib
attribute [local go_sem ↓] hold_cells hold_from hold_build69 hold_store69
attribute [local go_sem] below_alloc_T below_drew_T below_drewN_T run_box run_box2 run_box6 run_zero69 run_heldAlloc

def bndN (t : Tab) (l : List S33) (i : Nat) : Option Nat := bndO (demI t l i (baseI t l i)) 1000000
def meetO (d : Int) : Option Nat → Bool
  | some v => decide ((v : Int) ≤ d)
  | none => false
def meets (t : Tab) (l : List S33) (i : Nat) : Bool := meetO (tk l i).f2 (bndN t l i)
theorem meets_eq (t : Tab) (l : List S33) (i : Nat) : meets t l i = meetO (tk l i).f2 (bndN t l i) := by unfold meets; rfl
def admB (t : Tab) (l : List S33) : Bool := (List.range l.length).all (meets t l)
theorem range_all_snoc (p : Nat → Bool) (k : Nat) : (List.range (k + 1)).all p = ((List.range k).all p && p k) := by rw [List.range_succ, List.all_append]; simp
theorem range_all_false {p : Nat → Bool} {k n : Nat} (h : k < n) (hp : p k = false) : (List.range n).all p = false := List.all_eq_false.2 ⟨k, List.mem_range.2 h, by simp [hp]⟩

theorem admB_no {t : Tab} {l : List S33} {k : Nat} (h : k < l.length) (hp : meets t l k = false) : admB t l = false := range_all_false h hp
theorem admB_yes {t : Tab} {l : List S33} (h : (List.range l.length).all (meets t l) = true) : admB t l = true := h

set_option maxRecDepth 100000 in
set_option maxHeartbeats 400000 in
theorem admitted_any (cs : Array Value) (t : Tab) (A : Option Addr) (c : Nat) (l : List S33) (h : AnaC cs t (.slice A l.length c)) (hs : Set t l) (w : World) (hC : Kd.C k33 w A l.length l) :
    Calls Try.prog 44 #[.agg cs] w fun e w' => e = .returned (.bool (admB t l)) ∧ Below w.heap.size w w' := by
  have HK := Lib.hid (fun i hi w hC => bound_any cs t A c l h hs.tab hs.tasks hs.le i hi w hC)
  have HTK := Lib.hid h.tasks
  have HS := Lib.hid h.size
  have HC := Lib.hid hC
  have hlen : (l.length : Int) ≤ 12 := by have := hs.le; omega
  clear h hs hC
  have htk := HTK.out
  go_enter Try.func44, Try.ntmps44
  go_wp2
  clear htk
  refine abs_w (fun W => W.heap[w.heap.size]? = some (.cells cs 69 (0, 0)) ∧ Below w.heap.size w W) ⟨blk_new _ _, below_alloc (Below.refl _ _) _⟩ ?_
  rintro W ⟨hq0, hB⟩
  have HCW := Lib.hid (Kd.C_below HC.out hB)
  have HB := Lib.hid hB
  generalize w.heap.size = q at hq0 ⊢
  have l0 := later_whole (P := Try.prog) hq0 HS.out
  clear hq0 hB
  go_loopw [10] (fun i wr => ∃ k : Nat, k ≤ l.length ∧ i = .int .i64 k ∧ Hid ((List.range k).all (meets t l) = true) ∧ Below W.heap.size W wr) (fun i _ => l.length - (intOf i).toNat)
  case atStart => exact ⟨0, Nat.zero_le _, rfl, Lib.hid rfl, Below.refl _ _⟩
  case round =>
    obtain ⟨k, hk, rfl, HN, hBr⟩ := hrel
    by_cases hlt : k < l.length
    · obtain ⟨ad, rfl, lk, -⟩ := tasks_at HCW.out k hlt
      have hi0 : (0 : Int) ≤ (k : Int) := by omega
      have hi1 : (k : Int) < (l.length : Int) := by omega
      have HKX := Lib.hid (fun w' (hw : Below W.heap.size W w') => HK.out k hlt w' (Kd.C_below HCW.out hw))
      have HMT := Lib.hid (meets_eq t l k)
      have HRS := Lib.hid (range_all_snoc (meets t l) k)
      generalize tk l k = x at lk HMT
      go_wp2_with fail
      refine (HKX.out _ (below_new hBr _)).mono ?_
      rintro e w2 ⟨rfl, hb2⟩
      have hB2 := below_step (below_new hBr (.cells #[.int .i64 x.f0, .int .i64 x.f1, .int .i64 x.f2, .int .i64 x.f3, .int .i64 x.f4, .int .i64 x.f5] 33)) hb2
      have hx2 : w2.cell? ⟨wr.heap.size, 2, none⟩ = some (.int .i64 x.f2) := blk_cell (blk_below (blk_new wr (.cells #[.int .i64 x.f0, .int .i64 x.f1, .int .i64 x.f2, .int .i64 x.f3, .int .i64 x.f4, .int .i64 x.f5] 33)) hb2) 2
      clear lk hb2 hBr HKX
      obtain ⟨o, ho⟩ : ∃ o, bndN t l k = o := ⟨_, rfl⟩
      rw [ho] at HMT
      unfold bndN at ho
      rw [ho]
      clear ho
      cases o with
      | none =>
        unfold bndV
        dsimp only
        go_wp2
        go_ret
        refine ⟨?_, below_step HB.out hB2⟩
        rw [admB_no hlt HMT.out]
        rfl
      | some v =>
        unfold bndV
        dsimp only
        by_cases hle : (v : Int) ≤ x.f2
        · have hh : ¬ (x.f2 < (v : Int)) := by omega
          have HLE := Lib.hid hle
          clear hle
          go_wp2
          go_roundw
          case rel => exact ⟨k + 1, by omega, by go_num, Lib.hid (by rw [HRS.out, HN.out, HMT.out]; simpa [meetO] using HLE.out), hB2⟩
          case measure => simp [intOf]; omega
        · have hh : x.f2 < (v : Int) := by omega
          have HLE := Lib.hid hle
          clear hle
          go_wp2
          go_ret
          refine ⟨?_, below_step HB.out hB2⟩
          rw [admB_no hlt (by rw [HMT.out]; simpa [meetO] using HLE.out)]
          rfl
    · obtain rfl : k = l.length := by omega
      go_wp2
      go_ret
      refine ⟨?_, below_step HB.out hBr⟩
      rw [admB_yes HN.out]
      rfl

def admR (t : Tab) (l : List S33) : Value := if chkI t l = 0 then .tuple #[.bool (admB t l), .int .i64 0] else .tuple #[.bool false, .int .i64 (chkI t l)]
set_option maxRecDepth 100000 in
set_option maxHeartbeats 400000 in
theorem Admitted_any (t : Tab) (ht : t.costs.length = 24) (A : Option Addr) (c : Nat) (l : List S33) (w : World) (hC : Kd.C k33 w A l.length l) :
    Calls Try.prog 19 #[tabV t, .slice A l.length c] w fun e w' => e = .returned (admR t l) ∧ Below w.heap.size w w' := by
  have HA := Lib.hid (fun w hC => check_any t ht A c l w hC)
  have HK := Lib.hid (fun cs A c h hs w hC => admitted_any cs t A c l h hs w hC)
  have HOK := Lib.hid (fun h => chk_ok (l := l) ht h)
  have HTC := Lib.hid (tabC ht)
  have HC := Lib.hid hC
  have hsz := tcells_len ht
  unfold tabV at HA ⊢
  generalize (tabCells t).toArray = cs at HA HTC hsz ⊢
  clear ht hC
  go_enter Try.func19, Try.ntmps19
  go_wp2_with fail
  refine (HA.out _ (Kd.C_below HC.out (below_alloc (Below.refl _ _) _))).mono ?_
  rintro e w1 ⟨rfl, hb1⟩
  have k0 := runCells_blk (P := Try.prog) (n := 26) (blk_below (blk_new w (.cells cs 24)) hb1) hsz
  have HB := Lib.hid (below_then (below_alloc (Below.refl w.heap.size w) (.cells cs 24)) (by simp) hb1)
  clear hb1
  by_cases h0 : chkI t l = 0
  · have HSet := HOK.out h0
    have HKX := Lib.hid (HK.out _ _ _ (HTC.out.ana (.slice A l.length c)) HSet w1 (Kd.C_below HC.out HB.out))
    have HE := Lib.hid (show admR t l = .tuple #[.bool (admB t l), .int .i64 0] by unfold admR; rw [if_pos h0])
    have hbld := fun w => run_build69 hsz A l.length c w
    rw [h0]
    clear h0 HSet
    go_wp2_with fail
    refine HKX.out.mono ?_
    rintro e w2 ⟨rfl, hb2⟩
    clear hbld k0
    go_wp2
    go_ret2
    exact ⟨by rw [HE.out]; rfl, below_then HB.out HB.out.size hb2⟩
  · have HE := Lib.hid (show admR t l = .tuple #[.bool false, .int .i64 (chkI t l)] by unfold admR; rw [if_neg h0])
    have h1 : (chkI t l == 0) = false := by simpa using h0
    have h2 : (chkI t l != 0) = true := by simpa using h0
    clear h0
    go_wp2
    go_ret2
    exact ⟨by rw [HE.out]; rfl, HB.out⟩
end Go.Proofs.Ytmbfnhnemhojjaa
