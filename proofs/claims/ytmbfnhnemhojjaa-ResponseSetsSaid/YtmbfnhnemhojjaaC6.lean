/- The reference: admission. -/
import Derived.Test.YtmbfnhnemhojjaaC5
namespace Go.Proofs.Ytmbfnhnemhojjaa
set_option linter.unusedVariables false
set_option linter.unusedSimpArgs false
open Go.RowKit Go.Proofs.YtmbfnhnemhojjaaW.PrintWords Go.Proofs.YtmbfnhnemhojjaaW.PrintLast Go.Proofs.YtmbfnhnemhojjaaW.PrintMore PResponseCosts FLib
attribute [local go_sem ↓] hold_cells hold_from
attribute [local go_sem] below_alloc_T below_drew_T below_drewN_T run_box run_box2 run_box6

theorem meets_lim (t : Tab) (l : List S33) (i d : Nat) (hd : (tk l i).f2 = d) (hle : d ≤ 1000000) : meets t l i = (bndO (demI t l i (baseI t l i)) d).isSome := by
  rw [meets_eq, hd, bndO_lim hle]
  unfold bndN
  generalize bndO (demI t l i (baseI t l i)) 1000000 = o
  cases o with
  | none => rfl
  | some v =>
    simp only [meetO, Option.bind_some]
    by_cases h : v ≤ d
    · rw [if_pos h]; simp; omega
    · rw [if_neg h]; simp; omega

set_option maxRecDepth 100000 in
set_option maxHeartbeats 400000 in
theorem radmitted_any (cs : Array Value) (t : Tab) (h : TabC cs t) (A : Option Addr) (c : Nat) (l : List S33) (hs : Set t l) (w : World) (hC : Kd.C k33 w A l.length l) :
    Calls Try.prog 45 #[.agg cs, .slice A l.length c] w fun e w' => e = .returned (.bool (admB t l)) ∧ Below w.heap.size w w' := by
  have HK := Lib.hid (fun i hi lim hm w hC => rbound_any cs t h hs.tab A c l hs.tasks hs.le i hi lim hm w hC)
  have HS := Lib.hid h.size
  have HL := Lib.hid hs.tasks
  have HC := Lib.hid hC
  have hlen : (l.length : Int) ≤ 12 := by have := hs.le; omega
  clear h hs hC
  go_enter Try.func45, Try.ntmps45
  go_wp2
  refine abs_w (fun W => W.heap[w.heap.size]? = some (.cells cs 36 (0, 0)) ∧ Below w.heap.size w W) ⟨blk_new _ _, below_alloc (Below.refl _ _) _⟩ ?_
  rintro W ⟨hq0, hB⟩
  have HCW := Lib.hid (Kd.C_below HC.out hB)
  have HB := Lib.hid hB
  generalize w.heap.size = q at hq0 ⊢
  have l0 := later_whole (P := Try.prog) hq0 HS.out
  clear hq0 hB
  go_loopw [5] (fun i wr => ∃ k : Nat, k ≤ l.length ∧ i = .int .i64 k ∧ Hid ((List.range k).all (meets t l) = true) ∧ Below W.heap.size W wr) (fun i _ => l.length - (intOf i).toNat)
  case atStart => exact ⟨0, Nat.zero_le _, rfl, Lib.hid rfl, Below.refl _ _⟩
  case round =>
    obtain ⟨k, hk, rfl, HN, hBr⟩ := hrel
    by_cases hlt : k < l.length
    · obtain ⟨ad, rfl, -, -, -, l2, -⟩ := task_cells HCW.out k hlt
      have hi0 : (0 : Int) ≤ (k : Int) := by omega
      have hi1 : (k : Int) < (l.length : Int) := by omega
      have hx := HL.out _ (tk_mem hlt)
      obtain ⟨d, hd⟩ := Int.eq_ofNat_of_zero_le (show 0 ≤ (tk l k).f2 by have := hx.f2; omega)
      have hd2 : d ≤ 1000000 := by have := hx.f2; have := hx.f1; omega
      have hmt := meets_lim t l k d hd hd2
      have hkx := fun w' (hw : Below W.heap.size W w') => HK.out k hlt d hd2 w' (Kd.C_below HCW.out hw)
      have HRS := Lib.hid (range_all_snoc (meets t l) k)
      rw [hd] at l2
      clear hx hd hd2
      generalize bndO (demI t l k (baseI t l k)) d = o at hmt hkx
      cases o with
      | none =>
        have HMT := Lib.hid hmt
        have HKX : Hid (∀ w', Below W.heap.size W w' → Calls Try.prog 43 #[.agg cs, .slice (some ad) l.length c, .int .i64 k, .int .i64 d] w' fun e w2 => e = .returned (.tuple #[.int .i64 0, .int .i64 25]) ∧ Below w'.heap.size w' w2) := Lib.hid hkx
        clear hmt hkx
        go_wp2
        go_region_held3 (fun w' => Below W.heap.size W w') (first | assumption | exact below_step (by assumption) (below_drew (Below.refl _ _)) | exact below_step (by assumption) hb1)
          (first | (go_at_call 43; refine (HKX.out _ (by assumption)).mono ?_; rintro e w3 ⟨rfl, hb1⟩))
        refine abs_e (fun w' => Below W.heap.size W w') (by assumption) ?_
        clear HKX l0 l2 hb1
        rintro w1 hB1
        go_wp2
        go_ret
        refine ⟨?_, below_step HB.out hB1⟩
        rw [admB_no hlt HMT.out]
        rfl
      | some v =>
        have HMT := Lib.hid hmt
        have HKX : Hid (∀ w', Below W.heap.size W w' → Calls Try.prog 43 #[.agg cs, .slice (some ad) l.length c, .int .i64 k, .int .i64 d] w' fun e w2 => e = .returned (.tuple #[.int .i64 v, .int .i64 0]) ∧ Below w'.heap.size w' w2) := Lib.hid hkx
        clear hmt hkx
        go_wp2
        go_region_held3 (fun w' => Below W.heap.size W w') (first | assumption | exact below_step (by assumption) (below_drew (Below.refl _ _)) | exact below_step (by assumption) hb1)
          (first | (go_at_call 43; refine (HKX.out _ (by assumption)).mono ?_; rintro e w3 ⟨rfl, hb1⟩))
        refine abs_e (fun w' => Below W.heap.size W w') (by assumption) ?_
        clear HKX l2 hb1
        rintro w1 hB1
        go_wp2
        go_roundw
        case rel => exact ⟨k + 1, by omega, by go_num, Lib.hid (by rw [HRS.out, HN.out, HMT.out]; rfl), hB1⟩
        case measure => simp [intOf]; omega
    · obtain rfl : k = l.length := by omega
      go_wp2
      go_ret
      refine ⟨?_, below_step HB.out hBr⟩
      rw [admB_yes HN.out]
      rfl

set_option maxRecDepth 100000 in
set_option maxHeartbeats 400000 in
theorem rAdmitted_any (cs : Array Value) (t : Tab) (ht : t.costs.length = 24) (h : TabC' cs t) (A : Option Addr) (c : Nat) (l : List S33) (w : World) (hC : Kd.C k33 w A l.length l) :
    Calls Try.prog 20 #[.agg cs, .slice A l.length c] w fun e w' => e = .returned (admR t l) ∧ Below w.heap.size w w' := by
  have HA := Lib.hid (fun w hC => rcheck_any cs t ht h A c l w hC)
  have HK := Lib.hid (fun hs w hC => radmitted_any cs t h.toTabC A c l hs w hC)
  have HOK := Lib.hid (fun h => chk_ok (l := l) ht h)
  have HC := Lib.hid hC
  have hsz := h.size
  clear ht hC h
  go_enter Try.func20, Try.ntmps20
  go_wp2_with fail
  refine (HA.out _ (Kd.C_below HC.out (below_alloc (Below.refl _ _) _))).mono ?_
  rintro e w1 ⟨rfl, hb1⟩
  have k0 := runCells_blk (P := Try.prog) (n := 26) (blk_below (blk_new w (.cells cs 36)) hb1) hsz
  have HB := Lib.hid (below_then (below_alloc (Below.refl w.heap.size w) (.cells cs 36)) (by simp) hb1)
  clear hb1
  by_cases h0 : chkI t l = 0
  · have HSet := HOK.out h0
    have HKX := Lib.hid (HK.out HSet w1 (Kd.C_below HC.out HB.out))
    have HE := Lib.hid (show admR t l = .tuple #[.bool (admB t l), .int .i64 0] by unfold admR; rw [if_pos h0])
    rw [h0]
    clear h0 HSet
    go_wp2_with fail
    refine HKX.out.mono ?_
    rintro e w2 ⟨rfl, hb2⟩
    clear k0
    go_wp2
    go_ret2
    exact ⟨by rw [HE.out]; rfl, below_then HB.out HB.out.size hb2⟩
  · have HE := Lib.hid (show admR t l = .tuple #[.bool false, .int .i64 (chkI t l)] by unfold admR; rw [if_neg h0])
    have h1 : (chkI t l == 0) = false := by simpa using h0
    have h2 : (chkI t l != 0) = true := by simpa using h0
    clear h0
    go_wp2
    go_ret2
    exact ⟨by rw [HE.out]; rfl, HB.out⟩
end Go.Proofs.Ytmbfnhnemhojjaa
