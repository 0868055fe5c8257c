/- The reference: demand, bound. -/
import Derived.Test.YtmbfnhnemhojjaaC3
namespace Go.Proofs.Ytmbfnhnemhojjaa
set_option linter.unusedVariables false
set_option linter.unusedSimpArgs false
open Go.RowKit Go.Proofs.YtmbfnhnemhojjaaW.PrintWords Go.Proofs.YtmbfnhnemhojjaaW.PrintLast Go.Proofs.YtmbfnhnemhojjaaW.PrintMore PResponseCosts FLib
attribute [local go_sem ↓] hold_cells hold_from
attribute [local go_sem] below_alloc_T below_drew_T below_drewN_T run_box run_box2 run_box6

set_option maxRecDepth 100000 in
set_option maxHeartbeats 1600000 in
theorem rdem_any (cs : Array Value) (t : Tab) (h : TabC cs t) (ht : TOk t) (A : Option Addr) (c : Nat) (l : List S33) (hl : ∀ x ∈ l, TkOk x) (h12 : l.length ≤ 12) (i : Nat) (hi : i < l.length)
    (r : Int) (hr : 0 ≤ r ∧ r ≤ 1000000) (w : World) (hC : Kd.C k33 w A l.length l) :
    Calls Try.prog 58 #[.agg cs, .slice A l.length c, .int .i64 i, .int .i64 r] w fun e w' => e = .returned (.int .i64 (demI t l i (baseI t l i) r)) ∧ Below w.heap.size w w' := by
  have HJ := Lib.hid (fun x hx => rcost_any cs t h ht x (TkOk.f4 hx) (TkOk.f5 hx))
  have HG := Lib.hid (rgreat_any cs t h ht)
  have HK := Lib.hid (fun w hC => rblock_any cs t h ht A c l hl h12 i hi w hC)
  have hb := base_le ht hl h12 hi
  have HP := Lib.hid (fun k hk => dem_le ht hl i (baseI t l i) hr k hk)
  have HBE := Lib.hid (show baseI t l i = jobI t (tk l i) + blockI t l i from rfl)
  have HS := Lib.hid h.size
  have HT := Lib.hid ht
  have HL := Lib.hid hl
  have HC := Lib.hid hC
  generalize baseI t l i = base at hb HP HBE ⊢
  obtain ⟨b0, b1⟩ := hb
  obtain ⟨r0, r1⟩ := hr
  have hlen : (l.length : Int) ≤ 12 := by omega
  have hi2 : (0 : Int) ≤ (i : Int) := by omega
  have hi3 : (i : Int) < (l.length : Int) := by omega
  clear h ht hl hC
  unfold demI
  go_enter Try.func58, Try.ntmps58
  go_wp2
  refine abs_w (fun W => W.heap[w.heap.size]? = some (.cells cs 36 (0, 0)) ∧ Below w.heap.size w W) ⟨blk_new _ _, below_alloc (Below.refl _ _) _⟩ ?_
  rintro W ⟨hq0, hB⟩
  have HCW := Lib.hid (Kd.C_below HC.out hB)
  have HB := Lib.hid hB
  generalize w.heap.size = q at hq0 ⊢
  have l0 := later_whole (P := Try.prog) hq0 HS.out
  clear hq0 hB
  obtain ⟨ad, rfl, lk, -⟩ := tasks_at HCW.out i hi
  have hv : IntKind.i64.wrap (jobI t (tk l i) + blockI t l i) = base := by
    have he := HBE.out
    rw [← he]
    exact IntWalk.i64_in _ (by omega)
  have HJX := Lib.hid (HJ.out (tk l i) (HL.out _ (tk_mem hi)))
  have HKX := Lib.hid (fun w' (hw : Below W.heap.size W w') => HK.out w' (Kd.C_below HCW.out hw))
  generalize tk l i = y at lk hv HJX
  go_region_held3 (fun w' => Below W.heap.size W w') (first | assumption | exact below_drew (Below.refl _ _) | exact below_step (by assumption) hb1)
    (first | (go_at_call 42; refine (HJX.out _).mono ?_; rintro e w3 ⟨rfl, hb1⟩) | (go_at_call 39; refine (HKX.out _ (by assumption)).mono ?_; rintro e w3 ⟨rfl, hb1⟩))
  all_goals
    refine abs_e (fun w' => Below W.heap.size W w') (by assumption) ?_
    clear hv HJX HKX lk hb1
    rintro w1 hB1
    go_wp2
    go_loopw [9, 10] (fun n i' wr => ∃ k : Nat, k ≤ l.length ∧ i' = .int .i64 k ∧ n = .int .i64 ((List.range k).foldl (demF t l i r) base) ∧ Below W.heap.size W wr) (fun _ i' _ => l.length - (intOf i').toNat)
    case atStart => exact ⟨0, Nat.zero_le _, rfl, rfl, hB1⟩
    case round =>
      obtain ⟨k, hk, rfl, rfl, hBr⟩ := hrel
      by_cases hlt : k < l.length
      · obtain ⟨ad1, he1, lk, l0k, l1k, -, -⟩ := task_cells HCW.out k hlt
        obtain rfl : ad = ad1 := by simpa using he1
        obtain ⟨ad', he, -, lp, -⟩ := task_cells HCW.out i hi
        obtain rfl : ad = ad' := by simpa using he
        clear he he1
        obtain ⟨n0, n1⟩ := HP.out k hk
        have hx := HL.out _ (tk_mem hlt)
        have hj := job_le HT.out hx
        have hg := great_le HT.out
        have hq := quo_le ⟨r0, r1⟩ hx.f1
        have hm := term_le HT.out hx ⟨r0, r1⟩
        have HJX := Lib.hid (HJ.out (tk l k) hx)
        have HTE := Lib.hid (show term t (tk l k) r = ((r + (tk l k).f1 - 1) / (tk l k).f1 + 1) * (jobI t (tk l k) + greatI t) from rfl)
        have HPB := Lib.hid (show hpB l i k = (decide (k ≠ i) && decide ((tk l i).f0 ≤ (tk l k).f0)) from rfl)
        obtain ⟨p0, p1⟩ := hx.f1
        have hts : demF t l i r ((List.range k).foldl (demF t l i r) base) k = if hpB l i k = true then (List.range k).foldl (demF t l i r) base + term t (tk l k) r else (List.range k).foldl (demF t l i r) base := rfl
        have HRF := Lib.hid (range_foldl (demF t l i r) base k)
        generalize (List.range k).foldl (demF t l i r) base = n at hts n0 n1 HRF ⊢
        generalize (tk l i).f0 = p at lp HPB
        generalize term t (tk l k) r = tm at hts hm HTE
        generalize tk l k = x at lk l0k l1k HJX HTE HPB hq p0 p1 hj hx
        have HTS := Lib.hid hts
        obtain ⟨hj0, hj1⟩ := hj
        obtain ⟨hg0, hg1⟩ := hg
        obtain ⟨hq0, hq1⟩ := hq
        generalize jobI t x = j at HJX HTE hj0 hj1
        have HGG := HG
        generalize greatI t = gr at HGG HTE hg0 hg1
        have hi0 : (0 : Int) ≤ (k : Int) := by omega
        have hi1 : (k : Int) < (l.length : Int) := by omega
        clear hts hx
        by_cases hki : k = i
        · subst hki
          go_wp2
          go_quiet (fail)
          go_wp2
          go_roundw
          case rel => exact ⟨k + 1, by omega, by go_num, by rw [HRF.out, HTS.out]; simp [hpB], pw_below_drewN hBr _⟩
          case measure => simp [intOf]; omega
        · have hd1 : ((k : Int) != (i : Int)) = true := by simp; omega
          by_cases hpx : p ≤ x.f0
          · go_wp2
            go_quiet (fail)
            go_wp2
            refine abs_w (fun w' => Below W.heap.size W w') (pw_below_drewN hBr _) ?_
            rintro w2 hB2
            clear hBr hd1
            have v1 : IntKind.i64.wrap (r + x.f1) = r + x.f1 := IntWalk.i64_in _ (by omega)
            have v2 : IntKind.i64.wrap (r + x.f1 - 1) = r + x.f1 - 1 := IntWalk.i64_in _ (by omega)
            have v3 : (r + x.f1 - 1).tdiv x.f1 = (r + x.f1 - 1) / x.f1 := Int.tdiv_eq_ediv_of_nonneg (by omega)
            have v4 : ¬ x.f1 = 0 := by omega
            go_region_held3 (fun w' => Below W.heap.size W w') (first | assumption | exact below_step (by assumption) (below_drew (Below.refl _ _)) | exact below_step (by assumption) hb1)
              (first | (go_at_call 42; refine (HJX.out _).mono ?_; rintro e w3 ⟨rfl, hb1⟩) | (go_at_call 61; refine (HGG.out _).mono ?_; rintro e w3 ⟨rfl, hb1⟩))
            all_goals
              refine abs_e (fun w' => Below W.heap.size W w') (by assumption) ?_
              clear v1 v2 v3 v4 hb1
              rintro w4 hB4
              go_wp2
              go_roundw
              case rel =>
                refine ⟨k + 1, by omega, by go_num, ?_, hB4⟩
                rw [HRF.out, HTS.out, HPB.out, if_pos (by simp [hpx]; omega), HTE.out]
                rw [HTE.out] at hm
                generalize (r + x.f1 - 1) / x.f1 = q at hq0 hq1 hm ⊢
                have e0 : IntKind.i64.wrap q = q := IntWalk.i64_in _ (by omega)
                have e1 : IntKind.i64.wrap (q + 1) = q + 1 := IntWalk.i64_in _ (by omega)
                have e2 : IntKind.i64.wrap (j + gr) = j + gr := IntWalk.i64_in _ (by omega)
                have e3 : IntKind.i64.wrap ((q + 1) * (j + gr)) = (q + 1) * (j + gr) := IntWalk.i64_in _ (by omega)
                have e4 : IntKind.i64.wrap (n + (q + 1) * (j + gr)) = n + (q + 1) * (j + gr) := IntWalk.i64_in _ (by omega)
                simp only [e0, e1, e2, e3, e4]
              case measure => simp [intOf]; omega
          · go_wp2
            go_quiet (fail)
            go_wp2
            go_roundw
            case rel => exact ⟨k + 1, by omega, by go_num, by rw [HRF.out, HTS.out, HPB.out, if_neg (by simp; omega)], pw_below_drewN hBr _⟩
            case measure => simp [intOf]; omega
      · obtain rfl : k = l.length := by omega
        go_wp2
        go_ret
        exact ⟨rfl, below_step HB.out hBr⟩

/-- What the reference's bound returns. -/
def rbndV : Option Nat → Value
  | some v => .tuple #[.int .i64 v, .int .i64 0]
  | none => .tuple #[.int .i64 0, .int .i64 25]

set_option maxRecDepth 100000 in
set_option maxHeartbeats 1000000 in
theorem rbound_any (cs : Array Value) (t : Tab) (h : TabC cs t) (ht : TOk t) (A : Option Addr) (c : Nat) (l : List S33) (hl : ∀ x ∈ l, TkOk x) (h12 : l.length ≤ 12) (i : Nat) (hi : i < l.length)
    (lim : Nat) (hm : lim ≤ 1000000) (w : World) (hC : Kd.C k33 w A l.length l) :
    Calls Try.prog 43 #[.agg cs, .slice A l.length c, .int .i64 i, .int .i64 lim] w fun e w' => e = .returned (rbndV (bndO (demI t l i (baseI t l i)) lim)) ∧ Below w.heap.size w w' := by
  have HJ := Lib.hid (rcost_any cs t h ht (tk l i) (hl _ (tk_mem hi)).f4 (hl _ (tk_mem hi)).f5)
  have HD := Lib.hid (fun r hr w hC => rdem_any cs t h ht A c l hl h12 i hi r hr w hC)
  have HM := Lib.hid (fun r s hrs => dem_mono ht hl i (baseI t l i) (r := r) (s := s) hrs)
  have HN := Lib.hid (fun r hr => dem_base ht hl i (baseI t l i) (r := r) hr)
  have hj := job_le ht (hl _ (tk_mem hi))
  have hlow : jobI t (tk l i) ≤ baseI t l i := by
    have h2 := block_le ht (tk l i).f0 l t.sec hl
    have h3 := ht.sec
    unfold baseI blockI; omega
  have HU0 : Hid (Under (demI t l i (baseI t l i)) (jobI t (tk l i))) := Lib.hid (Under.start (by omega) (fun r hr => by have := HN.out r hr; omega))
  have HS := Lib.hid h.size
  have HC := Lib.hid hC
  have hlen : (l.length : Int) ≤ 12 := by omega
  have hi2 : (0 : Int) ≤ (i : Int) := by omega
  have hi3 : (i : Int) < (l.length : Int) := by omega
  obtain ⟨D, hD⟩ : ∃ D, demI t l i (baseI t l i) = D := ⟨_, rfl⟩
  rw [hD] at HU0 ⊢
  have HDE : Hid (∀ r, demI t l i (baseI t l i) r = D r) := Lib.hid (fun r => by rw [hD])
  have HMD : Hid (∀ r s : Int, r ≤ s → D r ≤ D s) := Lib.hid (fun r s hrs => by rw [← hD]; exact HM.out r s hrs)
  have hm' : (lim : Int) ≤ 1000000 := by omega
  clear h ht hl hC hD hj hlow HM HN
  go_enter Try.func43, Try.ntmps43
  go_wp2
  refine abs_w (fun W => W.heap[w.heap.size]? = some (.cells cs 36 (0, 0)) ∧ Below w.heap.size w W) ⟨blk_new _ _, below_alloc (Below.refl _ _) _⟩ ?_
  rintro W ⟨hq0, hB⟩
  have HCW := Lib.hid (Kd.C_below HC.out hB)
  have HB := Lib.hid hB
  generalize w.heap.size = q at hq0 ⊢
  have l0 := later_whole (P := Try.prog) hq0 HS.out
  clear hq0 hB
  obtain ⟨ad, rfl, lk, -⟩ := tasks_at HCW.out i hi
  unfold tkV at HJ
  generalize jobI t (tk l i) = j at HJ HU0
  generalize tk l i = y at lk HJ
  go_region_held3 (fun w' => Below W.heap.size W w') (first | assumption | exact below_drew (Below.refl _ _) | exact below_step (by assumption) hb1)
    (first | (go_at_call 42; refine (HJ.out _).mono ?_; rintro e w3 ⟨rfl, hb1⟩))
  refine abs_e (fun w' => Below W.heap.size W w') (by assumption) ?_
  clear HJ lk hb1
  rintro w1 hB1
  go_wp2
  go_loopw [10] (fun x wr => ∃ v : Int, x = .int .i64 v ∧ Hid (Under D v) ∧ Below W.heap.size W wr) (fun x _ => (1000001 - intOf x).toNat)
  case atStart => exact ⟨j, rfl, HU0, hB1⟩
  case round =>
    obtain ⟨v, rfl, HU, hBr⟩ := hrel
    have hv0 := HU.out.nn
    by_cases hle : v ≤ (lim : Int)
    · obtain ⟨y, hy⟩ : ∃ y, D v = y := ⟨_, rfl⟩
      have hup := HU.out.up
      rw [hy] at hup
      have HCR := Lib.hid (HD.out v ⟨hv0, by omega⟩ wr (Kd.C_below HCW.out hBr))
      have HY := Lib.hid hy
      rw [HDE.out, hy] at HCR
      clear hy
      by_cases he : y = v
      · subst he
        have HF := Lib.hid (HU.out.found (lim := lim) (by omega) HY.out)
        go_wp2_with (go_at_call 58; refine (HCR.out).mono ?_; rintro e w2 ⟨rfl, hb2⟩)
        go_ret2
        refine ⟨?_, below_step HB.out (below_step hBr hb2)⟩
        rw [HF.out]
        unfold rbndV
        simp only
        rw [Int.toNat_of_nonneg hv0]
        rfl
      · have HU2 := Lib.hid (HU.out.step HMD.out)
        rw [HY.out] at HU2
        go_wp2_with (go_at_call 58; refine (HCR.out).mono ?_; rintro e w2 ⟨rfl, hb2⟩)
        go_roundw
        case rel => exact ⟨y, rfl, HU2, below_step hBr hb2⟩
        case measure => simp [intOf]; omega
    · have HF := Lib.hid (HU.out.past (lim := lim) (by omega))
      have hgt : ¬ v ≤ (lim : Int) := hle
      go_wp2
      go_ret2
      exact ⟨by rw [HF.out]; rfl, below_step HB.out hBr⟩
end Go.Proofs.Ytmbfnhnemhojjaa
