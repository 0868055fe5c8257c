/- TraceChecks: The sums of the reference. -/
import Derived.Test.YtepceelkfbjamaaK7
namespace Go.Proofs.Ytepceelkfbjamaa
section
set_option linter.unusedVariables false
set_option linter.unusedSimpArgs false
open Go.RowKit Go.Proofs.YtepceelkfbjamaaW.PrintWords Go.Proofs.YtepceelkfbjamaaW.PrintLast Go.Proofs.YtepceelkfbjamaaW.PrintMore PTraceFilters FLib
attribute [local go_sem ↓] hold_cells hold_from
attribute [local go_sem] below_alloc_T below_drew_T below_drewN_T run_box run_box6

/-- An event's cells, in every later world. -/
theorem ev_cells {W : World} {A : Option Addr} {n : Nat} {l : List S47} (h : Kd.C k47 W A n l) (k : Nat) (hk : k < n) : ∃ ad, A = some ad ∧
    (∀ w', Below W.heap.size W w' → w'.cell? (ad.add (k * 6)) = some (.int .i64 (ev l k).f0)) ∧
    (∀ w', Below W.heap.size W w' → w'.cell? ⟨(ad.add (k * 6)).block, (ad.add (k * 6)).off + 1, none⟩ = some (.int .i64 (ev l k).f1)) ∧
    (∀ w', Below W.heap.size W w' → w'.cell? ⟨(ad.add (k * 6)).block, (ad.add (k * 6)).off + 2, none⟩ = some (.int .i64 (ev l k).f2)) ∧
    (∀ w', Below W.heap.size W w' → w'.cell? ⟨(ad.add (k * 6)).block, (ad.add (k * 6)).off + 3, none⟩ = some (.int .i64 (ev l k).f3)) := by
  obtain ⟨ad, e, c0, c1, c2, c3, -, -⟩ := at_T47 h (k : Int) (by omega) (by omega)
  simp only [Int.toNat_natCast] at c0 c1 c2 c3
  have e1 : rd_T47 l (k : Int) = ev l k := by simp [rd_T47, ev]
  rw [e1] at c0 c1 c2 c3
  exact ⟨ad, e, later_cell c0, later_cell c1, later_cell c2, later_cell c3⟩
/-- What a thread ran on processor q, up to the end. -/
def ranE (t z : Int) (l : List S47) (q : Nat) : Int := (ranS q t l).1 + if (ranS q t l).2.2 = t then z - (ranS q t l).2.1 else 0
theorem ranE_le {p n : Nat} {l : List S47} (g : Good p n l l.length) {t z : Int} (hz : (stS p n l).time ≤ z) {q : Nat} (hq : q < p) : 0 ≤ ranE t z l q ∧ ranE t z l q ≤ z := by
  have e : l.take l.length = l := List.take_length
  have h1 := g.nn q t hq
  have h2 := g.fr q t hq
  rw [e] at h1 h2
  unfold ranE
  split <;> omega

set_option maxRecDepth 100000 in
set_option maxHeartbeats 3200000 in
theorem ran_any (A : Option Addr) (c : Nat) (l : List S47) (p n t : Nat) (z : Int) (hv : Val p n l) (hp8 : p ≤ 8) (hl : l.length ≤ 20000) (hz : (stS p n l).time ≤ z) (hz2 : z ≤ tmax) (w : World) (hC : Kd.C k47 w A l.length l) :
    Calls Try.prog 56 #[.slice A l.length c, .int .i64 (p : Int), .int .i64 (t : Int), .int .i64 z] w fun x w' => x = .returned (.int .i64 (sumP (ranE t z l) p)) ∧ Below w.heap.size w w' := by
  have hT : tmax = 1099511627776 := rfl
  have g := good p n l hv l.length (Nat.le_refl _)
  have h0 := g.tm
  rw [List.take_length] at h0
  have HC := Lib.hid hC
  have HV := Lib.hid hv
  have HG := Lib.hid g
  have HL := Lib.hid hl
  have HZ := Lib.hid hz
  have HSB := Lib.hid (fun q (hq : q ≤ p) => sum_le (f := ranE t z l) (b := tmax) (p := q) (fun i hi => by have := ranE_le g (t := t) hz (q := i) (by omega); omega))
  have hz0 : 0 ≤ z := by omega
  rw [hT] at hz2
  obtain ⟨N, hN⟩ : ∃ N, l.length = N := ⟨_, rfl⟩
  rw [hN] at hl ⊢
  have HN := Lib.hid hN
  have hNi : (N : Int) ≤ 20000 := by omega
  clear hC hv g h0 hz hT hN hl
  go_enter Try.func56, Try.ntmps56
  go_wp2
  go_loopw [9, 10] (fun s i wr => ∃ q : Nat, q ≤ p ∧ i = .int .i64 q ∧ s = .int .i64 (sumP (ranE t z l) q) ∧ Below w.heap.size w wr) (fun _ i _ => p - (intOf i).toNat)
  case atStart => exact ⟨0, Nat.zero_le _, rfl, rfl, Below.refl _ _⟩
  case round =>
    obtain ⟨q, hq, rfl, rfl, hB⟩ := hrel
    by_cases hlt : q < p
    · have hi1 : (q : Int) < (p : Int) := by omega
      have hsb := HSB.out q (by omega)
      have hsb1 : (q : Int) * tmax ≤ 8 * tmax := Int.mul_le_mul_of_nonneg_right (by omega) (by decide)
      have hs0 : 0 ≤ sumP (ranE t z l) q := hsb.1
      have hs1 : sumP (ranE t z l) q ≤ 8 * 1099511627776 := Int.le_trans hsb.2 hsb1
      have HSS : Hid (sumP (ranE t z l) (q + 1) = sumP (ranE t z l) q + ranE t z l q) := Lib.hid rfl
      have HQ := Lib.hid hlt
      generalize sumP (ranE t z l) q = S at hs0 hs1 HSS
      clear hsb hsb1
      go_wp2
      go_loopw [9, 11, 12, 13] (fun s f o i wr => ∃ j : Nat, j ≤ N ∧ i = .int .i64 j ∧ s = .int .i64 (S + (ranS q t (l.take j)).1) ∧ f = .int .i64 (ranS q t (l.take j)).2.1 ∧ o = .int .i64 (ranS q t (l.take j)).2.2 ∧ Below w.heap.size w wr) (fun _ _ _ i _ => N - (intOf i).toNat)
      case atStart => exact ⟨0, Nat.zero_le _, rfl, by simp [ranS], rfl, rfl, hB⟩
      case round =>
        obtain ⟨j, hj, rfl, rfl, rfl, rfl, hBj⟩ := hrel
        by_cases hjN : j < N
        · have hjl : j < l.length := by rw [HN.out]; exact hjN
          obtain ⟨ad, rfl, c0, c1, c2, c3⟩ := ev_cells (Kd.C_below HC.out hBj) j hjl
          have hi0 : (0 : Int) ≤ (j : Int) := by omega
          have hi2 : (j : Int) < (N : Int) := by omega
          have hg := good p n l HV.out j (by omega)
          have hnn := hg.nn q t HQ.out
          have hfr := hg.fr q t HQ.out
          have hft := (HV.out j hjl).time
          have het := ev_time HV.out hjl
          have hzz := HZ.out
          have HR : Hid (ranS q t (l.take (j + 1)) = rst q t (ranS q t (l.take j)) (ev l j)) := Lib.hid (by rw [take_ev hjl, ran_snoc])
          generalize ranS q t (l.take j) = x at hnn hfr HR
          obtain ⟨xn, xf, xo⟩ := x
          dsimp only at hnn hfr
          generalize ev l j = e at c0 c1 c2 c3 hft het HR
          have hs := Below.refl wr.heap.size wr
          have hb1 : xf ≤ e.f0 := by omega
          have hb2 : e.f0 ≤ 1099511627776 := by omega
          have hb3 : 0 ≤ xf := hfr.1
          have hb4 : 0 ≤ xn := hnn.1
          have hb5 : xn ≤ xf := hnn.2
          clear hg hnn hfr hft het hzz
          have hcs : ((e.f1 == 0) = true ∧ (e.f1 != 0) = false ∧ (e.f2 == (q : Int)) = true ∧ (e.f2 != (q : Int)) = false ∧ Hid (e.f1 = 0 ∧ e.f2 = q)) ∨ (((e.f1 == 0) = false ∧ (e.f1 != 0) = true) ∧ Hid (¬ (e.f1 = 0 ∧ e.f2 = q))) ∨ (((e.f1 == 0) = true ∧ (e.f1 != 0) = false ∧ (e.f2 == (q : Int)) = false ∧ (e.f2 != (q : Int)) = true) ∧ Hid (¬ (e.f1 = 0 ∧ e.f2 = q))) := by
            rcases int_cases e.f1 0 with ⟨a1, a2, a3⟩ | ⟨a1, a2, a3⟩
            · rcases int_cases e.f2 q with ⟨b1, b2, b3⟩ | ⟨b1, b2, b3⟩
              · left; exact ⟨a1, a2, b1, b2, Lib.hid ⟨a3, b3⟩⟩
              · right; right; exact ⟨⟨a1, a2, b1, b2⟩, Lib.hid (fun x => b3 x.2)⟩
            · right; left; exact ⟨⟨a1, a2⟩, Lib.hid (fun x => a3 x.1)⟩
          rcases hcs with ⟨a1, a2, b1, b2, HX⟩ | ⟨⟨a1, a2⟩, HX⟩ | ⟨⟨a1, a2, b1, b2⟩, HX⟩
          · rcases int_cases xo t with ⟨m1, m2, m3⟩ | ⟨m1, m2, m3⟩
            · have HR2 : Hid (ranS q t (l.take (j + 1)) = (xn + (e.f0 - xf), e.f0, e.f3)) := Lib.hid (by rw [HR.out, rst, if_pos HX.out]; dsimp only; rw [if_pos m3])
              clear m3
              go_wp2
              go_quiet (fail)
              clear a1 a2 b1 b2 m1 m2 c0 c1 c2 c3
              go_wp2
              go_roundw
              case rel => exact ⟨j + 1, by omega, by go_num, by rw [HR2.out]; dsimp only; congr 1; omega, by rw [HR2.out], by rw [HR2.out], pw_below_drewN hBj _⟩
              case measure => simp [intOf]; omega
            · have HR2 : Hid (ranS q t (l.take (j + 1)) = (xn, e.f0, e.f3)) := Lib.hid (by rw [HR.out, rst, if_pos HX.out]; dsimp only; rw [if_neg m3])
              clear m3
              go_wp2
              go_quiet (fail)
              clear a1 a2 b1 b2 m1 m2 c0 c1 c2 c3
              go_wp2
              go_roundw
              case rel => exact ⟨j + 1, by omega, by go_num, by rw [HR2.out], by rw [HR2.out], by rw [HR2.out], pw_below_drewN hBj _⟩
              case measure => simp [intOf]; omega
          all_goals
            have HR2 : Hid (ranS q t (l.take (j + 1)) = (xn, xf, xo)) := Lib.hid (by rw [HR.out, rst, if_neg HX.out])
            go_wp2
            go_roundw
            case rel => exact ⟨j + 1, by omega, by go_num, by rw [HR2.out], by rw [HR2.out], by rw [HR2.out], hBj⟩
            case measure => simp [intOf]; omega
        · obtain rfl : j = N := by omega
          have htl : l.take j = l := by rw [← HN.out]; exact List.take_length
          have hnn := HG.out.nn q t HQ.out
          have hfr := HG.out.fr q t HQ.out
          have hzz := HZ.out
          rw [List.take_length] at hnn hfr
          rw [htl]
          have HE : Hid (ranE t z l q = (ranS q t l).1 + if (ranS q t l).2.2 = t then z - (ranS q t l).2.1 else 0) := Lib.hid rfl
          generalize ranS q t l = x at hnn hfr HE
          obtain ⟨xn, xf, xo⟩ := x
          dsimp only at hnn hfr HE
          have hb1 : xf ≤ z := by omega
          have hb3 : 0 ≤ xf := hfr.1
          have hb4 : 0 ≤ xn := hnn.1
          have hb5 : xn ≤ xf := hnn.2
          clear hnn hfr hzz htl
          rcases int_cases xo t with ⟨m1, m2, m3⟩ | ⟨m1, m2, m3⟩
          · rw [if_pos m3] at HE
            clear m3
            go_wp2
            clear m1 m2
            go_roundw
            case rel => exact ⟨q + 1, by omega, by go_num, by rw [HSS.out, HE.out]; congr 1; omega, hBj⟩
            case measure => simp [intOf]; omega
          · rw [if_neg m3] at HE
            clear m3
            go_wp2
            clear m1 m2
            go_roundw
            case rel => exact ⟨q + 1, by omega, by go_num, by rw [HSS.out, HE.out]; congr 1; omega, hBj⟩
            case measure => simp [intOf]; omega
    · obtain rfl : q = p := by omega
      go_wp2
      go_ret
      exact ⟨rfl, hB⟩
end
section
set_option linter.unusedVariables false
set_option linter.unusedSimpArgs false
open Go.RowKit Go.Proofs.YtepceelkfbjamaaW.PrintWords Go.Proofs.YtepceelkfbjamaaW.PrintLast Go.Proofs.YtepceelkfbjamaaW.PrintMore PTraceFilters FLib
attribute [local go_sem ↓] hold_cells hold_from
attribute [local go_sem] below_alloc_T below_drew_T below_drewN_T run_box run_box6

theorem st_same (p n m : Nat) : ∀ (l : List S47), (l.foldl stp (s0 p n)).runs = (l.foldl stp (s0 p m)).runs ∧ (l.foldl stp (s0 p n)).time = (l.foldl stp (s0 p m)).time ∧ (l.foldl stp (s0 p m)).blk.length = m := by
  have h : ∀ (l : List S47) (s u : St), s.runs = u.runs → s.time = u.time → u.blk.length = m → (l.foldl stp s).runs = (l.foldl stp u).runs ∧ (l.foldl stp s).time = (l.foldl stp u).time ∧ (l.foldl stp u).blk.length = m := by
    intro l
    induction l with
    | nil => intro s u h1 h2 h3; exact ⟨h1, h2, h3⟩
    | cons e l ih =>
      intro s u h1 h2 h3
      refine ih _ _ (by rw [stp_runs, stp_runs, h1]) ?_ ((stp_len u e).2.1.trans h3)
      rw [(stp_len s e).2.2.2, (stp_len u e).2.2.2]
  intro l
  exact h l _ _ rfl rfl (by simp [s0])
theorem val_more {p n m : Nat} {l : List S47} (hv : Val p n l) (hnm : n ≤ m) : Val p m l := by
  intro k hk
  have h := hv k hk
  obtain ⟨a, b, c⟩ := st_same p n m (l.take k)
  have c' := (st_same p m n (l.take k)).2.2
  unfold stS at h ⊢
  refine ⟨h.kind, by rw [← b]; exact h.time, fun x => by rw [← a]; exact h.proc x, fun x y => by rw [← a]; exact h.proc1 x y, fun x => ?_⟩
  have := h.thr x
  rw [c'] at this
  rw [c]
  omega
theorem contains_all (r : List Int) (x : Int) : (r.take r.length).contains x = r.contains x := by rw [List.take_length]

set_option maxRecDepth 100000 in
set_option maxHeartbeats 6400000 in
theorem latency_any (A : Option Addr) (c : Nat) (l : List S47) (p t : Nat) (hv : Val p 256 l) (hp1 : 1 ≤ p) (hp8 : p ≤ 8) (hl : l.length ≤ 20000) (ht : (stS p 256 l).time ≤ tmax) (w : World) (hC : Kd.C k47 w A l.length l) :
    Calls Try.prog 57 #[.slice A l.length c, .int .i64 (p : Int), .int .i64 (t : Int)] w fun x w' => x = .returned (.int .i64 (latS p t l).2.1) ∧ Below w.heap.size w w' := by
  have hT : tmax = 1099511627776 := rfl
  have HC := Lib.hid hC
  have HV := Lib.hid hv
  have HT := Lib.hid ht
  have HN := Lib.hid (fresh_any p 256 hp8 (Nat.le_refl _) w)
  have HS0 := Lib.hid (s0_ok (p := p) (t := 256) hp1 hp8 (Nat.le_refl _))
  obtain ⟨N, hN⟩ : ∃ N, l.length = N := ⟨_, rfl⟩
  rw [hN] at hl ⊢
  have HL := Lib.hid hN
  have hNi : (N : Int) ≤ 20000 := by omega
  clear hC hv ht hN hl hT
  go_enter Try.func57, Try.ntmps57
  go_wp2_with fail
  refine HN.out.mono ?_
  rintro x w1 ⟨q, rfl, hCK, hb1⟩
  obtain ⟨gr, cr, gb, ge, hCC, b1, b2, b3, b4⟩ := CK.cc hCK HS0.out.rp
  have HC1 : Hid (CC 118 w1 q gr cr gb ge (s0 p 256)) := Lib.hid hCC
  have HB1 := Lib.hid hb1
  have HBB : Hid (∀ i, chF q gr gb ge i → w.heap.size ≤ i) := Lib.hid (by rintro i (rfl | rfl | rfl | rfl) <;> assumption)
  clear hCK hb1 hCC b1 b2 b3 b4 HN
  go_wp2
  go_loopw [8, 9, 10] (fun m s i wr => ∃ k : Nat, k ≤ N ∧ i = .int .i64 k ∧ m = .int .i64 (latS p t (l.take k)).2.1 ∧ s = .int .i64 (latS p t (l.take k)).2.2 ∧ Hid (CC 118 wr q gr cr gb ge (stS p 256 (l.take k))) ∧ Hid (Below w.heap.size w wr)) (fun _ _ i _ => N - (intOf i).toNat)
  case atStart => exact ⟨0, Nat.zero_le _, rfl, rfl, rfl, HC1, HB1⟩
  case round =>
    obtain ⟨k, hk, rfl, rfl, rfl, HCk, HBk⟩ := hrel
    by_cases hkN : k < N
    · have hkl : k < l.length := by rw [HL.out]; exact hkN
      obtain ⟨ad, rfl, lk⟩ := evs_at (Kd.C_below HC.out HBk.out) k hkl
      have hi0 : (0 : Int) ≤ (k : Int) := by omega
      have hi1 : (k : Int) < (N : Int) := by omega
      have hg := good p 256 l HV.out k (by omega)
      have hlm := hg.lm t
      have hls := hg.ls t
      have hlr := hg.lr t
      have hrl := hg.rl
      have h0 := hg.tm
      have hfi := HV.out k hkl
      have hft := hfi.time
      have het := ev_time HV.out hkl
      have htt := HT.out
      have HOK := Lib.hid (good_ok hg hp1 hp8 (Nat.le_refl 256))
      have HFI := Lib.hid hfi
      have HLT : Hid (latS p t (l.take (k + 1)) = lst t (latS p t (l.take k)) (ev l k)) := Lib.hid (by rw [take_ev hkl, lat_snoc])
      have HSN : Hid (stS p 256 (l.take (k + 1)) = stp (stS p 256 (l.take k)) (ev l k)) := Lib.hid (by rw [take_ev hkl, st_snoc])
      generalize stS p 256 (l.take k) = sk at HCk hlm hls hlr hrl h0 hft HOK HFI HSN
      generalize latS p t (l.take k) = x at hlm hls hlr HLT
      obtain ⟨xr, xm, xs⟩ := x
      dsimp only at hlm hls hlr
      subst hlr
      generalize ev l k = e at lk hft het HFI HLT HSN
      have hT : tmax = 1099511627776 := rfl
      have hs := Below.refl wr.heap.size wr
      have he0 : 0 ≤ e.f0 := by omega
      have he1 : e.f0 ≤ 1099511627776 := by omega
      have hm0 : 0 ≤ xm := hlm.1
      have hm1 : xm ≤ e.f0 := by omega
      have hs1 : xs = -1 ∨ (0 ≤ xs ∧ xs ≤ e.f0) := by omega
      clear hlm hls h0 hft het htt hT hg hfi
      have HCa := Lib.hid (HCk.out.below (below_alloc (Below.refl _ _) (.cells #[.int .i64 e.f0, .int .i64 e.f1, .int .i64 e.f2, .int .i64 e.f3, .int .i64 e.f4, .int .i64 e.f5] 49)))
      have HEa := Lib.hid (blk_new wr (.cells #[.int .i64 e.f0, .int .i64 e.f1, .int .i64 e.f2, .int .i64 e.f3, .int .i64 e.f4, .int .i64 e.f5] 49))
      have HBa := Lib.hid (below_new HBk.out (.cells #[.int .i64 e.f0, .int .i64 e.f1, .int .i64 e.f2, .int .i64 e.f3, .int .i64 e.f4, .int .i64 e.f5] 49))
      have HST := Lib.hid (fun w hC => change_any q gr cr gb ge sk HOK.out e HFI.out w hC)
      unfold evV at HST
      obtain ⟨s1, hs1e⟩ : ∃ s1, (if e.f3 = t ∧ e.f1 = 3 then (if sk.runs.contains (t : Int) = true then -1 else e.f0) else xs) = s1 := ⟨_, rfl⟩
      have HS1 := Lib.hid hs1e.symm
      have hs1b : s1 = -1 ∨ (0 ≤ s1 ∧ s1 ≤ e.f0) := by
        rw [← hs1e]
        split
        · split
          · left; rfl
          · right; omega
        · exact hs1
      clear hs1e hs1
      go_upto_region 7 with (fail)
      generalize wr.alloc (.cells #[.int .i64 e.f0, .int .i64 e.f1, .int .i64 e.f2, .int .i64 e.f3, .int .i64 e.f4, .int .i64 e.f5] 49) = W at HCa HEa HBa ⊢
      generalize wr.heap.size = g at HEa ⊢
      clear lk hs
      have e0 : W.cell? ⟨g, 0, none⟩ = some (.int .i64 e.f0) := blk_cell HEa.out 0
      have e1 : W.cell? ⟨g, 1, none⟩ = some (.int .i64 e.f1) := blk_cell HEa.out 1
      have e3 : W.cell? ⟨g, 3, none⟩ = some (.int .i64 e.f3) := blk_cell HEa.out 3
      have l1 : RunCells Try.prog ⟨g, 0, none⟩ 6 W = _ := runCells_blk (P := Try.prog) (n := 6) HEa.out rfl
      rcases int_cases e.f3 t with ⟨a1, a2, a3⟩ | ⟨a1, a2, a3⟩
      · rcases int_cases e.f1 3 with ⟨b1, b2, b3⟩ | ⟨b1, b2, b3⟩
        · -- a wake-up
          have d1 : (e.f1 == 0) = false := by rw [b3]; rfl
          have d2 : (e.f1 != 0) = true := by rw [b3]; rfl
          have HM : Hid ((latS p t (l.take (k + 1))).2.1 = xm) := Lib.hid (by rw [HLT.out, lst]; dsimp only; rw [if_neg (fun x => by have := x.2.1; omega)])
          have HX : Hid ((latS p t (l.take (k + 1))).2.2 = s1) := Lib.hid (by rw [HLT.out, lst]; dsimp only; have h3 : e.f3 = (t : Int) ∧ e.f1 = 3 := ⟨a3, b3⟩; rw [if_pos h3, HS1.out, if_pos h3])
          have HQ : Hid (s1 = if sk.runs.contains (t : Int) = true then -1 else e.f0) := Lib.hid (by rw [HS1.out, if_pos ⟨a3, b3⟩])
          have q0 : W.cell? ⟨q, 0, none⟩ = some (.slice (some ⟨gr, 0, none⟩) sk.runs.length cr) := blk_cell HCa.out.hq 0
          rw [hrl] at q0
          have HAR := Lib.hid HCa.out.hr
          have HRL := Lib.hid hrl
          have hp8i : (p : Int) ≤ 8 := by omega
          clear a3 b3 hrl hs1b
          go_wp2
          go_loopw [9, 12] (fun s i wr => ∃ j : Nat, j ≤ p ∧ i = .int .i64 j ∧ s = .int .i64 (if (sk.runs.take j).contains (t : Int) = true then -1 else e.f0) ∧ W = wr) (fun _ i _ => p - (intOf i).toNat)
          case atStart => exact ⟨0, Nat.zero_le _, rfl, by simp, rfl⟩
          case round =>
            obtain ⟨j, hj, rfl, rfl, rfl⟩ := hrel
            by_cases hjp : j < p
            · have hj0 : (0 : Int) ≤ (j : Int) := by omega
              have hj1 : (j : Int) < (p : Int) := by omega
              have hjr : j < sk.runs.length := by rw [HRL.out]; exact hjp
              have u0 := HAR.out.cell (ints_at hjr)
              have HCS := Lib.hid (contains_snoc hjr (t : Int))
              generalize sk.runs.getD j 0 = y at u0 HCS
              generalize (sk.runs.take j).contains (t : Int) = b at HCS
              rcases int_cases y t with ⟨y1, y2, y3⟩ | ⟨y1, y2, y3⟩
              · have HC2 : Hid ((sk.runs.take (j + 1)).contains (t : Int) = true) := Lib.hid (by rw [HCS.out, y3]; simp)
                clear y3
                go_wp2
                clear u0 y1 y2
                go_roundw
                case rel => exact ⟨j + 1, by omega, by go_num, by rw [HC2.out]; rfl, by first | rfl | trivial⟩
                case measure => simp [intOf]; omega
              · have HC2 : Hid ((sk.runs.take (j + 1)).contains (t : Int) = b) := Lib.hid (by
                  rw [HCS.out, show ((t : Int) == y) = false by rw [beq_eq_false_iff_ne]; exact fun h => y3 h.symm]; simp)
                clear y3
                go_wp2
                clear u0 y1 y2
                go_roundw
                case rel => exact ⟨j + 1, by omega, by go_num, by rw [HC2.out], by first | rfl | trivial⟩
                case measure => simp [intOf]; omega
            · obtain rfl : j = p := by omega
              rw [show (sk.runs.take j).contains (t : Int) = sk.runs.contains (t : Int) by rw [← HRL.out]; exact contains_all _ _, ← HQ.out]
              go_wp2_with fail
              refine (HST.out _ HCa.out).mono ?_
              rintro x w4 ⟨rfl, hC4, hK4⟩
              have HC4 := Lib.hid hC4
              have HB4 := Lib.hid (below_then' HBa.out hK4 HBB.out)
              rw [← HSN.out] at HC4
              clear l1 e0 e1 e3 a1 a2 b1 b2 d1 d2 q0 hC4 hK4
              go_wp2
              go_roundw
              case rel => exact ⟨k + 1, by omega, by go_num, by rw [HM.out], by rw [HX.out], HC4, HB4⟩
              case measure => simp [intOf]; omega
        · rcases int_cases e.f1 0 with ⟨c1, c2, c3⟩ | ⟨c1, c2, c3⟩
          · -- a run
            have HXS : Hid (s1 = xs) := Lib.hid (by rw [HS1.out, if_neg (fun x => b3 x.2)])
            rw [HXS.out] at hs1b
            by_cases hx : xs = -1
            · have HM : Hid ((latS p t (l.take (k + 1))).2.1 = xm) := Lib.hid (by rw [HLT.out, lst]; dsimp only; rw [if_neg (fun x => x.2.2 hx)])
              have HX : Hid ((latS p t (l.take (k + 1))).2.2 = xs) := Lib.hid (by rw [HLT.out, lst]; dsimp only; have h3 : ¬ (e.f3 = (t : Int) ∧ e.f1 = 3) := fun x => b3 x.2; have h0 : e.f3 = (t : Int) ∧ e.f1 = 0 := ⟨a3, c3⟩; rw [if_neg h3, if_pos h0, hx])
              have g1 : decide ((0 : Int) ≤ xs) = false := by simp; omega
              clear a3 b3 c3 hx hs1b
              go_wp2_with fail
              refine (HST.out _ HCa.out).mono ?_
              rintro x w4 ⟨rfl, hC4, hK4⟩
              have HC4 := Lib.hid hC4
              have HB4 := Lib.hid (below_then' HBa.out hK4 HBB.out)
              rw [← HSN.out] at HC4
              clear l1 e0 e1 e3 a1 a2 b1 b2 c1 c2 g1 hC4 hK4
              go_wp2
              go_roundw
              case rel => exact ⟨k + 1, by omega, by go_num, by rw [HM.out], by rw [HX.out], HC4, HB4⟩
              case measure => simp [intOf]; omega
            · have g1 : decide ((0 : Int) ≤ xs) = true := by simp; omega
              by_cases hgt : xm < e.f0 - xs
              · have HM : Hid ((latS p t (l.take (k + 1))).2.1 = (e.f0 - xs)) := Lib.hid (by rw [HLT.out, lst]; dsimp only; rw [if_pos ⟨a3, c3, hx⟩]; unfold mx2; rw [if_pos hgt])
                have HX : Hid ((latS p t (l.take (k + 1))).2.2 = -1) := Lib.hid (by rw [HLT.out, lst]; dsimp only; rw [if_neg (fun x => b3 x.2), if_pos ⟨a3, c3⟩])
                have g2 : decide (xm < e.f0 - xs) = true := by simpa using hgt
                have hb0 : 0 ≤ xs := by omega
                have hb1 : xs ≤ e.f0 := by omega
                clear a3 b3 c3 hx hs1b hgt
                go_wp2_with fail
                refine (HST.out _ HCa.out).mono ?_
                rintro x w4 ⟨rfl, hC4, hK4⟩
                have HC4 := Lib.hid hC4
                have HB4 := Lib.hid (below_then' HBa.out hK4 HBB.out)
                rw [← HSN.out] at HC4
                clear l1 e0 e1 e3 a1 a2 b1 b2 c1 c2 g1 g2 hC4 hK4
                go_wp2
                go_roundw
                case rel => exact ⟨k + 1, by omega, by go_num, by rw [HM.out], by rw [HX.out], HC4, HB4⟩
                case measure => simp [intOf]; omega
              · have HM : Hid ((latS p t (l.take (k + 1))).2.1 = xm) := Lib.hid (by rw [HLT.out, lst]; dsimp only; rw [if_pos ⟨a3, c3, hx⟩]; unfold mx2; rw [if_neg hgt])
                have HX : Hid ((latS p t (l.take (k + 1))).2.2 = -1) := Lib.hid (by rw [HLT.out, lst]; dsimp only; rw [if_neg (fun x => b3 x.2), if_pos ⟨a3, c3⟩])
                have g2 : decide (xm < e.f0 - xs) = false := by simpa using hgt
                have hb0 : 0 ≤ xs := by omega
                have hb1 : xs ≤ e.f0 := by omega
                clear a3 b3 c3 hx hs1b hgt
                go_wp2_with fail
                refine (HST.out _ HCa.out).mono ?_
                rintro x w4 ⟨rfl, hC4, hK4⟩
                have HC4 := Lib.hid hC4
                have HB4 := Lib.hid (below_then' HBa.out hK4 HBB.out)
                rw [← HSN.out] at HC4
                clear l1 e0 e1 e3 a1 a2 b1 b2 c1 c2 g1 g2 hC4 hK4
                go_wp2
                go_roundw
                case rel => exact ⟨k + 1, by omega, by go_num, by rw [HM.out], by rw [HX.out], HC4, HB4⟩
                case measure => simp [intOf]; omega
          · have HM : Hid ((latS p t (l.take (k + 1))).2.1 = xm) := Lib.hid (by rw [HLT.out, lst]; dsimp only; rw [if_neg (fun x => c3 x.2.1)])
            have HX : Hid ((latS p t (l.take (k + 1))).2.2 = xs) := Lib.hid (by rw [HLT.out, lst]; dsimp only; rw [if_neg (fun x => b3 x.2), if_neg (fun x => c3 x.2)])
            clear a3 b3 c3 hs1b
            go_wp2_with fail
            refine (HST.out _ HCa.out).mono ?_
            rintro x w4 ⟨rfl, hC4, hK4⟩
            have HC4 := Lib.hid hC4
            have HB4 := Lib.hid (below_then' HBa.out hK4 HBB.out)
            rw [← HSN.out] at HC4
            clear l1 e0 e1 e3 a1 a2 b1 b2 c1 c2 hC4 hK4
            go_wp2
            go_roundw
            case rel => exact ⟨k + 1, by omega, by go_num, by rw [HM.out], by rw [HX.out], HC4, HB4⟩
            case measure => simp [intOf]; omega
      · have HM : Hid ((latS p t (l.take (k + 1))).2.1 = xm) := Lib.hid (by rw [HLT.out, lst]; dsimp only; rw [if_neg (fun x => a3 x.1)])
        have HX : Hid ((latS p t (l.take (k + 1))).2.2 = xs) := Lib.hid (by rw [HLT.out, lst]; dsimp only; rw [if_neg (fun x => a3 x.1), if_neg (fun x => a3 x.1)])
        clear a3 hs1b
        go_wp2_with fail
        refine (HST.out _ HCa.out).mono ?_
        rintro x w4 ⟨rfl, hC4, hK4⟩
        have HC4 := Lib.hid hC4
        have HB4 := Lib.hid (below_then' HBa.out hK4 HBB.out)
        rw [← HSN.out] at HC4
        clear l1 e0 e1 e3 a1 a2 hC4 hK4
        go_wp2
        go_roundw
        case rel => exact ⟨k + 1, by omega, by go_num, by rw [HM.out], by rw [HX.out], HC4, HB4⟩
        case measure => simp [intOf]; omega
    · obtain rfl : k = N := by omega
      have htl : l.take k = l := by rw [← HL.out]; exact List.take_length
      rw [htl]
      clear htl
      go_wp2
      go_ret
      exact ⟨rfl, HBk.out⟩
end
end Go.Proofs.Ytepceelkfbjamaa
