/- ResponseSets: Sensitivity of the reference. -/
import Derived.Test.YtmbfnhnemhojjaaS2
namespace Go.Proofs.Ytmbfnhnemhojjaa
set_option linter.unusedVariables false
set_option linter.unusedSimpArgs false
open Go.RowKit Go.Proofs.YtmbfnhnemhojjaaW.PrintWords Go.Proofs.YtmbfnhnemhojjaaW.PrintLast Go.Proofs.YtmbfnhnemhojjaaW.PrintMore PResponseCosts FLib
attribute [local go_sem ↓] hold_cells hold_from
attribute [local go_sem] below_alloc_T below_drew_T below_drewN_T run_box run_box2 run_box6

set_option maxRecDepth 100000 in
set_option maxHeartbeats 1600000 in
theorem rsens_any (cs : Array Value) (t : Tab) (ht : t.costs.length = 24) (h : TabC' cs t) (A : Option Addr) (c : Nat) (l : List S33) (i : Int) (w : World) (hC : Kd.C k33 w A l.length l) :
    Calls Try.prog 26 #[.agg cs, .slice A l.length c, .int .i64 i] w fun e w' => e = .returned (.tuple #[.int .i64 (sensP t l i).1, .int .i64 (sensP t l i).2]) ∧ Below w.heap.size w w' := by
  have H16 := Lib.hid (fun w hC => rcheck_any cs t ht h A c l w hC)
  have HK := Lib.hid (fun A c l hs w hC => radmitted_any cs t h.toTabC A c l hs w hC)
  have HOK := Lib.hid (fun h => chk_ok (l := l) ht h)
  have HC := Lib.hid hC
  have hsz := h.size
  clear ht h hC
  go_enter Try.func26, Try.ntmps26
  go_wp2_with fail
  refine (H16.out _ (Kd.C_below HC.out (below_alloc (Below.refl _ _) _))).mono ?_
  rintro e w1 ⟨rfl, hb1⟩
  have HB := Lib.hid (below_then (below_alloc (Below.refl w.heap.size w) (.cells cs 36)) (by simp) hb1)
  have HG0 := Lib.hid (blk_below (blk_new w (.cells cs 36)) hb1)
  clear hb1
  by_cases hck : chkI t l = 0
  · have HSet := Lib.hid (HOK.out hck)
    have hlen : (l.length : Int) ≤ 12 := by have := HSet.out.le; omega
    rw [hck]
    by_cases hi0 : i < 0
    · have HE := Lib.hid (show sensP t l i = (0, 34) by have ha : atI t l i = 34 := by { unfold atI; rw [if_pos hck, if_pos (Or.inl hi0)] }; unfold sensP; rw [ha, if_neg (by decide)])
      have d1 : decide (i < 0) = true := by simpa using hi0
      clear hck hi0
      go_wp2
      go_ret2
      exact ⟨by rw [HE.out]; rfl, HB.out⟩
    by_cases hi1 : (l.length : Int) ≤ i
    · have HE := Lib.hid (show sensP t l i = (0, 34) by have ha : atI t l i = 34 := by { unfold atI; rw [if_pos hck, if_pos (Or.inr hi1)] }; unfold sensP; rw [ha, if_neg (by decide)])
      have d1 : decide (i < 0) = false := by simpa using hi0
      have d2 : decide ((l.length : Int) ≤ i) = true := by simpa using hi1
      clear hck hi0 hi1
      go_wp2
      go_ret2
      exact ⟨by rw [HE.out]; rfl, HB.out⟩
    have h0 : atI t l i = 0 := by unfold atI; rw [if_pos hck, if_neg (by omega)]
    obtain ⟨j, rfl⟩ := Int.eq_ofNat_of_zero_le (show 0 ≤ i by omega)
    have HE := Lib.hid (show sensP t l (j : Int) = sensF t l j 1000 by unfold sensP; rw [if_pos h0]; rfl)
    have HJ := Lib.hid (show j < l.length by omega)
    have d1 : decide ((j : Int) < 0) = false := by simp
    have d2 : decide ((l.length : Int) ≤ (j : Int)) = false := by simpa using hi1
    have d3 : decide (l.length ≤ j) = false := by simp; omega
    have HB0 := Lib.hid (below_alloc (Below.refl w1.heap.size w1) (.cells #[] 43))
    have HR0 := Lib.hid (R_empty k33 43 w1.heap.size w1 (Nat.le_refl _))
    have HW1 := Lib.hid HB.out.size
    clear h0 hck hi0 hi1
    go_wp2_with (at_builtin; refine Kd.R_append_rows k33 (w0 := w1) (Rr := fun x cs => cs = tkCells x) w1.heap.size rfl (.tmp 25) (.tmp 26) 38 43 _ 48 rfl Try.underlying38 info43 rfl (by decide) (by decide) (.slice (some ⟨w1.heap.size, 0, none⟩) 0 0) [] l A l.length c (fun _ => True) (fun _ => False) rfl rfl HR0.out (tk_rows (Kd.C_below (Kd.C_below HC.out HB.out) HB0.out)) (fun x cs hx => by subst hx; exact k33_mkM _ _ _ x) (fun _ h => h.elim) (fun _ _ => trivial) HB0.out HB0.out.size (by have := HSet.out.le; simp; omega) ?_; intro v1 w2 hR1 hB1 _ _; have HR1 := Lib.hid hR1; have HB1 := Lib.hid hB1; clear hR1 hB1)
    rw [List.nil_append] at HR1
    obtain ⟨gr, c1, rfl, hbase, -, -⟩ := Kd.R_form HR1.out HSet.out.pos
    have HBW := Lib.hid (show w.heap.size ≤ gr by have := HW1.out; omega)
    have hqlt := blk_lt HG0.out
    have HNE := Lib.hid (show w.heap.size ≠ gr by omega)
    have HG := Lib.hid (blk_below HG0.out HB1.out)
    have HB2 := Lib.hid (below_then HB.out HB.out.size HB1.out)
    have HR := HR1
    obtain ⟨q, hq⟩ : ∃ q, w.heap.size = q := ⟨_, rfl⟩
    obtain ⟨base, hbs⟩ : ∃ b, w1.heap.size = b := ⟨_, rfl⟩
    rw [hq] at HNE HG ⊢
    rw [hbs] at HR ⊢
    have HQQ := Lib.hid hq
    clear hqlt hbase d1 d2 d3 hq hbs
    go_loopw [10] (fun n wr => ∃ nn : Nat, n = .int .i64 nn ∧ (nn : Int) ≤ 1000 ∧ Hid (sensF t l j 1000 = sensF t l j nn) ∧ (∃ f : Int, Hid (Kd.R k33 43 wr base (fun _ => True) (.slice (some ⟨gr, 0, none⟩) l.length c1) (l4 l j f))) ∧ Hid (wr.heap[q]? = some (.cells cs 36 (0, 0))) ∧ Hid (Below w.heap.size w wr)) (fun n _ => (intOf n).toNat)
    case atStart => exact ⟨1000, rfl, by omega, Lib.hid rfl, ⟨(tk l j).f4, Lib.hid (by rw [l4_self HJ.out]; exact HR.out)⟩, HG, HB2⟩
    case round =>
      obtain ⟨nn, rfl, hnn, HSF, ⟨f, HRf⟩, HGr, HBr⟩ := hrel
      by_cases hz : nn = 0
      · subst hz
        have HV := Lib.hid (show sensP t l (j : Int) = (0, 25) by rw [HE.out, HSF.out]; rfl)
        go_wp2
        go_ret2
        exact ⟨by rw [HV.out]; rfl, HBr.out⟩
      · have hn0 : (0 : Int) < (nn : Int) := by omega
        have d1 : decide ((1 : Int) ≤ (nn : Int)) = true := by simp; omega
        have hi0' : (0 : Int) ≤ (j : Int) := by omega
        have hi1' : (j : Int) < (l.length : Int) := by have := HJ.out; omega
        obtain ⟨c0, hc0, hM, hcc, hfr⟩ := Kd.R_elem HRf.out z33 (j : Int) hi0' hi1'
        obtain rfl := k33_openM hM
        have q4 := hcc 4 _ rfl
        have f4 := hfr 4
        simp only [Int.toNat_natCast, show k33.sz = 6 from rfl] at q4 f4
        have hseg := Kd.R_seg HRf.out (j : Int) hi0' hi1' (seg := [.int .i64 (nn : Int)]) (j := 4) (okp := fun _ => False) (x' := ⟨(tk l j).f0, (tk l j).f1, (tk l j).f2, (tk l j).f3, (nn : Int), (tk l j).f5⟩) rfl hcc (show (4 + 1 : Nat) ≤ 6 by decide) (by
          have e : (l4 l j f).getD (Int.toNat (j : Int)) z33 = _ := l4_tk HJ.out f
          rw [e]
          exact k33_mkM _ _ _ _) (fun _ h => h.elim)
        simp only [Int.toNat_natCast, show k33.sz = 6 from rfl, World.setCells, l4_set] at hseg
        have HS := Lib.hid hseg
        have HG2 := Lib.hid (blk_grown HGr.out hseg.2 (by have := HNE.out; simpa using this))
        have HB3 := Lib.hid (pw_below_grown HBr.out (some gr) HBr.out.size hseg.2 (fun q hq => by injection hq with hq; have := HBW.out; omega))
        have kl := runCells_blk (P := Try.prog) (n := 26) HG2.out hsz
        have HKX := Lib.hid (HK.out (some ⟨gr, 0, none⟩) c1 (l4 l j (nn : Int)) (l4_ok HSet.out HJ.out (by omega) hnn) _ (Kd.R_reads' HS.out.1).2.2)
        rw [l4_len] at HKX
        clear hcc hfr hM hc0 hseg
        have hsn : sensF t l j nn = if admB t (l4 l j (nn : Int)) = true then ((nn : Int), 0) else sensF t l j (nn - 1) := by
          obtain ⟨mm, rfl⟩ : ∃ mm, nn = mm + 1 := ⟨nn - 1, by omega⟩
          rfl
        have HSN := Lib.hid hsn
        clear hsn
        go_wp2_with fail
        refine HKX.out.mono ?_
        rintro e w5 ⟨rfl, hb5⟩
        have HB5 := Lib.hid (below_then HB3.out HB3.out.size hb5)
        have HG5 := Lib.hid (blk_below HG2.out hb5)
        have HR5 := Lib.hid (Kd.R_below HS.out.1 hb5)
        clear q4 f4 kl hb5
        cases hadm : admB t (l4 l j (nn : Int)) with
        | true =>
          have HV := Lib.hid (show sensP t l (j : Int) = ((nn : Int), 0) by rw [HE.out, HSF.out, HSN.out, if_pos hadm])
          clear hadm
          go_wp2
          go_ret2
          exact ⟨by rw [HV.out]; rfl, HB5.out⟩
        | false =>
          have HV := Lib.hid (show sensF t l j 1000 = sensF t l j (nn - 1) by rw [HSF.out, HSN.out, hadm]; rfl)
          clear hadm
          go_wp2
          go_roundw
          case rel => exact ⟨nn - 1, by go_num, by omega, HV, ⟨_, HR5⟩, HG5, HB5⟩
          case measure => simp [intOf]; omega
  · have HE := Lib.hid (show sensP t l i = (0, chkI t l) by unfold sensP atI; rw [if_neg hck, if_neg hck])
    have h1 : (chkI t l == 0) = false := by simpa using hck
    have h2 : (chkI t l != 0) = true := by simpa using hck
    clear hck
    go_wp2
    go_ret2
    exact ⟨by rw [HE.out]; rfl, HB.out⟩
end Go.Proofs.Ytmbfnhnemhojjaa
