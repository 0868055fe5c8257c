/- ResponseSets: Sensitivity of the program. -/
import Derived.Test.YtmbfnhnemhojjaaS1
namespace Go.Proofs.Ytmbfnhnemhojjaa
set_option linter.unusedVariables false
set_option linter.unusedSimpArgs false
open Go.RowKit Go.Proofs.YtmbfnhnemhojjaaW.PrintWords Go.Proofs.YtmbfnhnemhojjaaW.PrintLast Go.Proofs.YtmbfnhnemhojjaaW.PrintMore PResponseCosts FLib
attribute [local go_sem ↓] hold_cells hold_from hold_build69 hold_store69
attribute [local go_sem] below_alloc_T below_drew_T below_drewN_T run_box run_box2 run_box6 run_zero69 run_heldAlloc

/-- Task k with n sections more. -/
def l4 (l : List S33) (k : Nat) (n : Int) : List S33 := l.set k ⟨(tk l k).f0, (tk l k).f1, (tk l k).f2, (tk l k).f3, n, (tk l k).f5⟩
theorem l4_len (l : List S33) (k : Nat) (n : Int) : (l4 l k n).length = l.length := by unfold l4; rw [List.length_set]
theorem l4_self {l : List S33} {k : Nat} (h : k < l.length) : l4 l k (tk l k).f4 = l := by
  unfold l4
  have e : tk l k = l[k] := by unfold tk; rw [List.getD_eq_getElem?_getD, List.getElem?_eq_getElem h]; rfl
  rw [e]
  exact List.set_getElem_self h
theorem l4_tk {l : List S33} {k : Nat} (h : k < l.length) (n : Int) : tk (l4 l k n) k = ⟨(tk l k).f0, (tk l k).f1, (tk l k).f2, (tk l k).f3, n, (tk l k).f5⟩ := by
  show (l4 l k n).getD k z33 = _
  unfold l4
  rw [List.getD_eq_getElem?_getD, List.getElem?_set_self (by omega)]
  rfl
theorem l4_set {l : List S33} {k : Nat} (n m : Int) : (l4 l k n).set k ⟨(tk l k).f0, (tk l k).f1, (tk l k).f2, (tk l k).f3, m, (tk l k).f5⟩ = l4 l k m := by
  unfold l4
  rw [List.set_set]
theorem l4_ok {t : Tab} {l : List S33} (h : Set t l) {k : Nat} (hk : k < l.length) {n : Int} (h1 : 1 ≤ n) (h2 : n ≤ 1000) : Set t (l4 l k n) := by
  refine ⟨h.tab, fun x hx => ?_, by rw [l4_len]; exact h.pos, by rw [l4_len]; exact h.le⟩
  rcases List.mem_or_eq_of_mem_set hx with hx | rfl
  · exact h.tasks x hx
  · have o := h.tasks _ (tk_mem hk)
    exact ⟨o.f0, o.f1, o.f2, o.f3, ⟨h1, h2⟩, o.f5⟩
def sensF (t : Tab) (l : List S33) (k : Nat) : Nat → Int × Int
  | 0 => (0, 25)
  | n + 1 => if admB t (l4 l k ((n + 1 : Nat) : Int)) = true then (((n + 1 : Nat) : Int), 0) else sensF t l k n
def sensP (t : Tab) (l : List S33) (i : Int) : Int × Int := if atI t l i = 0 then sensF t l i.toNat 1000 else (0, atI t l i)

set_option maxRecDepth 100000 in
set_option maxHeartbeats 1600000 in
theorem sens_any (t : Tab) (ht : t.costs.length = 24) (A : Option Addr) (c : Nat) (l : List S33) (i : Int) (w : World) (hC : Kd.C k33 w A l.length l) :
    Calls Try.prog 25 #[tabV t, .slice A l.length c, .int .i64 i] w fun e w' => e = .returned (.tuple #[.int .i64 (sensP t l i).1, .int .i64 (sensP t l i).2]) ∧ Below w.heap.size w w' := by
  have HA := Lib.hid (fun w hC => at_any t ht A c l i w hC)
  have HK := Lib.hid (fun cs A c l h hs w hC => admitted_any cs t A c l h hs w hC)
  have HOK := Lib.hid (fun h => chk_ok (l := l) ht h)
  have HC := Lib.hid hC
  have hsz := tcells_len ht
  unfold tabV at HA ⊢
  generalize (tabCells t).toArray = cs at HA hsz ⊢
  clear ht hC
  go_enter Try.func25, Try.ntmps25
  go_wp2_with fail
  refine (HA.out _ (Kd.C_below HC.out (below_alloc (Below.refl _ _) _))).mono ?_
  rintro e w1 ⟨cs1, rfl, hs1, ho1, hb1, hp⟩
  have HB := Lib.hid (below_then (below_alloc (Below.refl w.heap.size w) (.cells cs 24)) (by simp) hb1)
  have HB2 := Lib.hid (below_alloc HB.out (.cells cs1 69))
  have HP := Lib.hid hp
  clear hp hb1
  have ho : One cs1 := ho1
  clear ho1
  by_cases h0 : atI t l i = 0
  · obtain ⟨hck, hi0, hi1⟩ := at_zero h0
    obtain ⟨A1, c1, hana, hR⟩ := HP.out h0
    have HSet := Lib.hid (HOK.out hck)
    obtain ⟨j, rfl⟩ := Int.eq_ofNat_of_zero_le hi0
    have hj : j < l.length := by omega
    obtain ⟨gr, cc, hAA, hbase, hgr, -⟩ := Kd.R_form hR HSet.out.pos
    injection hAA with hA1 _ hc1
    subst hA1
    have HANA := Lib.hid hana
    have HE := Lib.hid (show sensP t l (j : Int) = sensF t l j 1000 by unfold sensP; rw [if_pos h0]; rfl)
    have HR := Lib.hid (Kd.R_alloc hR (.cells cs1 69))
    have HG := Lib.hid (blk_new w1 (.cells cs1 69))
    have HNE := Lib.hid (show w1.heap.size ≠ gr by omega)
    have HJ := Lib.hid hj
    have hlen : (l.length : Int) ≤ 12 := by have := HSet.out.le; omega
    have HBW := Lib.hid (show w.heap.size ≤ gr by simp at hbase; omega)
    have HLT := Lib.hid (hana.tasks)
    have hcs1 := hana.size
    rw [h0]
    clear h0 hck hana hR hbase hgr
    go_wp2
    generalize w1.heap.size = g at HG HNE ⊢
    generalize (w.alloc (.cells cs 24)).heap.size = base at HR ⊢
    go_loopw [10] (fun n wr => ∃ nn : Nat, n = .int .i64 nn ∧ (nn : Int) ≤ 1000 ∧ Hid (sensF t l j 1000 = sensF t l j nn) ∧ (∃ f : Int, Hid (Kd.R k33 33 wr base (fun _ => True) (.slice (some ⟨gr, 0, none⟩) l.length c1) (l4 l j f))) ∧ Hid (wr.heap[g]? = some (.cells cs1 69 (0, 0))) ∧ Hid (Below w.heap.size w wr)) (fun n _ => (intOf n).toNat)
    case atStart => exact ⟨1000, rfl, by omega, Lib.hid rfl, ⟨(tk l j).f4, Lib.hid (by rw [l4_self HJ.out]; exact HR.out)⟩, HG, HB2⟩
    case round =>
      obtain ⟨nn, rfl, hnn, HSF, ⟨f, HRf⟩, HGr, HBr⟩ := hrel
      by_cases hz : nn = 0
      · subst hz
        have HV := Lib.hid (show sensP t l (j : Int) = (0, 25) by rw [HE.out, HSF.out]; rfl)
        go_wp2
        go_ret2
        exact ⟨by rw [HV.out]; rfl, HBr.out⟩
      · have hn0 : (0 : Int) < (nn : Int) := by omega
        have d1 : decide ((0 : Int) < (nn : Int)) = true := by simpa using hn0
        have hi0' : (0 : Int) ≤ (j : Int) := by omega
        have hi1' : (j : Int) < (l.length : Int) := by have := HJ.out; omega
        obtain ⟨c0, hc0, hM, hcc, hfr⟩ := Kd.R_elem HRf.out z33 (j : Int) hi0' hi1'
        obtain rfl := k33_openM hM
        have q4 := hcc 4 _ rfl
        have f4 := hfr 4
        simp only [Int.toNat_natCast, show k33.sz = 6 from rfl] at q4 f4
        have e26 : wr.cell? ⟨g, 26, none⟩ = some (.slice (some ⟨gr, 0, none⟩) l.length c1) := (blk_cell HGr.out 26).trans HLT.out
        have hseg := Kd.R_seg HRf.out (j : Int) hi0' hi1' (seg := [.int .i64 (nn : Int)]) (j := 4) (okp := fun _ => False) (x' := ⟨(tk l j).f0, (tk l j).f1, (tk l j).f2, (tk l j).f3, (nn : Int), (tk l j).f5⟩) rfl hcc (show (4 + 1 : Nat) ≤ 6 by decide) (by
          have e : (l4 l j f).getD (Int.toNat (j : Int)) z33 = _ := l4_tk HJ.out f
          rw [e]
          exact k33_mkM _ _ _ _) (fun _ h => h.elim)
        simp only [Int.toNat_natCast, show k33.sz = 6 from rfl, World.setCells, l4_set] at hseg
        have HS := Lib.hid hseg
        have HG2 := Lib.hid (blk_grown HGr.out hseg.2 (by have := HNE.out; simpa using this))
        have HB3 := Lib.hid (pw_below_grown HBr.out (some gr) HBr.out.size hseg.2 (fun q hq => by injection hq with hq; have := HBW.out; omega))
        have kl := runCells_blk (P := Try.prog) (n := 27) HG2.out hcs1
        have HKX := Lib.hid (HK.out cs1 (some ⟨gr, 0, none⟩) c1 (l4 l j (nn : Int)) (by rw [l4_len]; exact HANA.out) (l4_ok HSet.out HJ.out (by omega) hnn) _ (Kd.R_reads' HS.out.1).2.2)
        clear hcc hfr hM hc0 hseg
        have hsn : sensF t l j nn = if admB t (l4 l j (nn : Int)) = true then ((nn : Int), 0) else sensF t l j (nn - 1) := by
          obtain ⟨mm, rfl⟩ : ∃ mm, nn = mm + 1 := ⟨nn - 1, by omega⟩
          rfl
        have HSN := Lib.hid hsn
        clear hsn
        go_wp2_with fail
        refine HKX.out.mono ?_
        rintro e w5 ⟨rfl, hb5⟩
        have HB5 := Lib.hid (below_then HB3.out HB3.out.size hb5)
        have HG5 := Lib.hid (blk_below HG2.out hb5)
        have HR5 := Lib.hid (Kd.R_below HS.out.1 hb5)
        clear q4 f4 e26 kl hb5
        cases hadm : admB t (l4 l j (nn : Int)) with
        | true =>
          have HV := Lib.hid (show sensP t l (j : Int) = ((nn : Int), 0) by rw [HE.out, HSF.out, HSN.out, if_pos hadm])
          clear hadm
          go_wp2
          go_ret2
          exact ⟨by rw [HV.out]; rfl, HB5.out⟩
        | false =>
          have HV := Lib.hid (show sensF t l j 1000 = sensF t l j (nn - 1) by rw [HSF.out, HSN.out, hadm]; rfl)
          clear hadm
          go_wp2
          go_roundw
          case rel => exact ⟨nn - 1, by go_num, by omega, HV, ⟨_, HR5⟩, HG5, HB5⟩
          case measure => simp [intOf]; omega
  · have HE := Lib.hid (show sensP t l i = (0, atI t l i) by unfold sensP; rw [if_neg h0])
    have h1 : (atI t l i == 0) = false := by simpa using h0
    have h2 : (atI t l i != 0) = true := by simpa using h0
    clear h0
    go_wp2
    go_ret2
    exact ⟨by rw [HE.out]; rfl, HB2.out⟩
end Go.Proofs.Ytmbfnhnemhojjaa
