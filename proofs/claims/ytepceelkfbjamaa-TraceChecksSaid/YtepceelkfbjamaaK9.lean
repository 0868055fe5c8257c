/- TraceChecks: Profile of the reference; the law. -/
import Derived.Test.YtepceelkfbjamaaK8
import Derived.Test.YtepceelkfbjamaaF1
namespace Go.Proofs.Ytepceelkfbjamaa
section
set_option linter.unusedVariables false
set_option linter.unusedSimpArgs false
open Go.RowKit Go.Proofs.YtepceelkfbjamaaW.PrintWords Go.Proofs.YtepceelkfbjamaaW.PrintLast Go.Proofs.YtepceelkfbjamaaW.PrintMore PTraceFilters FLib
attribute [local go_sem ↓] hold_cells hold_from
attribute [local go_sem] below_alloc_T below_drew_T below_drewN_T run_box run_box6

/-- A row of a profile. -/
structure S7 where
  r0 : Int
  r1 : Int
  r2 : Int
  r3 : Int
  r4 : Int
  r5 : Int
  r6 : Int
def z7 : S7 := ⟨0, 0, 0, 0, 0, 0, 0⟩
def k7 : Kd S7 := Kd.iso (Kd.pair (Kd.int .i64) (Kd.pair (Kd.int .i64) (Kd.pair (Kd.int .i64) (Kd.pair (Kd.int .i64) (Kd.pair (Kd.int .i64) (Kd.pair (Kd.int .i64) (Kd.int .i64))))))) (fun x : S7 => (x.r0, x.r1, x.r2, x.r3, x.r4, x.r5, x.r6))
theorem k7_openM {w : World} {base : Nat} {ok : Nat → Prop} {x : S7} {cs : List Value} (h : k7.M w base ok x cs) : cs = [.int .i64 x.r0, .int .i64 x.r1, .int .i64 x.r2, .int .i64 x.r3, .int .i64 x.r4, .int .i64 x.r5, .int .i64 x.r6] := by
  obtain ⟨_, _, rfl, rfl, ⟨_, _, rfl, rfl, ⟨_, _, rfl, rfl, ⟨_, _, rfl, rfl, ⟨_, _, rfl, rfl, ⟨_, _, rfl, rfl, rfl⟩⟩⟩⟩⟩⟩ := h
  exact rfl
theorem k7_mkM (w : World) (base : Nat) (ok : Nat → Prop) (x : S7) : k7.M w base ok x [.int .i64 x.r0, .int .i64 x.r1, .int .i64 x.r2, .int .i64 x.r3, .int .i64 x.r4, .int .i64 x.r5, .int .i64 x.r6] := ⟨[.int .i64 x.r0], [.int .i64 x.r1, .int .i64 x.r2, .int .i64 x.r3, .int .i64 x.r4, .int .i64 x.r5, .int .i64 x.r6], rfl, rfl, ⟨[.int .i64 x.r1], [.int .i64 x.r2, .int .i64 x.r3, .int .i64 x.r4, .int .i64 x.r5, .int .i64 x.r6], rfl, rfl, ⟨[.int .i64 x.r2], [.int .i64 x.r3, .int .i64 x.r4, .int .i64 x.r5, .int .i64 x.r6], rfl, rfl, ⟨[.int .i64 x.r3], [.int .i64 x.r4, .int .i64 x.r5, .int .i64 x.r6], rfl, rfl, ⟨[.int .i64 x.r4], [.int .i64 x.r5, .int .i64 x.r6], rfl, rfl, ⟨[.int .i64 x.r5], [.int .i64 x.r6], rfl, rfl, rfl⟩⟩⟩⟩⟩⟩
theorem info77 : (Try.prog.info? 77).map (fun i => (i.zero, i.size, i.bytes)) = some (some (.agg #[.int .i64 0, .int .i64 0, .int .i64 0, .int .i64 0, .int .i64 0, .int .i64 0, .int .i64 0]), 7, 56) := by kernel_rfl
def cellJ (x : S7) (j : Nat) : Int := if j = 0 then x.r0 else if j = 1 then x.r1 else if j = 2 then x.r2 else if j = 3 then x.r3 else if j = 4 then x.r4 else if j = 5 then x.r5 else x.r6
/-- Thread t's row, its counts those of the events l'. -/
def rowC (p : Nat) (l : List S47) (z : Int) (t : Nat) (l' : List S47) : S7 := ⟨sumP (ranE t z l) p, cntS 0 t l', cntS 2 t l', cntS 3 t l', cntS 7 t l', (latS p t l).2.1, cntS 1 t l'⟩
def rowsL (p : Nat) (l : List S47) (z : Int) (n : Nat) : List S7 := (List.range n).map (fun t => rowC p l z t l)
theorem rowsL_len (p : Nat) (l : List S47) (z : Int) (n : Nat) : (rowsL p l z n).length = n := by unfold rowsL; rw [List.length_map, List.length_range]
theorem rowsL_getD {p : Nat} {l : List S47} {z : Int} {n t : Nat} (h : t < n) : (rowsL p l z n).getD t z7 = rowC p l z t l := by
  unfold rowsL
  rw [List.getD_eq_getElem?_getD, List.getElem?_map, List.getElem?_range h]; rfl
theorem rowsL_snoc (p : Nat) (l : List S47) (z : Int) (n : Nat) : rowsL p l z (n + 1) = rowsL p l z n ++ [rowC p l z n l] := by unfold rowsL; rw [List.range_succ, List.map_append]; rfl
theorem row_cell {p n : Nat} {l : List S47} {z : Int} (g : Good p n l l.length) (i : Nat) : cellJ (rowC p l z (i / 7) l) (i % 7) = endJ p l z p i := by
  have e : l.take l.length = l := List.take_length
  unfold endJ rowJ cellJ rowC
  rcases mod_cases i with m | m | m | m | m | m | m
  · simp only [m, if_true]
    rw [← sum_add]
    refine sum_congr fun q hq => ?_
    have h1 := g.on q (i / 7 : Nat) hq
    have h2 := g.on q 0 hq
    have h3 := g.fe q (i / 7 : Nat) 0 hq
    rw [e] at h1 h2 h3
    unfold ranE
    rw [h1, h2, h3]
  all_goals simp [m]
theorem At.of_R7 {w : World} {base g c n : Nat} {ok : Nat → Prop} {rows : List S7} {f : Nat → Int} (h : Kd.R k7 77 w base ok (.slice (some ⟨g, 0, none⟩) n c) rows) (hl : rows.length = n) (hp : 0 < n) (hf : ∀ i, i < n * 7 → cellJ (rows.getD (i / 7) z7) (i % 7) = f i) : At w g 77 (ints (tab (n * 7) f)) := by
  obtain ⟨g', c', e, -, -, cells, hc⟩ := Kd.R_form h (by omega)
  injection e with e _ _
  injection e with e
  injection e with e _ _
  subst e
  have hx : ∀ i, i < n * 7 → cells.toList[i]? = some (.int .i64 (f i)) := by
    intro i hi
    obtain ⟨c0, hc0, hM, hcc, hfr⟩ := Kd.R_elem h z7 ((i / 7 : Nat) : Int) (by omega) (by omega)
    rw [Int.toNat_natCast] at hM hcc
    obtain rfl := k7_openM hM
    have key : w.cell? ⟨g, i / 7 * 7 + i % 7, none⟩ = some (.int .i64 (f i)) := by
      rw [← hf i hi]
      have hs : k7.sz = 7 := rfl
      rw [hs] at hcc
      rcases mod_cases i with m | m | m | m | m | m | m <;> (rw [m]; exact hcc _ _ rfl)
    rw [show i / 7 * 7 + i % 7 = i by omega, blk_cell hc] at key
    simpa using key
  refine ⟨cells.toList.drop (n * 7), ?_⟩
  rw [hc]
  congr 2
  apply Array.ext'
  apply List.ext_getElem?
  intro i
  have hlen : (ints (tab (n * 7) f)).length = n * 7 := by rw [ints_len, tab_len]
  by_cases hi : i < n * 7
  · rw [hx i hi]
    simp only [List.toList_toArray]
    rw [List.getElem?_append_left (by rw [hlen]; exact hi)]
    unfold ints
    rw [List.getElem?_map, tab_get hi]; rfl
  · simp only [List.toList_toArray]
    rw [List.getElem?_append_right (by rw [hlen]; omega), hlen, List.getElem?_drop]
    congr 1
    omega
theorem chkF_fst {s : St} : ∀ {l : List S47} {i : Nat}, (chkF s i l).1 = -1 ∨ 0 ≤ (chkF s i l).1
  | [], i => by unfold chkF; split <;> simp
  | e :: l, i => by
    unfold chkF
    split
    · exact chkF_fst
    · right; simp
theorem chkR_fst (l : List S47) (p t : Int) : (chkR l p t).1 = -1 ∨ 0 ≤ (chkR l p t).1 := by
  unfold chkR
  split
  · right; exact Int.le_refl _
  · split
    · right; exact Int.le_refl _
    · exact chkF_fst
theorem cnt_take {k t : Int} {l : List S47} {j : Nat} (h : j < l.length) : cntS k t (l.take (j + 1)) = if (ev l j).f3 = t ∧ (ev l j).f1 = k then cntS k t (l.take j) + 1 else cntS k t (l.take j) := by rw [take_ev h, cnt_snoc]

set_option maxRecDepth 100000 in
set_option maxHeartbeats 6400000 in
theorem rprofile_any (A : Option Addr) (c : Nat) (l : List S47) (p t z : Int) (w : World) (hC : Kd.C k47 w A l.length l) :
    Calls Try.prog 32 #[.slice A l.length c, .int .i64 p, .int .i64 t, .int .i64 z] w (PrPost 77 l p t z w) := by
  have hln := hC.2.1
  have HC := Lib.hid hC
  have HCK := Lib.hid (rcheck_any A c l p t w hC)
  clear hC
  have hE : prE l p t z = if (chkR l p t).2.2 ≠ 0 then (chkR l p t).2.2 else if (chkR l p t).1 ≠ -1 then 14 else if z < last l ∨ tmax < z then 34 else 0 := rfl
  have hG := fun h1 h2 => chk_good (l := l) (p := p) (t := t) h1 h2
  have hfs := chkR_fst l p t
  generalize chkR l p t = r at HCK hE hG hfs
  obtain ⟨a, b, ec⟩ := r
  unfold chV at HCK
  dsimp only at HCK hE hG hfs
  have HG := Lib.hid hG
  clear hG
  by_cases h1 : ec = 0
  · subst h1
    rw [if_neg (by simp)] at hE
    by_cases h2 : a = -1
    · subst h2
      rw [if_neg (by simp)] at hE
      obtain ⟨pn, tn, rfl, rfl, hp1, hp8, ht, hl, hv⟩ := HG.out rfl rfl
      have HV := Lib.hid hv
      have hlt := last_time hv
      have HLT := Lib.hid hlt
      obtain ⟨N, hN⟩ : ∃ N, l.length = N := ⟨_, rfl⟩
      have HLL := Lib.hid hl
      rw [hN] at HCK hl hln ⊢
      have HN := Lib.hid hN
      have hNi : (N : Int) ≤ 20000 := by omega
      clear HG hv hlt hN hfs
      go_enter Try.func32, Try.ntmps32
      go_upto_if 33 with (go_at_call 30; refine HCK.out.mono ?_; rintro x w1 ⟨rfl, hb1⟩)
      have HC1 := Lib.hid (Kd.C_below HC.out hb1)
      have HB1 := Lib.hid hb1
      clear hb1
      go_cut [13] (fun v wc => v = .int .i64 (last l) ∧ w1 = wc)
      case first =>
        by_cases h0 : N = 0
        · have HL : Hid (last l = 0) := Lib.hid (by unfold last; rw [if_pos (HN.out.trans h0)])
          subst h0
          go_wp2
          go_meet
          exact ⟨by rw [HL.out], by first | rfl | trivial⟩
        · have m0 : (0 : Int) < (N : Int) := by omega
          obtain ⟨ad, rfl, c0, -, -, -, -, -⟩ := at_T47 HC1.out ((N : Int) - 1) (by omega) (by have := HN.out; omega)
          rw [show ((N : Int) - 1).toNat = N - 1 by omega] at c0
          have HL : Hid (last l = (rd_T47 l ((N : Int) - 1)).f0) := Lib.hid (by
            unfold last rd_T47 ev
            rw [HN.out, if_neg h0, show ((N : Int) - 1).toNat = N - 1 by omega])
          generalize (rd_T47 l ((N : Int) - 1)).f0 = x at c0 HL
          clear h0
          go_wp2
          go_meet
          exact ⟨by rw [HL.out], by first | rfl | trivial⟩
      case rest =>
        obtain ⟨rfl, rfl⟩ := hcut
        rw [HN.out] at HC1
        have hE2 := hE
        generalize hla : last l = la at hE hE2 HLT
        have HLA := Lib.hid hla
        clear hla hE2
        by_cases hz2 : tmax < z
        · rw [if_pos (Or.inr hz2)] at hE
          have HE := Lib.hid hE
          have d2 : decide (1099511627776 < z) = true := by simpa [tmax] using hz2
          clear hE hz2
          go_wp2
          go_ret2
          exact ⟨none, 0, 0, by rw [HE.out]; rfl, HB1.out, by rw [HE.out]; rfl, fun h => by rw [HE.out] at h; cases h⟩
        by_cases hz1 : z < la
        · rw [if_pos (Or.inl hz1)] at hE
          have HE := Lib.hid hE
          have d1 : decide (z < la) = true := by simpa using hz1
          have d2 : decide (1099511627776 < z) = false := by simpa [tmax] using hz2
          clear hE hz1 hz2
          go_wp2
          go_ret2
          exact ⟨none, 0, 0, by rw [HE.out]; rfl, HB1.out, by rw [HE.out]; rfl, fun h => by rw [HE.out] at h; cases h⟩
        rw [if_neg (by omega)] at hE
        have HE := Lib.hid hE
        have d1 : decide (z < la) = false := by simpa using hz1
        have d2 : decide (1099511627776 < z) = false := by simpa [tmax] using hz2
        have HZ1 := Lib.hid (show (stS pn tn l).time ≤ z by rw [HLT.out]; omega)
        have HZ2 := Lib.hid (show z ≤ tmax by omega)
        clear hE hz1 hz2
        have HGD := Lib.hid (good pn tn l HV.out l.length (Nat.le_refl _))
        have HV256 := Lib.hid (val_more HV.out ht)
        have HT256 := Lib.hid (show (stS pn 256 l).time ≤ tmax by
          have := (st_same pn tn 256 l).2.1
          unfold stS at HZ1 ⊢
          rw [← this]
          exact Int.le_trans HZ1.out HZ2.out)
        go_wp2
        clear d1 d2
        go_loopw [14, 15] (fun v i wr => ∃ k : Nat, k ≤ tn ∧ i = .int .i64 k ∧ Hid (Kd.R k7 77 wr w1.heap.size (fun _ => True) v (rowsL pn l z k)) ∧ Hid (Below w1.heap.size w1 wr)) (fun _ i _ => tn - (intOf i).toNat)
        case atStart => exact ⟨0, Nat.zero_le _, rfl, Lib.hid (Kd.R_nil _ _ _ _ _), Lib.hid (Below.refl _ _)⟩
        case round =>
          obtain ⟨k, hk, rfl, HR, HB⟩ := hrel
          by_cases hlt : k < tn
          · have hi1 : (k : Int) < (tn : Int) := by omega
            have HRA := Lib.hid (fun w hC => ran_any A c l pn tn k z HV.out hp8 HLL.out HZ1.out HZ2.out w hC)
            have HLAT := Lib.hid (fun w hC => latency_any A c l pn k HV256.out hp1 hp8 HLL.out HT256.out w hC)
            rw [HN.out] at HRA HLAT
            have HSN : Hid (rowsL pn l z (k + 1) = rowsL pn l z k ++ [rowC pn l z k l]) := Lib.hid (rowsL_snoc _ _ _ _)
            have HRC : Hid (rowC pn l z k l = ⟨sumP (ranE k z l) pn, cntS 0 k l, cntS 2 k l, cntS 3 k l, cntS 7 k l, (latS pn k l).2.1, cntS 1 k l⟩) := Lib.hid rfl
            generalize sumP (ranE k z l) pn = R at HRA HRC
            generalize (latS pn k l).2.1 = L at HLAT HRC
            go_wp2_with fail
            refine (HRA.out _ (Kd.C_below HC1.out HB.out)).mono ?_
            rintro x w3 ⟨rfl, hb3⟩
            have HB3 := Lib.hid (below_then HB.out HB.out.size hb3)
            have HR3 := Lib.hid (Kd.R_below HR.out hb3)
            clear hb3 HB HR
            go_wp2_with fail
            refine (HLAT.out _ (Kd.C_below HC1.out HB3.out)).mono ?_
            rintro x w4 ⟨rfl, hb4⟩
            have HB4 := Lib.hid (below_then HB3.out HB3.out.size hb4)
            have HR4 := Lib.hid (Kd.R_mono (Kd.R_bound (Kd.R_below HR3.out hb4)) (ok' := fun k => k < w4.heap.size) (fun k hk => hk.2.2.1))
            clear hb4 HB3 HR3
            go_wp2
            refine abs_w (fun W5 => W5.heap[w4.heap.size]? = some (.cells #[.int .i64 R, .int .i64 0, .int .i64 0, .int .i64 0, .int .i64 0, .int .i64 L, .int .i64 0] 77 (0, 0)) ∧ Kd.R k7 77 W5 w1.heap.size (fun k => k < w4.heap.size) _ (rowsL pn l z k) ∧ Below w1.heap.size w1 W5) ⟨blk_new _ _, Kd.R_alloc HR4.out _, below_new HB4.out _⟩ ?_
            have HGE := Lib.hid HB4.out.size
            clear HR4 HB4 HRA HLAT
            generalize w4.heap.size = g at HGE ⊢
            rintro W5 ⟨hg5, hr5, hb5⟩
            have HG5 := Lib.hid hg5
            have HR5 := Lib.hid hr5
            have HB5 := Lib.hid hb5
            clear hg5 hr5 hb5
            go_loopw [17] (fun i wr => ∃ j : Nat, j ≤ N ∧ i = .int .i64 j ∧ Hid (wr.heap[g]? = some (.cells #[.int .i64 R, .int .i64 (cntS 0 k (l.take j)), .int .i64 (cntS 2 k (l.take j)), .int .i64 (cntS 3 k (l.take j)), .int .i64 (cntS 7 k (l.take j)), .int .i64 L, .int .i64 (cntS 1 k (l.take j))] 77 (0, 0))) ∧ Hid (Kd.R k7 77 wr w1.heap.size (fun k => k < g) _ (rowsL pn l z k)) ∧ Hid (Below w1.heap.size w1 wr)) (fun i _ => N - (intOf i).toNat)
            case atStart => exact ⟨0, Nat.zero_le _, rfl, HG5, HR5, HB5⟩
            case round =>
              obtain ⟨j, hj, rfl, HGj, HRj, HBj⟩ := hrel
              by_cases hjN : j < N
              · obtain ⟨ad, rfl, c0, c1, c2, c3⟩ := ev_cells (Kd.C_below HC1.out HBj.out) j hjN
                have hjl : j < l.length := by rw [HN.out]; exact hjN
                have hi0 : (0 : Int) ≤ (j : Int) := by omega
                have hi2 : (j : Int) < (N : Int) := by omega
                have hlt0 : (l.take j).length ≤ 20000 := by rw [List.length_take]; have := HLL.out; omega
                have hb0 := cntS_le 0 k (l.take j)
                have HT0 := Lib.hid (cnt_take (k := 0) (t := (k : Int)) hjl)
                generalize cntS 0 k (l.take j) = n0 at HGj hb0 HT0
                have hb2 := cntS_le 2 k (l.take j)
                have HT2 := Lib.hid (cnt_take (k := 2) (t := (k : Int)) hjl)
                generalize cntS 2 k (l.take j) = n2 at HGj hb2 HT2
                have hb3 := cntS_le 3 k (l.take j)
                have HT3 := Lib.hid (cnt_take (k := 3) (t := (k : Int)) hjl)
                generalize cntS 3 k (l.take j) = n3 at HGj hb3 HT3
                have hb7 := cntS_le 7 k (l.take j)
                have HT7 := Lib.hid (cnt_take (k := 7) (t := (k : Int)) hjl)
                generalize cntS 7 k (l.take j) = n7 at HGj hb7 HT7
                have hb1 := cntS_le 1 k (l.take j)
                have HT1 := Lib.hid (cnt_take (k := 1) (t := (k : Int)) hjl)
                generalize cntS 1 k (l.take j) = n1 at HGj hb1 HT1
                generalize ev l j = e at c0 c1 c2 c3 HT0 HT2 HT3 HT7 HT1
                have hs := Below.refl wr.heap.size wr
                have x0 : wr.cell? ⟨g, 1, none⟩ = some (.int .i64 n0) := blk_cell HGj.out 1
                have z0 : wr.frozen? ⟨g, 1, none⟩ = false := blk_frozen HGj.out 1
                obtain ⟨p0, r0⟩ := hb0
                have x2 : wr.cell? ⟨g, 2, none⟩ = some (.int .i64 n2) := blk_cell HGj.out 2
                have z2 : wr.frozen? ⟨g, 2, none⟩ = false := blk_frozen HGj.out 2
                obtain ⟨p2, r2⟩ := hb2
                have x3 : wr.cell? ⟨g, 3, none⟩ = some (.int .i64 n3) := blk_cell HGj.out 3
                have z3 : wr.frozen? ⟨g, 3, none⟩ = false := blk_frozen HGj.out 3
                obtain ⟨p3, r3⟩ := hb3
                have x7 : wr.cell? ⟨g, 4, none⟩ = some (.int .i64 n7) := blk_cell HGj.out 4
                have z7 : wr.frozen? ⟨g, 4, none⟩ = false := blk_frozen HGj.out 4
                obtain ⟨p7, r7⟩ := hb7
                have x1 : wr.cell? ⟨g, 6, none⟩ = some (.int .i64 n1) := blk_cell HGj.out 6
                have z1 : wr.frozen? ⟨g, 6, none⟩ = false := blk_frozen HGj.out 6
                obtain ⟨p1, r1⟩ := hb1
                have hst : ∀ (i : Nat) (v : Value), Kd.R k7 77 (wr.setCell ⟨g, i, none⟩ v) w1.heap.size (fun k => k < g) _ (rowsL pn l z k) := fun i v => Kd.R_far HRj.out (fun k hk => by show k ≠ g; omega) v
                have HST := Lib.hid hst
                clear hst
                rcases int_cases e.f3 k with ⟨a1, a2, a3⟩ | ⟨a1, a2, a3⟩
                · rcases int_cases e.f1 0 with ⟨b0, d0, f0⟩ | ⟨b0, d0, f0⟩
                  · have HU0 : Hid (cntS 0 k (l.take (j + 1)) = n0 + 1) := Lib.hid (by rw [HT0.out, if_pos ⟨a3, f0⟩])
                    have HU2 : Hid (cntS 2 k (l.take (j + 1)) = n2) := Lib.hid (by rw [HT2.out, if_neg (fun x => by have := x.2; omega)])
                    have HU3 : Hid (cntS 3 k (l.take (j + 1)) = n3) := Lib.hid (by rw [HT3.out, if_neg (fun x => by have := x.2; omega)])
                    have HU7 : Hid (cntS 7 k (l.take (j + 1)) = n7) := Lib.hid (by rw [HT7.out, if_neg (fun x => by have := x.2; omega)])
                    have HU1 : Hid (cntS 1 k (l.take (j + 1)) = n1) := Lib.hid (by rw [HT1.out, if_neg (fun x => by have := x.2; omega)])
                    have b2 : (e.f1 == 2) = false := by rw [f0]; rfl
                    have b3 : (e.f1 == 3) = false := by rw [f0]; rfl
                    have b7 : (e.f1 == 7) = false := by rw [f0]; rfl
                    have b1 : (e.f1 == 1) = false := by rw [f0]; rfl
                    clear a3 f0
                    go_wp2
                    clear c0 c1 c2 c3 a1 a2 b0 d0 b2 b3 b7 b1 x0 z0 x2 z2 x3 z3 x7 z7 x1 z1
                    go_roundw
                    case rel => exact ⟨j + 1, by omega, by go_num, Lib.hid (by rw [HU0.out, HU2.out, HU3.out, HU7.out, HU1.out]; simpa using blk_set HGj.out 1 (.int .i64 (n0 + 1))), Lib.hid (HST.out _ _), Lib.hid (HBj.out.setCell HGE.out _)⟩
                    case measure => simp [intOf]; omega
                  · rcases int_cases e.f1 2 with ⟨b2, d2, f2⟩ | ⟨b2, d2, f2⟩
                    · have HU0 : Hid (cntS 0 k (l.take (j + 1)) = n0) := Lib.hid (by rw [HT0.out, if_neg (fun x => by have := x.2; omega)])
                      have HU2 : Hid (cntS 2 k (l.take (j + 1)) = n2 + 1) := Lib.hid (by rw [HT2.out, if_pos ⟨a3, f2⟩])
                      have HU3 : Hid (cntS 3 k (l.take (j + 1)) = n3) := Lib.hid (by rw [HT3.out, if_neg (fun x => by have := x.2; omega)])
                      have HU7 : Hid (cntS 7 k (l.take (j + 1)) = n7) := Lib.hid (by rw [HT7.out, if_neg (fun x => by have := x.2; omega)])
                      have HU1 : Hid (cntS 1 k (l.take (j + 1)) = n1) := Lib.hid (by rw [HT1.out, if_neg (fun x => by have := x.2; omega)])
                      have b3 : (e.f1 == 3) = false := by rw [f2]; rfl
                      have b7 : (e.f1 == 7) = false := by rw [f2]; rfl
                      have b1 : (e.f1 == 1) = false := by rw [f2]; rfl
                      clear a3 f0 f2
                      go_wp2
                      clear c0 c1 c2 c3 a1 a2 b0 d0 b2 d2 b3 b7 b1 x0 z0 x2 z2 x3 z3 x7 z7 x1 z1
                      go_roundw
                      case rel => exact ⟨j + 1, by omega, by go_num, Lib.hid (by rw [HU0.out, HU2.out, HU3.out, HU7.out, HU1.out]; simpa using blk_set HGj.out 2 (.int .i64 (n2 + 1))), Lib.hid (HST.out _ _), Lib.hid (HBj.out.setCell HGE.out _)⟩
                      case measure => simp [intOf]; omega
                    · rcases int_cases e.f1 3 with ⟨b3, d3, f3⟩ | ⟨b3, d3, f3⟩
                      · have HU0 : Hid (cntS 0 k (l.take (j + 1)) = n0) := Lib.hid (by rw [HT0.out, if_neg (fun x => by have := x.2; omega)])
                        have HU2 : Hid (cntS 2 k (l.take (j + 1)) = n2) := Lib.hid (by rw [HT2.out, if_neg (fun x => by have := x.2; omega)])
                        have HU3 : Hid (cntS 3 k (l.take (j + 1)) = n3 + 1) := Lib.hid (by rw [HT3.out, if_pos ⟨a3, f3⟩])
                        have HU7 : Hid (cntS 7 k (l.take (j + 1)) = n7) := Lib.hid (by rw [HT7.out, if_neg (fun x => by have := x.2; omega)])
                        have HU1 : Hid (cntS 1 k (l.take (j + 1)) = n1) := Lib.hid (by rw [HT1.out, if_neg (fun x => by have := x.2; omega)])
                        have b7 : (e.f1 == 7) = false := by rw [f3]; rfl
                        have b1 : (e.f1 == 1) = false := by rw [f3]; rfl
                        clear a3 f0 f2 f3
                        go_wp2
                        clear c0 c1 c2 c3 a1 a2 b0 d0 b2 d2 b3 d3 b7 b1 x0 z0 x2 z2 x3 z3 x7 z7 x1 z1
                        go_roundw
                        case rel => exact ⟨j + 1, by omega, by go_num, Lib.hid (by rw [HU0.out, HU2.out, HU3.out, HU7.out, HU1.out]; simpa using blk_set HGj.out 3 (.int .i64 (n3 + 1))), Lib.hid (HST.out _ _), Lib.hid (HBj.out.setCell HGE.out _)⟩
                        case measure => simp [intOf]; omega
                      · rcases int_cases e.f1 7 with ⟨b7, d7, f7⟩ | ⟨b7, d7, f7⟩
                        · have HU0 : Hid (cntS 0 k (l.take (j + 1)) = n0) := Lib.hid (by rw [HT0.out, if_neg (fun x => by have := x.2; omega)])
                          have HU2 : Hid (cntS 2 k (l.take (j + 1)) = n2) := Lib.hid (by rw [HT2.out, if_neg (fun x => by have := x.2; omega)])
                          have HU3 : Hid (cntS 3 k (l.take (j + 1)) = n3) := Lib.hid (by rw [HT3.out, if_neg (fun x => by have := x.2; omega)])
                          have HU7 : Hid (cntS 7 k (l.take (j + 1)) = n7 + 1) := Lib.hid (by rw [HT7.out, if_pos ⟨a3, f7⟩])
                          have HU1 : Hid (cntS 1 k (l.take (j + 1)) = n1) := Lib.hid (by rw [HT1.out, if_neg (fun x => by have := x.2; omega)])
                          have b1 : (e.f1 == 1) = false := by rw [f7]; rfl
                          clear a3 f0 f2 f3 f7
                          go_wp2
                          clear c0 c1 c2 c3 a1 a2 b0 d0 b2 d2 b3 d3 b7 d7 b1 x0 z0 x2 z2 x3 z3 x7 z7 x1 z1
                          go_roundw
                          case rel => exact ⟨j + 1, by omega, by go_num, Lib.hid (by rw [HU0.out, HU2.out, HU3.out, HU7.out, HU1.out]; simpa using blk_set HGj.out 4 (.int .i64 (n7 + 1))), Lib.hid (HST.out _ _), Lib.hid (HBj.out.setCell HGE.out _)⟩
                          case measure => simp [intOf]; omega
                        · rcases int_cases e.f1 1 with ⟨b1, d1, f1⟩ | ⟨b1, d1, f1⟩
                          · have HU0 : Hid (cntS 0 k (l.take (j + 1)) = n0) := Lib.hid (by rw [HT0.out, if_neg (fun x => by have := x.2; omega)])
                            have HU2 : Hid (cntS 2 k (l.take (j + 1)) = n2) := Lib.hid (by rw [HT2.out, if_neg (fun x => by have := x.2; omega)])
                            have HU3 : Hid (cntS 3 k (l.take (j + 1)) = n3) := Lib.hid (by rw [HT3.out, if_neg (fun x => by have := x.2; omega)])
                            have HU7 : Hid (cntS 7 k (l.take (j + 1)) = n7) := Lib.hid (by rw [HT7.out, if_neg (fun x => by have := x.2; omega)])
                            have HU1 : Hid (cntS 1 k (l.take (j + 1)) = n1 + 1) := Lib.hid (by rw [HT1.out, if_pos ⟨a3, f1⟩])
                            clear a3 f0 f2 f3 f7 f1
                            go_wp2
                            clear c0 c1 c2 c3 a1 a2 b0 d0 b2 d2 b3 d3 b7 d7 b1 d1  x0 z0 x2 z2 x3 z3 x7 z7 x1 z1
                            go_roundw
                            case rel => exact ⟨j + 1, by omega, by go_num, Lib.hid (by rw [HU0.out, HU2.out, HU3.out, HU7.out, HU1.out]; simpa using blk_set HGj.out 6 (.int .i64 (n1 + 1))), Lib.hid (HST.out _ _), Lib.hid (HBj.out.setCell HGE.out _)⟩
                            case measure => simp [intOf]; omega
                          · have HU0 : Hid (cntS 0 k (l.take (j + 1)) = n0) := Lib.hid (by rw [HT0.out, if_neg (fun x => f0 x.2)])
                            have HU2 : Hid (cntS 2 k (l.take (j + 1)) = n2) := Lib.hid (by rw [HT2.out, if_neg (fun x => f2 x.2)])
                            have HU3 : Hid (cntS 3 k (l.take (j + 1)) = n3) := Lib.hid (by rw [HT3.out, if_neg (fun x => f3 x.2)])
                            have HU7 : Hid (cntS 7 k (l.take (j + 1)) = n7) := Lib.hid (by rw [HT7.out, if_neg (fun x => f7 x.2)])
                            have HU1 : Hid (cntS 1 k (l.take (j + 1)) = n1) := Lib.hid (by rw [HT1.out, if_neg (fun x => f1 x.2)])
                            clear a3 f0 f2 f3 f7 f1
                            go_wp2
                            clear c0 c1 c2 c3 a1 a2 b0 d0 b2 d2 b3 d3 b7 d7 b1 d1 x0 z0 x2 z2 x3 z3 x7 z7 x1 z1
                            go_roundw
                            case rel => exact ⟨j + 1, by omega, by go_num, Lib.hid (by rw [HU0.out, HU2.out, HU3.out, HU7.out, HU1.out]; exact HGj.out), HRj, HBj⟩
                            case measure => simp [intOf]; omega
                · have HU0 : Hid (cntS 0 k (l.take (j + 1)) = n0) := Lib.hid (by rw [HT0.out, if_neg (fun x => a3 x.1)])
                  have HU2 : Hid (cntS 2 k (l.take (j + 1)) = n2) := Lib.hid (by rw [HT2.out, if_neg (fun x => a3 x.1)])
                  have HU3 : Hid (cntS 3 k (l.take (j + 1)) = n3) := Lib.hid (by rw [HT3.out, if_neg (fun x => a3 x.1)])
                  have HU7 : Hid (cntS 7 k (l.take (j + 1)) = n7) := Lib.hid (by rw [HT7.out, if_neg (fun x => a3 x.1)])
                  have HU1 : Hid (cntS 1 k (l.take (j + 1)) = n1) := Lib.hid (by rw [HT1.out, if_neg (fun x => a3 x.1)])
                  clear a3
                  go_wp2
                  clear c0 c1 c2 c3 a1 a2 x0 z0 x2 z2 x3 z3 x7 z7 x1 z1
                  go_roundw
                  case rel => exact ⟨j + 1, by omega, by go_num, Lib.hid (by rw [HU0.out, HU2.out, HU3.out, HU7.out, HU1.out]; exact HGj.out), HRj, HBj⟩
                  case measure => simp [intOf]; omega
              · obtain rfl : j = N := by omega
                rw [show l.take j = l by rw [← HN.out]; exact List.take_length] at HGj
                have HRO := Lib.hid (Kd.R_mono HRj.out (ok' := fun _ => True) (fun _ _ => trivial))
                have l7 : RunCells Try.prog ⟨g, 0, none⟩ 7 wr = _ := runCells_blk (P := Try.prog) (n := 7) HGj.out rfl
                have hrl : (rowsL pn l z k).length ≤ 256 := by rw [rowsL_len]; omega
                generalize cntS 0 k l = n0 at l7 HRC HGj
                generalize cntS 2 k l = n2 at l7 HRC HGj
                generalize cntS 3 k l = n3 at l7 HRC HGj
                generalize cntS 7 k l = n7 at l7 HRC HGj
                generalize cntS 1 k l = n1 at l7 HRC HGj
                go_wp2_with (at_builtin; refine Kd.R_append k7 (w0 := w1) (W := wr) w1.heap.size rfl (.tmp 111) (.tmp 113) 72 77 _ 56 rfl Try.underlying72 info77 rfl (by decide) (by decide) _ (rowsL pn l z k) ⟨R, n0, n2, n3, n7, L, n1⟩ [.int .i64 R, .int .i64 n0, .int .i64 n2, .int .i64 n3, .int .i64 n7, .int .i64 L, .int .i64 n1] (fun _ => True) (fun _ => False) rfl rfl (k7_mkM _ _ _ _) (fun _ h => h.elim) (fun _ _ => trivial) HRO.out HBj.out HBj.out.size (by omega) ?_; intro v6 w6 hR6 hB6 _ _; have HR6 := Lib.hid hR6; have HB6 := Lib.hid hB6; clear hR6 hB6)
                clear l7
                go_roundw
                case rel => exact ⟨k + 1, by omega, by go_num, Lib.hid (by rw [HSN.out, HRC.out]; exact HR6.out), HB6⟩
                case measure => simp [intOf]; omega
          · obtain rfl : k = tn := by omega
            obtain ⟨A2, c2, rfl⟩ := Kd.R_slice HR.out
            rw [rowsL_len] at HR ⊢
            go_wp2
            go_ret2
            refine ⟨A2, k, c2, by rw [HE.out]; rfl, below_then HB1.out HB1.out.size HB.out, by rw [HE.out]; rfl, fun _ hk0 => ?_⟩
            obtain ⟨g, c', e', -⟩ := Kd.R_form HR.out (by rw [rowsL_len]; exact hk0)
            injection e' with e' _ _
            subst e'
            refine ⟨g, rfl, At.of_R7 HR.out (rowsL_len _ _ _ _) hk0 fun i hi => ?_⟩
            rw [rowsL_getD (by omega)]
            exact row_cell HGD.out i
    · rw [if_pos h2] at hE
      have HE := Lib.hid hE
      have m1 : decide ((0 : Int) ≤ a) = true := by rcases hfs with h | h; (exact absurd h h2); (simpa using h)
      clear hE h2 HG hfs
      go_enter Try.func32, Try.ntmps32
      go_wp2_with (go_at_call 30; refine HCK.out.mono ?_; rintro x w1 ⟨rfl, hb1⟩)
      go_ret2
      exact ⟨none, 0, 0, by rw [HE.out]; rfl, hb1, by rw [HE.out]; rfl, fun h => by rw [HE.out] at h; cases h⟩
  · rw [if_pos h1] at hE
    have HE := Lib.hid hE
    have H1 := Lib.hid h1
    have m1 : (ec == 0) = false := by rw [beq_eq_false_iff_ne]; exact h1
    have m2 : (ec != 0) = true := by rw [bne_iff_ne]; exact h1
    clear hE h1 HG hfs
    go_enter Try.func32, Try.ntmps32
    go_wp2_with (go_at_call 30; refine HCK.out.mono ?_; rintro x w1 ⟨rfl, hb1⟩)
    go_ret2
    exact ⟨none, 0, 0, by rw [HE.out]; rfl, hb1, by rw [HE.out, if_neg H1.out], fun h => by rw [HE.out] at h; exact absurd h H1.out⟩
end
section
set_option linter.unusedVariables false
set_option linter.unusedSimpArgs false
open Go.RowKit Go.Proofs.YtepceelkfbjamaaW.PrintWords Go.Proofs.YtepceelkfbjamaaW.PrintLast Go.Proofs.YtepceelkfbjamaaW.PrintMore PTraceFilters FLib
attribute [local go_sem ↓] hold_cells hold_from
attribute [local go_sem] below_alloc_T below_drew_T below_drewN_T run_box run_box6

/-- A row of seven cells, in every later world. -/
theorem at_row {W : World} {g T : Nat} {F : List Int} (h : At W g T (ints F)) (k : Nat) (hk : k * 7 + 7 ≤ F.length) : ∀ w', Below W.heap.size W w' → RunCells Try.prog ⟨g, k * 7, none⟩ 7 w' =
    .ok #[.int .i64 (F.getD (k * 7) 0), .int .i64 (F.getD (k * 7 + 1) 0), .int .i64 (F.getD (k * 7 + 2) 0), .int .i64 (F.getD (k * 7 + 3) 0), .int .i64 (F.getD (k * 7 + 4) 0), .int .i64 (F.getD (k * 7 + 5) 0), .int .i64 (F.getD (k * 7 + 6) 0)] w' := by
  refine later_run (a := ⟨g, k * 7, none⟩) (fun j v hv => ?_) rfl
  have hj : j < 7 := by
    by_cases hj : j < 7
    · exact hj
    · rw [Array.getElem?_eq_none (by simp; omega)] at hv; cases hv
  have hc := h.cell (ints_nat (l := F) (k := k * 7 + j) (by omega))
  have ha : (⟨g, k * 7, none⟩ : Addr).add j = ⟨g, k * 7 + j, none⟩ := by
    unfold Addr.add
    by_cases h0 : j = 0 <;> simp [h0]
  rw [ha, hc]
  have h7 : j = 0 ∨ j = 1 ∨ j = 2 ∨ j = 3 ∨ j = 4 ∨ j = 5 ∨ j = 6 := by omega
  rcases h7 with rfl | rfl | rfl | rfl | rfl | rfl | rfl <;> (simp at hv; rw [← hv]; rfl)

set_option maxRecDepth 100000 in
set_option maxHeartbeats 6400000 in
theorem checks_law (A : Option Addr) (n c : Nat) (l : List S47) (p t z : Int) (w : World) (hC : Kd.C k47 w A n l) :
    Calls Try.prog 9 #[.slice A n c, .agg #[.int .i64 p, .int .i64 t], .int .i64 z] w fun x w' => x = .returned (.bool true) ∧ Below w.heap.size w w' := by
  obtain rfl := Kd.C_len hC
  have hb0 : Below w.heap.size w (w.alloc (.cells #[.int .i64 p, .int .i64 t] 67)) := below_alloc (Below.refl _ _) _
  have HCW := Lib.hid (Kd.C_below hC hb0)
  have hg := blk_new w (.cells #[.int .i64 p, .int .i64 t] 67)
  have HG := Lib.hid hg
  have HB0 := Lib.hid hb0
  have hle : l.length ≤ 9223372036854775807 := by have := hC.2.1; simpa [maxLen] using this
  clear hC hg hb0
  go_enter Try.func9, Try.ntmps9
  go_upto_region 1 with (fail)
  generalize w.alloc (.cells #[.int .i64 p, .int .i64 t] 67) = W at HCW HG HB0 ⊢
  generalize w.heap.size = g at HG ⊢
  have c0 : W.cell? ⟨g, 0, none⟩ = some (.int .i64 p) := blk_cell HG.out 0
  have c1 : W.cell? ⟨g, 1, none⟩ = some (.int .i64 t) := blk_cell HG.out 1
  go_quiet (fail)
  refine abs_e (fun W2 => Kd.C k47 W2 A l.length l ∧ Below w.heap.size w W2) ⟨Kd.C_below HCW.out (pw_below_drewN (Below.refl _ _) _), pw_below_drewN HB0.out _⟩ ?_
  clear c0 c1 HCW HG HB0
  rintro W2 ⟨hC2, hB2⟩
  have HC := Lib.hid hC2
  have HB := Lib.hid hB2
  clear hC2 hB2
  by_cases h200 : 200 < l.length
  · have d1 : decide ((200 : Int) < (l.length : Int)) = true := by simp; omega
    have d1' : decide (200 < l.length) = true := by simp; omega
    clear h200
    go_wp2_with (go_at_call 10; refine (awake_any _).mono ?_; rintro e w1 ⟨rfl, hb1⟩)
    go_ret
    exact ⟨rfl, below_then HB.out HB.out.size hb1⟩
  have d1 : decide ((200 : Int) < (l.length : Int)) = false := by simp; omega
  have d1' : decide (200 < l.length) = false := by simp; omega
  have hcase : (decide (40 < t) = true ∧ decide (t ≤ 256) = true) ∨ decide (40 < t) = false ∨ (decide (40 < t) = true ∧ decide (t ≤ 256) = false) := by
    by_cases h1 : 40 < t <;> by_cases h2 : t ≤ 256 <;> simp [h1, h2]
  have HCK := Lib.hid (fun w hC => check_any A c l p t w hC)
  have HPR := Lib.hid (fun w hC => profile_any A c l p t z w hC)
  have HFR := Lib.hid (fun w hC => from_any A l.length c l w hC (by omega))
  have HRC := Lib.hid (fun A c w hC => rcheck_any A c l p t w hC)
  have HRP := Lib.hid (fun A c w hC => rprofile_any A c l p t z w hC)
  unfold PrPost at HPR HRP
  unfold chV at HCK HRC
  have hnn : (if prE l p t z = 0 then t.toNat else 0) ≤ 256 := by
    split
    · rename_i h0
      unfold prE at h0
      split at h0
      · contradiction
      · rename_i h1
        split at h0
        · cases h0
        · rename_i h2
          obtain ⟨pn, tn, -, rfl, -, -, ht, -, -⟩ := chk_good (l := l) (p := p) (t := t) (by simpa using h1) (by simpa using h2)
          simpa using ht
    · omega
  generalize chkR l p t = r at HCK HRC
  obtain ⟨ra, rb, rc⟩ := r
  dsimp only at HCK HRC
  generalize prE l p t z = q at HPR HRP hnn
  rcases hcase with ⟨d2, d3⟩ | hcase
  · clear h200 hnn
    go_wp2_with (go_at_call 10; refine (awake_any _).mono ?_; rintro e w1 ⟨rfl, hb1⟩)
    go_ret
    exact ⟨rfl, below_then HB.out HB.out.size hb1⟩
  have HNN := Lib.hid (show q = 0 → 0 < (if q = 0 then t.toNat else 0) → (prF p.toNat t.toNat l z).length = (if q = 0 then t.toNat else 0) * 7 by
    intro h0 _
    rw [if_pos h0]
    exact tab_len _ _)
  have HQ0 := Lib.hid (show 0 < (if q = 0 then t.toNat else 0) → q = 0 by
    intro h
    split at h
    · assumption
    · omega)
  generalize (if q = 0 then t.toNat else 0) = nn at HPR HRP HNN HQ0 hnn
  generalize prF p.toNat t.toNat l z = F at HPR HRP HNN
  have hnI : (nn : Int) ≤ 256 := by omega
  clear hnn h200
  have main : ∀ (dd : Bool), True := fun _ => trivial
  clear main
  rcases hcase with d2 | ⟨d2, d3⟩
  all_goals
    go_wp2_with fail
    refine (HCK.out _ HC.out).mono ?_
    rintro x w3 ⟨rfl, hb3⟩
    have HB3 := Lib.hid (below_then HB.out HB.out.size hb3)
    have HC3 := Lib.hid (Kd.C_below HC.out hb3)
    clear hb3
    go_wp2_with fail
    refine (HFR.out _ HC3.out).mono ?_
    rintro x w4 ⟨v4, rfl, hR4, hb4⟩
    obtain ⟨A4, c4, rfl⟩ := Kd.R_slice hR4
    have HR4 := Lib.hid (Kd.R_reads' hR4).2.2
    have HB4 := Lib.hid (below_then HB3.out HB3.out.size hb4)
    have HC4 := Lib.hid (Kd.C_below HC3.out hb4)
    clear hb4 hR4
    go_wp2_with fail
    refine (HRC.out A4 c4 _ HR4.out).mono ?_
    rintro x w5 ⟨rfl, hb5⟩
    have HB5 := Lib.hid (below_then HB4.out HB4.out.size hb5)
    have HC5 := Lib.hid (Kd.C_below HC4.out hb5)
    clear hb5
    go_wp2_with fail
    refine (HPR.out _ HC5.out).mono ?_
    rintro x w6 ⟨A6, nx, c6, rfl, hb6, hnx, hA6⟩
    obtain rfl : nn = nx := hnx.symm
    have HB6 := Lib.hid (below_then HB5.out HB5.out.size hb6)
    have HC6 := Lib.hid (Kd.C_below HC5.out hb6)
    have HA6 := Lib.hid hA6
    clear hb6 hA6
    go_wp2_with fail
    refine (HFR.out _ HC6.out).mono ?_
    rintro x w7 ⟨v7, rfl, hR7, hb7⟩
    obtain ⟨A7, c7, rfl⟩ := Kd.R_slice hR7
    have HR7 := Lib.hid (Kd.R_reads' hR7).2.2
    have HB7 := Lib.hid (below_then HB6.out HB6.out.size hb7)
    have HA7 := Lib.hid (fun h0 h1 => by obtain ⟨g, e, h⟩ := HA6.out h0 h1; exact (⟨g, e, h.below hb7⟩ : ∃ g, A6 = some ⟨g, 0, none⟩ ∧ At w7 g 76 (ints F)))
    clear hb7 hR7
    go_wp2_with fail
    refine (HRP.out A7 c7 _ HR7.out).mono ?_
    rintro x w8 ⟨A8, ny, c8, rfl, hb8, hny, hA8⟩
    obtain rfl : nn = ny := hny.symm
    have HB8 := Lib.hid (below_then HB7.out HB7.out.size hb8)
    have HA9 := Lib.hid (fun h0 h1 => by obtain ⟨g, e, h⟩ := HA7.out h0 h1; exact (⟨g, e, h.below hb8⟩ : ∃ g, A6 = some ⟨g, 0, none⟩ ∧ At w8 g 76 (ints F)))
    have HA8 := Lib.hid hA8
    clear hb8 hA8
    go_wp2
    go_loopw [17] (fun i wr => ∃ k : Nat, k ≤ nn ∧ i = .int .i64 k ∧ Below w8.heap.size w8 wr) (fun i _ => nn - (intOf i).toNat)
    case atStart => exact ⟨0, Nat.zero_le _, rfl, Below.refl _ _⟩
    case round =>
      obtain ⟨k, hk, rfl, hBr⟩ := hrel
      by_cases hlt : k < nn
      · have hq0 := HQ0.out (by omega)
        have hfl := HNN.out hq0 (by omega)
        obtain ⟨g6, rfl, h6⟩ := HA9.out hq0 (by omega)
        obtain ⟨g8, rfl, h8⟩ := HA8.out hq0 (by omega)
        have r6 := at_row (h6.below hBr) k (by omega)
        have r8 := at_row (h8.below hBr) k (by omega)
        have hi0 : (0 : Int) ≤ (k : Int) := by omega
        have hi1 : (k : Int) < (nn : Int) := by omega
        generalize F.getD (k * 7) 0 = y0 at r6 r8
        generalize F.getD (k * 7 + 1) 0 = y1 at r6 r8
        generalize F.getD (k * 7 + 2) 0 = y2 at r6 r8
        generalize F.getD (k * 7 + 3) 0 = y3 at r6 r8
        generalize F.getD (k * 7 + 4) 0 = y4 at r6 r8
        generalize F.getD (k * 7 + 5) 0 = y5 at r6 r8
        generalize F.getD (k * 7 + 6) 0 = y6 at r6 r8
        have hs := Below.refl wr.heap.size wr
        clear hq0 hfl h6 h8
        go_wp2
        go_quiet (fail)
        go_wp2
        clear r6 r8 hs
        go_roundw
        case rel => exact ⟨k + 1, by omega, by go_num, pw_below_drewN hBr _⟩
        case measure => simp [intOf]; omega
      · obtain rfl : k = nn := by omega
        go_wp2_with (go_at_call 10; refine (awake_any _).mono ?_; rintro e w1 ⟨rfl, hb1⟩)
        go_ret
        exact ⟨rfl, below_then HB8.out HB8.out.size (below_step hBr hb1)⟩
end
end Go.Proofs.Ytepceelkfbjamaa
