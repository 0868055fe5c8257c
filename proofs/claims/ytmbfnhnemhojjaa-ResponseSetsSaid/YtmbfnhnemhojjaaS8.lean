/- ResponseSets: Order of the program. -/
import Derived.Test.YtmbfnhnemhojjaaS7
namespace Go.Proofs.Ytmbfnhnemhojjaa
set_option linter.unusedVariables false
set_option linter.unusedSimpArgs false
open Go.RowKit Go.Proofs.YtmbfnhnemhojjaaW.PrintWords Go.Proofs.YtmbfnhnemhojjaaW.PrintLast Go.Proofs.YtmbfnhnemhojjaaW.PrintMore PResponseCosts FLib
attribute [local go_sem ↓] hold_cells hold_from
attribute [local go_sem] below_alloc_T below_drew_T below_drewN_T run_box run_box2 run_box6

def keyL (l : List S33) (i : Nat) : Int := (tk l i).f2
/-- Task i with its priority, if its place is below p. -/
def ordX (l : List S33) (p i : Nat) : S33 := ⟨if rank (keyL l) l.length i < p then (l.length : Int) - (rank (keyL l) l.length i : Int) else (tk l i).f0, (tk l i).f1, (tk l i).f2, (tk l i).f3, (tk l i).f4, (tk l i).f5⟩
def ordM (l : List S33) (p : Nat) : List S33 := (List.range l.length).map (ordX l p)
def ordL (l : List S33) : List S33 := ordM l l.length
def ordE (l : List S33) : Int := if cntI l = 0 then (if l.any (fun x => !rightB x) = true then 34 else 0) else cntI l
theorem ordM_len (l : List S33) (p : Nat) : (ordM l p).length = l.length := by unfold ordM; rw [List.length_map, List.length_range]
theorem ordM_get {l : List S33} {p i : Nat} (h : i < l.length) : (ordM l p)[i]? = some (ordX l p i) := by
  unfold ordM
  rw [List.getElem?_map, List.getElem?_range h]; rfl
theorem ordM_tk {l : List S33} {p i : Nat} (h : i < l.length) : tk (ordM l p) i = ordX l p i := by
  have e := tk_get (l := ordM l p) (k := i) (by rw [ordM_len]; exact h)
  rw [ordM_get h] at e
  injection e with e
  exact e.symm
theorem ordM_zero (l : List S33) : ordM l 0 = l := by
  apply List.ext_getElem?
  intro i
  by_cases h : i < l.length
  · rw [ordM_get h, tk_get h]
    unfold ordX
    rw [if_neg (by omega)]
  · rw [List.getElem?_eq_none (by rw [ordM_len]; omega), List.getElem?_eq_none (by omega)]
/-- The place's task. -/
def atP (l : List S33) (m p : Nat) : Nat := ((sortedF (keyL l) m)[p]!).val
theorem atP_lt {l : List S33} {m p : Nat} : atP l m p < m + 1 := ((sortedF (keyL l) m)[p]!).isLt
theorem ordM_set {l : List S33} {m p : Nat} (hl : l.length = m + 1) (hp : p < m + 1) (y : S33) (hy : y = tk l (atP l m p)) (z : S33)
    (hz : z = ⟨(l.length : Int) - (p : Int), y.f1, y.f2, y.f3, y.f4, y.f5⟩) : (ordM l p).set (atP l m p) z = ordM l (p + 1) := by
  subst hy
  subst hz
  apply List.ext_getElem?
  intro i
  by_cases h : i < l.length
  · have hr : rank (keyL l) l.length i = p ↔ atP l m p = i := by
      rw [hl]
      exact sortedF_iff (keyL l) m p i hp (by omega)
    by_cases e : atP l m p = i
    · subst e
      rw [List.getElem?_set_self (by rw [ordM_len]; exact h), ordM_get h]
      have : rank (keyL l) l.length (atP l m p) = p := hr.2 rfl
      unfold ordX
      rw [this, if_pos (by omega)]
    · rw [List.getElem?_set_ne e, ordM_get h, ordM_get h]
      have : rank (keyL l) l.length i ≠ p := fun h2 => e (hr.1 h2)
      unfold ordX
      by_cases h3 : rank (keyL l) l.length i < p
      · rw [if_pos h3, if_pos (by omega)]
      · rw [if_neg h3, if_neg (by omega)]
  · rw [List.getElem?_eq_none (by rw [List.length_set, ordM_len]; omega), List.getElem?_eq_none (by rw [ordM_len]; omega)]

def cfL (l : List S33) (m : Nat) (x y : Fin (m + 1)) : Int := cmpI (tk l x.val).f2 (tk l y.val).f2
theorem cfL_lt (l : List S33) (m : Nat) : ltOf (cfL l m) = ltF (keyL l) := by
  funext x y
  unfold ltOf ltF cfL keyL cmpI
  split
  · simp [*]
  · split <;> simp <;> omega
theorem cfL_sorted (l : List S33) (m : Nat) : Sort.insertionSort (ltOf (cfL l m)) (Array.ofFn (fun i : Fin (m + 1) => i)) 0 (m + 1) = sortedF (keyL l) m := by
  rw [cfL_lt]; rfl

/-- The row of numbers holds the places' tasks. -/
def IdxOk (w : World) (g : Nat) (r : Nat → Nat) (n : Nat) : Prop := g < w.heap.size ∧ ∀ p, p < n → w.cell? ⟨g, p, none⟩ = some (.int .i64 (r p : Int))
theorem cell_same {w w' : World} {g p : Nat} (h : w'.heap[g]? = w.heap[g]?) : w'.cell? ⟨g, p, none⟩ = w.cell? ⟨g, p, none⟩ := by
  unfold World.cell?
  rw [h]
theorem info3 : (Try.prog.info? 3).map (fun i => (i.zero, i.size, i.bytes)) = some (some (.int .i64 0), 1, 8) := by kernel_rfl

set_option maxRecDepth 100000 in
theorem notTimed_eq (x : S33) (w : World) : Calls Try.prog 48 #[tkV x] w fun e w' => e = .returned (.bool (!rightB x)) ∧ Below w.heap.size w w' := by
  obtain ⟨b, hb⟩ : ∃ b, rightB x = b := ⟨_, rfl⟩
  have HT := Lib.hid (timed_eq x b hb)
  rw [hb]
  clear hb
  unfold tkV at HT ⊢
  have l1 : ∀ w', Below (w.alloc (.cells #[.int .i64 x.f0, .int .i64 x.f1, .int .i64 x.f2, .int .i64 x.f3, .int .i64 x.f4, .int .i64 x.f5] 33)).heap.size (w.alloc (.cells #[.int .i64 x.f0, .int .i64 x.f1, .int .i64 x.f2, .int .i64 x.f3, .int .i64 x.f4, .int .i64 x.f5] 33)) w' → RunCells Try.prog ⟨w.heap.size, 0, none⟩ 6 w' = .ok #[.int .i64 x.f0, .int .i64 x.f1, .int .i64 x.f2, .int .i64 x.f3, .int .i64 x.f4, .int .i64 x.f5] w' := later_whole (n := 6) (blk_new w _) rfl
  have hs := l1 _ (Below.refl _ _)
  clear l1
  go_enter Try.func48, Try.ntmps48
  go_wp2_with (go_at_call 33; refine (HT.out _).mono ?_; rintro e w2 ⟨rfl, hb2⟩)
  go_ret
  exact ⟨rfl, below_then (below_alloc (Below.refl _ _) _) (by simp) hb2⟩

def OrdPost (l : List S33) (w : World) (e : Ending) (w' : World) : Prop :=
  ∃ v b, e = .returned (.tuple #[v, .int .i64 (ordE l)]) ∧ Kd.R k33 33 w' b (fun _ => True) v (if ordE l = 0 then ordL l else []) ∧ Below w.heap.size w w'

set_option maxRecDepth 100000 in
set_option maxHeartbeats 3200000 in
theorem order_any (A : Option Addr) (c : Nat) (l : List S33) (w : World) (hC : Kd.C k33 w A l.length l) :
    Calls Try.prog 27 #[.slice A l.length c] w (OrdPost l w) := by
  have HK := Lib.hid (fun w => count_any A c l w)
  have HC := Lib.hid hC
  have HT := Lib.hid (fun w hC => contains_eq48 (fun x => !rightB x) _ notTimed_eq A c l rfl w hC)
  clear hC
  by_cases h0 : cntI l = 0
  · have hle : l.length ≤ 12 ∧ 0 < l.length := by
      unfold cntI at h0
      split at h0
      · cases h0
      · split at h0
        · cases h0
        · omega
    have hlen : (l.length : Int) ≤ 12 := by omega
    obtain ⟨m, hm⟩ : ∃ m, l.length = m + 1 := ⟨l.length - 1, by omega⟩
    have HM := Lib.hid hm
    have HL := Lib.hid hle
    cases hany : l.any (fun x => !rightB x) with
    | true =>
      have HE := Lib.hid (show ordE l = 34 by unfold ordE; rw [if_pos h0, if_pos hany])
      rw [hany] at HT
      rw [h0] at HK
      clear h0 hany hm hle
      go_enter Try.func27, Try.ntmps27
      go_wp2_with (first | (go_at_call 30; refine (HK.out _).mono ?_; rintro e w1 ⟨rfl, rfl⟩) | (go_at_call 31; refine (HT.out _ HC.out).mono ?_; rintro e w1 ⟨rfl, hb1⟩))
      go_ret2
      exact ⟨_, _, by rw [HE.out]; rfl, by rw [HE.out]; exact Kd.R_nil _ _ _ 0 _, hb1⟩
    | false =>
      have HE := Lib.hid (show ordE l = 0 by unfold ordE; rw [if_pos h0, if_neg (by rw [hany]; decide)])
      have HCL := Lib.hid (fun w hC => clone_any A c l hle.2 (by omega) w hC)
      rw [hany] at HT
      rw [h0] at HK
      clear h0 hany hm hle
      go_enter Try.func27, Try.ntmps27
      go_wp2_with fail
      refine (HK.out _).mono ?_
      rintro e w1 ⟨rfl, rfl⟩
      go_wp2_with fail
      refine (HT.out _ HC.out).mono ?_
      rintro e w1 ⟨rfl, hb1⟩
      have HCW := Lib.hid (Kd.C_below HC.out hb1)
      go_wp2_with fail
      refine (HCL.out _ HCW.out).mono ?_
      rintro e w2 ⟨v, rfl, hR2, hb2⟩
      have HB2 := Lib.hid (below_step hb1 hb2)
      have HB1 := Lib.hid hb1
      obtain ⟨ga, ca, rfl, hga, hgl, -⟩ := Kd.R_form hR2 HL.out.2
      have HR2 := Lib.hid hR2
      clear hb1 hb2 hR2
      go_wp2
      refine abs_w (fun W5 => W5.heap[w2.heap.size]? = some (.cells #[.slice (some ⟨ga, 0, none⟩) l.length ca] 25 (0, 0)) ∧ Kd.R k33 33 W5 w1.heap.size (fun _ => True) (.slice (some ⟨ga, 0, none⟩) l.length ca) l ∧ Below w.heap.size w W5 ∧ w2.heap.size < W5.heap.size) ⟨blk_new _ _, Kd.R_alloc HR2.out _, below_new HB2.out _, by simp⟩ ?_
      have HGL := Lib.hid hgl
      have HGA := Lib.hid hga
      have HBS := Lib.hid HB1.out.size
      clear hgl hga HR2 HB2 HB1 HCW
      generalize w1.heap.size = b1 at HGA HBS ⊢
      generalize w2.heap.size = g at HGL ⊢
      rintro W5 ⟨hg5, hR5, hB5, hs5⟩
      have HG5 := Lib.hid hg5
      have HR5 := Lib.hid hR5
      have HB5 := Lib.hid hB5
      have HS5 := Lib.hid hs5
      clear hg5 hR5 hB5 hs5
      go_loopw [6, 21] (fun o i wr => ∃ k : Nat, k ≤ l.length ∧ i = .int .i64 k ∧ Hid (Kd.R (Kd.int .i64) 3 wr W5.heap.size (fun _ => True) o ((List.range k).map Int.ofNat)) ∧ Below W5.heap.size W5 wr) (fun _ i _ => l.length - (intOf i).toNat)
      case atStart => exact ⟨0, Nat.zero_le _, rfl, Lib.hid (Kd.R_nil _ _ _ _ _), Below.refl _ _⟩
      case round =>
        obtain ⟨k, hk, rfl, HRk, hBk⟩ := hrel
        by_cases hlt : k < l.length
        · have hi1 : (k : Int) < (l.length : Int) := by omega
          have HX : Hid ((List.range (k + 1)).map Int.ofNat = (List.range k).map Int.ofNat ++ [(k : Int)]) := Lib.hid (by rw [List.range_succ, List.map_append]; rfl)
          have hxl : ((List.range k).map Int.ofNat).length ≤ 12 := by rw [List.length_map, List.length_range]; omega
          generalize (List.range k).map Int.ofNat = xs at HRk HX hxl
          go_wp2_with (first
            | (at_builtin; refine Kd.R_append (Kd.int .i64) (w0 := W5) (W := wr) W5.heap.size rfl (.tmp 24) (.tmp 26) 88 3 _ 8 rfl Try.underlying88 info3 rfl (by decide) (by decide) _ xs (k : Int) [.int .i64 (k : Int)] (fun _ => True) (fun _ => False) rfl rfl rfl (fun _ h => h.elim) (fun _ _ => trivial) HRk.out hBk hBk.size (by omega) ?_; intro v6 w6 hR6 hB6 hg6 hx6; have HR6 := Lib.hid hR6; clear hR6 hg6 hx6)
            | fail)
          go_roundw
          case rel => exact ⟨k + 1, by omega, by go_num, Lib.hid (by rw [HX.out]; exact HR6.out), hB6⟩
          case measure => simp [intOf]; omega
        · obtain rfl : k = l.length := by omega
          obtain ⟨gr, cr, rfl, hgr, -, -⟩ := Kd.R_form HRk.out (by rw [List.length_map, List.length_range]; exact HL.out.2)
          rw [List.length_map, List.length_range] at HRk ⊢
          have HGR := Lib.hid hgr
          have HBk := Lib.hid hBk
          have hs : Calls Try.prog 50 #[.slice (some ⟨gr, 0, none⟩) l.length cr, .func (.func 51) #[] #[.pointer (some ⟨g, 0, none⟩)]] wr fun e w' => e = .returned (.tuple #[]) ∧ IdxOk w' gr (atP l m) l.length ∧ Below W5.heap.size W5 w' := by
            have hgw : gr < wr.heap.size := Kd.R_lt HRk.out gr (by simp [Value.ownBlock])
            have hH : Sort.Holds encF wr gr 0 (Array.ofFn (fun i : Fin (m + 1) => i)) := by
              intro j hj
              have hj' : j < m + 1 := by simpa using hj
              obtain ⟨c0, hc0, hM, hcc, hfr⟩ := Kd.R_elem HRk.out (0 : Int) (j : Int) (by omega) (by have := HM.out; omega)
              obtain ⟨ac, eac, ec⟩ := Kd.at_int (Kd.R_reads' HRk.out).2.2 (j : Int) (by omega) (by have := HM.out; first | omega | (rw [List.length_map, List.length_range]; omega))
              injection eac with eac
              subst eac
              have hv : ((List.range l.length).map Int.ofNat).getD (Int.toNat (j : Int)) 0 = (j : Int) := by
                rw [Int.toNat_natCast, List.getD_eq_getElem?_getD, List.getElem?_map, List.getElem?_range (by have := HM.out; omega)]; rfl
              have ec' : wr.cell? ⟨gr, 0 + j, none⟩ = some (.int .i64 (j : Int)) := by
                have hj2 : j < l.length := by rw [HM.out]; exact hj'
                rw [Nat.zero_add, ← add_plain]
                simpa [rd, List.getElem?_range hj2] using ec
              refine ⟨?_, ?_⟩
              · rw [ec']
                show _ = some (Value.int _ _)
                rw [ofFn_get hj']
              · have := hfr 0
                simpa [show (Kd.int .i64).sz = 1 from rfl] using this
            have hcmp : CmpReads Try.prog 51 #[.pointer (some ⟨g, 0, none⟩)] encF (cfL l m) gr 0 (Array.ofFn (fun i : Fin (m + 1) => i)).size wr := by
              intro m' os dk hd x y
              have hb := Below.trans HBk.out (below_sortWorld encF wr gr 0 m' dk os HGR.out HBk.out.size)
              have hx : x.val < l.length := by rw [HM.out]; exact x.isLt
              have hy : y.val < l.length := by rw [HM.out]; exact y.isLt
              exact ord_eq g ga l.length ca l x.val y.val hx hy _ (blk_cell (blk_below HG5.out hb) 0) (Kd.C_below (Kd.R_reads' HR5.out).2.2 hb)
            have hs := stable50 m (by have := HL.out; have := HM.out; omega) (cfL l m) #[.pointer (some ⟨g, 0, none⟩)] gr cr (Array.ofFn (fun i : Fin (m + 1) => i)) (by simp) wr hcmp hH
            rw [cfL_sorted] at hs
            rw [HM.out]
            refine hs.mono ?_
            rintro e w' ⟨rfl, q, rfl⟩
            refine ⟨rfl, ⟨?_, fun p hp => ?_⟩, ?_⟩
            · show gr < (Sort.putRow _ _ _ _ _).heap.size
              rw [Sort.size_putRow]; exact hgw
            · have := Sort.cell?_putRow encF wr gr 0 _ (sortedF (keyL l) m) hH (by rw [sortedF_size]; simp) p (by rw [sortedF_size]; exact hp)
              rw [Nat.zero_add] at this
              exact this
            · exact pw_below_drewN (Below.trans HBk.out (below_putRow encF wr gr 0 _ HGR.out)) _
          have HS := Lib.hid hs
          clear hs hgr hBk
          go_wp2_with fail
          refine HS.out.mono ?_
          rintro e w6 ⟨rfl, hI6, hB6⟩
          have HI6 := Lib.hid hI6
          have HR6 := Lib.hid (Kd.R_below HR5.out hB6)
          have HG6 := Lib.hid (blk_below HG5.out hB6)
          have HB6 := Lib.hid (below_then HB5.out HB5.out.size hB6)
          have HNE := Lib.hid (show g ≠ ga by have := HGL.out; omega)
          have HNR := Lib.hid (show gr ≠ ga by have := HGL.out; have := HGR.out; have := HS5.out; omega)
          have HGW := Lib.hid (show w.heap.size ≤ ga by have := HGA.out; have := HBS.out; omega)
          clear hI6 hB6 HRk
          go_wp2
          go_loopw [34] (fun i wr => ∃ p : Nat, p ≤ l.length ∧ i = .int .i64 p ∧ Hid (Kd.R k33 33 wr b1 (fun _ => True) (.slice (some ⟨ga, 0, none⟩) l.length ca) (ordM l p)) ∧ Hid (wr.heap[g]? = some (.cells #[.slice (some ⟨ga, 0, none⟩) l.length ca] 25 (0, 0))) ∧ Hid (IdxOk wr gr (atP l m) l.length) ∧ Hid (Below w.heap.size w wr)) (fun i _ => l.length - (intOf i).toNat)
          case atStart => exact ⟨0, Nat.zero_le _, rfl, Lib.hid (by rw [ordM_zero]; exact HR6.out), HG6, HI6, HB6⟩
          case round =>
            obtain ⟨p, hp, rfl, HRp, HGp, HIp, HBp⟩ := hrel
            by_cases hlp : p < l.length
            · obtain ⟨i, hi⟩ : ∃ i, atP l m p = i := ⟨_, rfl⟩
              have hil : i < l.length := by rw [← hi, HM.out]; exact atP_lt
              have qi : wr.cell? ⟨gr, p, none⟩ = some (.int .i64 (i : Int)) := by rw [← hi]; exact HIp.out.2 p hlp
              have qb : wr.cell? ⟨g, 0, none⟩ = some (.slice (some ⟨ga, 0, none⟩) l.length ca) := blk_cell HGp.out 0
              have hi0 : (0 : Int) ≤ (i : Int) := by omega
              have hi1 : (i : Int) < (l.length : Int) := by omega
              have hp0 : (0 : Int) ≤ (p : Int) := by omega
              have hp1 : (p : Int) < (l.length : Int) := by omega
              obtain ⟨c0, hc0, hM, hcc, hfr⟩ := Kd.R_elem HRp.out z33 (i : Int) hi0 hi1
              obtain rfl := k33_openM hM
              have q0 := hcc 0 _ rfl
              have f0 := hfr 0
              simp only [Int.toNat_natCast, show k33.sz = 6 from rfl, Nat.add_zero] at q0 f0
              have hseg := Kd.R_seg HRp.out (i : Int) hi0 hi1 (seg := [.int .i64 ((l.length : Int) - (p : Int))]) (j := 0) (okp := fun _ => False) (x' := ⟨(l.length : Int) - (p : Int), (tk l i).f1, (tk l i).f2, (tk l i).f3, (tk l i).f4, (tk l i).f5⟩) rfl hcc (show (0 + 1 : Nat) ≤ 6 by decide) (by
                have e : (ordM l p).getD (Int.toNat (i : Int)) z33 = _ := ordM_tk (p := p) hil
                rw [e]
                exact k33_mkM _ _ _ _) (fun _ h => h.elim)
              have hset := ordM_set HM.out (show p < m + 1 by have := HM.out; omega) _ rfl _ rfl
              rw [hi] at hset
              simp only [Int.toNat_natCast, show k33.sz = 6 from rfl, World.setCells, hset, Nat.add_zero] at hseg
              have HSG := Lib.hid hseg
              have HG2 := Lib.hid (blk_grown HGp.out hseg.2 (by have := HNE.out; simpa using this))
              have HI2 : Hid (IdxOk _ gr (atP l m) l.length) := Lib.hid ⟨Nat.lt_of_lt_of_le HIp.out.1 hseg.2.size, fun q hq => (cell_same (hseg.2.block gr HIp.out.1 (by have := HNR.out; simpa using this))).trans (HIp.out.2 q hq)⟩
              have HB3 := Lib.hid (pw_below_grown HBp.out (some ga) HBp.out.size hseg.2 (fun q hq => by injection hq with hq; have := HGW.out; omega))
              clear hcc hfr hM hc0 hseg hset
              have HHI := Lib.hid hi
              clear hi
              go_wp2
              go_roundw
              case rel => exact ⟨p + 1, by omega, by go_num, Lib.hid HSG.out.1, HG2, HI2, HB3⟩
              case measure => simp [intOf]; omega
            · obtain rfl : p = l.length := by omega
              have qb : wr.cell? ⟨g, 0, none⟩ = some (.slice (some ⟨ga, 0, none⟩) l.length ca) := blk_cell HGp.out 0
              go_wp2
              go_ret2
              exact ⟨_, _, by rw [HE.out]; rfl, by rw [HE.out]; exact HRp.out, HBp.out⟩
  · have HE := Lib.hid (show ordE l = cntI l by unfold ordE; rw [if_neg h0])
    have d1 : (cntI l == 0) = false := by simpa using h0
    have d2 : (cntI l != 0) = true := by simpa using h0
    have H0 := Lib.hid h0
    clear h0
    generalize cntI l = q at HK HE H0 d1 d2
    go_enter Try.func27, Try.ntmps27
    go_wp2_with (go_at_call 30; refine (HK.out _).mono ?_; rintro e w1 ⟨rfl, rfl⟩)
    go_ret2
    exact ⟨_, _, by rw [HE.out]; rfl, by rw [HE.out, if_neg H0.out]; exact Kd.R_nil _ _ _ 0 _, Below.refl _ _⟩
end Go.Proofs.Ytmbfnhnemhojjaa
