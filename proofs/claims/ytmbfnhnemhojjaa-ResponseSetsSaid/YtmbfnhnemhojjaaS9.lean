/- ResponseSets: Order of the reference. -/
import Derived.Test.YtmbfnhnemhojjaaS8
namespace Go.Proofs.Ytmbfnhnemhojjaa
set_option linter.unusedVariables false
set_option linter.unusedSimpArgs false
open Go.RowKit Go.Proofs.YtmbfnhnemhojjaaW.PrintWords Go.Proofs.YtmbfnhnemhojjaaW.PrintLast Go.Proofs.YtmbfnhnemhojjaaW.PrintMore PResponseCosts FLib
attribute [local go_sem ↓] hold_cells hold_from
attribute [local go_sem] below_alloc_T below_drew_T below_drewN_T run_box run_box2 run_box6

theorem rank_lt {l : List S33} {i : Nat} (h : i < l.length) : rank (keyL l) l.length i < l.length := by
  obtain ⟨m, hm⟩ : ∃ m, l.length = m + 1 := ⟨l.length - 1, by omega⟩
  obtain ⟨p, hp, e⟩ := sortedF_all (keyL l) m i (by omega)
  have := sortedF_rank (keyL l) m p hp
  rw [e, ← hm] at this
  omega
/-- The first k that stand ahead of i. -/
def cnt (l : List S33) (i k : Nat) : Nat := (List.range k).countP (fun j => ahead (keyL l) j i)
theorem cnt_succ (l : List S33) (i k : Nat) : cnt l i (k + 1) = cnt l i k + if ahead (keyL l) k i = true then 1 else 0 := by
  unfold cnt
  rw [List.range_succ, List.countP_append, List.countP_singleton]
theorem cnt_le (l : List S33) (i k : Nat) : cnt l i k ≤ k := by
  unfold cnt
  have := List.countP_le_length (p := fun j => ahead (keyL l) j i) (l := List.range k)
  rwa [List.length_range] at this
def ordY (l : List S33) (n i : Nat) : S33 := if i < n then ordX l l.length i else tk l i
/-- The first n with their priorities. -/
def ordR (l : List S33) (n : Nat) : List S33 := (List.range l.length).map (ordY l n)
theorem ordR_len (l : List S33) (n : Nat) : (ordR l n).length = l.length := by unfold ordR; rw [List.length_map, List.length_range]
theorem ordR_get {l : List S33} {n i : Nat} (h : i < l.length) : (ordR l n)[i]? = some (ordY l n i) := by
  unfold ordR
  rw [List.getElem?_map, List.getElem?_range h]; rfl
theorem ordR_zero (l : List S33) : ordR l 0 = l := by
  apply List.ext_getElem?
  intro i
  by_cases h : i < l.length
  · rw [ordR_get h, tk_get h]
    unfold ordY
    rw [if_neg (by omega)]
  · rw [List.getElem?_eq_none (by rw [ordR_len]; omega), List.getElem?_eq_none (by omega)]
theorem ordR_all (l : List S33) : ordR l l.length = ordL l := by
  apply List.ext_getElem?
  intro i
  unfold ordL
  by_cases h : i < l.length
  · rw [ordR_get h, ordM_get h]
    unfold ordY
    rw [if_pos h]
  · rw [List.getElem?_eq_none (by rw [ordR_len]; omega), List.getElem?_eq_none (by rw [ordM_len]; omega)]
def oZ (l : List S33) (i : Nat) (v : Int) : S33 := ⟨v, (tk l i).f1, (tk l i).f2, (tk l i).f3, (tk l i).f4, (tk l i).f5⟩
def oX (l : List S33) (i : Nat) (v : Int) : List S33 := (ordR l i).set i (oZ l i v)
theorem oX_self {l : List S33} {i : Nat} (h : i < l.length) : oX l i (tk l i).f0 = ordR l i := by
  apply List.ext_getElem?
  intro j
  unfold oX
  by_cases e : i = j
  · subst e
    rw [List.getElem?_set_self (by rw [ordR_len]; exact h), ordR_get h]
    unfold ordY
    rw [if_neg (by omega)]; rfl
  · rw [List.getElem?_set_ne e]
theorem oX_tk {l : List S33} {i : Nat} (h : i < l.length) (v : Int) : tk (oX l i v) i = oZ l i v := by
  show (oX l i v).getD i z33 = _
  unfold oX
  rw [List.getD_eq_getElem?_getD, List.getElem?_set_self (by rw [ordR_len]; exact h)]
  rfl
theorem oX_set (l : List S33) (i : Nat) (v v' : Int) : (oX l i v).set i (oZ l i v') = oX l i v' := by
  unfold oX
  rw [List.set_set]
theorem oX_next {l : List S33} {i : Nat} (h : i < l.length) : oX l i ((l.length : Int) - (cnt l i l.length : Int)) = ordR l (i + 1) := by
  apply List.ext_getElem?
  intro j
  unfold oX
  by_cases e : i = j
  · subst e
    rw [List.getElem?_set_self (by rw [ordR_len]; exact h), ordR_get h]
    unfold ordY ordX
    rw [if_pos (by omega), if_pos (rank_lt h)]; rfl
  · rw [List.getElem?_set_ne e]
    by_cases hj : j < l.length
    · rw [ordR_get hj, ordR_get hj]
      unfold ordY
      by_cases h2 : j < i
      · rw [if_pos h2, if_pos (by omega)]
      · rw [if_neg h2, if_neg (by omega)]
    · rw [List.getElem?_eq_none (by rw [ordR_len]; omega), List.getElem?_eq_none (by rw [ordR_len]; omega)]
theorem ahead_cases (l : List S33) (k i : Nat) : (decide ((tk l k).f2 < (tk l i).f2) = true ∧ ahead (keyL l) k i = true) ∨ (decide ((tk l k).f2 < (tk l i).f2) = false ∧ decide ((k : Int) < (i : Int)) = false ∧ decide (k < i) = false ∧ ahead (keyL l) k i = false) ∨ (decide ((tk l k).f2 < (tk l i).f2) = false ∧ decide ((k : Int) < (i : Int)) = true ∧ decide (k < i) = true ∧ ((tk l k).f2 == (tk l i).f2) = true ∧ ahead (keyL l) k i = true) ∨ (decide ((tk l k).f2 < (tk l i).f2) = false ∧ decide ((k : Int) < (i : Int)) = true ∧ decide (k < i) = true ∧ ((tk l k).f2 == (tk l i).f2) = false ∧ ahead (keyL l) k i = false) := by
  unfold ahead keyL
  by_cases h1 : (tk l k).f2 < (tk l i).f2
  · left; simp [h1]
  · by_cases h2 : k < i
    · by_cases h3 : (tk l k).f2 = (tk l i).f2
      · right; right; left; simp [h2, h3]
      · right; right; right; simp [h1, h2, h3]
    · right; left; simp [h1, h2]

def ROrdPost (l : List S33) (w : World) (e : Ending) (w' : World) : Prop :=
  ∃ v b, e = .returned (.tuple #[v, .int .i64 (ordE l)]) ∧ Kd.R k33 43 w' b (fun _ => True) v (if ordE l = 0 then ordL l else []) ∧ Below w.heap.size w w'

set_option maxRecDepth 100000 in
set_option maxHeartbeats 3200000 in
theorem rorder_any (A : Option Addr) (c : Nat) (l : List S33) (w : World) (hC : Kd.C k33 w A l.length l) :
    Calls Try.prog 28 #[.slice A l.length c] w (ROrdPost l w) := by
  have hC2 := hC.2.1
  have HC := Lib.hid hC
  clear hC
  by_cases h0 : l.length = 0
  · have HE := Lib.hid (show ordE l = 9 by unfold ordE cntI; rw [if_pos h0, if_neg (by decide)])
    rw [h0] at HC hC2 ⊢
    clear h0
    go_enter Try.func28, Try.ntmps28
    go_wp2
    go_ret2
    exact ⟨_, _, by rw [HE.out]; rfl, by rw [HE.out]; exact Kd.R_nil _ _ _ 0 _, Below.refl _ _⟩
  by_cases h12 : 12 < l.length
  · have HE := Lib.hid (show ordE l = 18 by unfold ordE cntI; rw [if_neg h0, if_pos h12, if_neg (by decide)])
    have d0 : ((l.length : Int) == 0) = false := by rw [beq_eq_false_iff_ne]; omega
    have d0' : (l.length == 0) = false := by rw [beq_eq_false_iff_ne]; omega
    have d1 : decide ((12 : Int) < (l.length : Int)) = true := by simp; omega
    clear h0 h12
    go_enter Try.func28, Try.ntmps28
    go_wp2
    go_ret2
    exact ⟨_, _, by rw [HE.out]; rfl, by rw [HE.out]; exact Kd.R_nil _ _ _ 0 _, Below.refl _ _⟩
  have HCN := Lib.hid (show cntI l = 0 by unfold cntI; rw [if_neg h0, if_neg h12])
  have d0 : ((l.length : Int) == 0) = false := by rw [beq_eq_false_iff_ne]; omega
  have d0' : (l.length == 0) = false := by rw [beq_eq_false_iff_ne]; omega
  have d1 : decide ((12 : Int) < (l.length : Int)) = false := by simp; omega
  have hlen : (l.length : Int) ≤ 12 := by omega
  have HP := Lib.hid (show 0 < l.length by omega)
  have HB0 := Lib.hid (below_alloc (Below.refl w.heap.size w) (.cells #[] 43))
  have HR0 := Lib.hid (R_empty k33 43 w.heap.size w (Nat.le_refl _))
  clear h0 h12
  go_enter Try.func28, Try.ntmps28
  go_wp2_with (at_builtin; refine Kd.R_append_rows k33 (w0 := w) (Rr := fun x cs => cs = tkCells x) w.heap.size rfl (.tmp 13) (.tmp 14) 38 43 _ 48 rfl Try.underlying38 info43 rfl (by decide) (by decide) (.slice (some ⟨w.heap.size, 0, none⟩) 0 0) [] l A l.length c (fun _ => True) (fun _ => False) rfl rfl HR0.out (tk_rows (Kd.C_below HC.out HB0.out)) (fun x cs hx => by subst hx; exact k33_mkM _ _ _ x) (fun _ h => h.elim) (fun _ _ => trivial) HB0.out HB0.out.size (by simp; omega) ?_; intro v1 w2 hR1 hB1 _ _; have HR1 := Lib.hid hR1; have HB1 := Lib.hid hB1; clear hR1 hB1)
  rw [List.nil_append] at HR1
  obtain ⟨gr, c1, rfl, hbase, -, -⟩ := Kd.R_form HR1.out HP.out
  have HBW := Lib.hid hbase
  obtain ⟨base, hbs⟩ : ∃ b, w.heap.size = b := ⟨_, rfl⟩
  have HBS := Lib.hid hbs
  rw [hbs] at HR1 HBW
  clear hbase hbs d0 d0' d1 HR0 HB0
  go_loopw [5] (fun i wr => ∃ ii : Nat, ii ≤ l.length ∧ i = .int .i64 ii ∧ Hid (∀ j, j < ii → rightB (tk l j) = true) ∧ Hid (Kd.R k33 43 wr base (fun _ => True) (.slice (some ⟨gr, 0, none⟩) l.length c1) (ordR l ii)) ∧ Hid (Below w.heap.size w wr)) (fun i _ => l.length - (intOf i).toNat)
  case atStart => exact ⟨0, Nat.zero_le _, rfl, Lib.hid (fun j hj => by omega), Lib.hid (by rw [ordR_zero]; exact HR1.out), HB1⟩
  case round =>
    obtain ⟨ii, hii, rfl, HRT, HRi, HBi⟩ := hrel
    by_cases hlt : ii < l.length
    · obtain ⟨ad, eA, lk, -⟩ := tasks_at (Kd.C_below HC.out HBi.out) ii hlt
      subst eA
      have hi0 : (0 : Int) ≤ (ii : Int) := by omega
      have hi1 : (ii : Int) < (l.length : Int) := by omega
      have hs := lk _ (Below.refl wr.heap.size wr)
      clear lk
      obtain ⟨b, hb⟩ : ∃ b, rightB (tk l ii) = b := ⟨_, rfl⟩
      have HT := Lib.hid (right_eq (tk l ii) b hb)
      have HBB := Lib.hid hb
      unfold tkV at HT
      clear hb
      go_wp2_with fail
      refine (HT.out _).mono ?_
      rintro e w3 ⟨rfl, hb3⟩
      have HB3 := Lib.hid (below_then HBi.out HBi.out.size hb3)
      have HR3 := Lib.hid (Kd.R_below HRi.out hb3)
      clear hs hb3 HT
      cases b with
      | false =>
        have HE := Lib.hid (show ordE l = 34 by
          unfold ordE
          rw [if_pos HCN.out, if_pos (List.any_eq_true.2 ⟨_, tk_mem hlt, by rw [HBB.out]; rfl⟩)])
        go_wp2
        go_ret2
        exact ⟨_, _, by rw [HE.out]; rfl, by rw [HE.out]; exact Kd.R_nil _ _ _ 0 _, HB3.out⟩
      | true =>
        have HRT2 := Lib.hid (show ∀ j, j < ii + 1 → rightB (tk l j) = true by
          intro j hj
          by_cases e : j = ii
          · subst e; exact HBB.out
          · exact HRT.out j (by omega))
        rw [← oX_self hlt] at HR3
        obtain ⟨c0, hc0, hM, hcc, hfr⟩ := Kd.R_elem HR3.out z33 (ii : Int) hi0 hi1
        obtain rfl := k33_openM hM
        have q0 := hcc 0 _ rfl
        have f0 := hfr 0
        simp only [Int.toNat_natCast, show k33.sz = 6 from rfl, Nat.add_zero] at q0 f0
        have hseg := Kd.R_seg HR3.out (ii : Int) hi0 hi1 (seg := [.int .i64 (l.length : Int)]) (j := 0) (okp := fun _ => False) (x' := oZ l ii (l.length : Int)) rfl hcc (show (0 + 1 : Nat) ≤ 6 by decide) (by
          have e : (oX l ii (tk l ii).f0).getD (Int.toNat (ii : Int)) z33 = _ := oX_tk hlt _
          rw [e]
          exact k33_mkM _ _ _ _) (fun _ h => h.elim)
        simp only [Int.toNat_natCast, show k33.sz = 6 from rfl, World.setCells, oX_set, Nat.add_zero] at hseg
        have HSG := Lib.hid hseg.1
        have HBG := Lib.hid (pw_below_grown HB3.out (some gr) HB3.out.size hseg.2 (fun q hq => by injection hq with hq; have := HBW.out; have := HBS.out; omega))
        have HLT := Lib.hid hlt
        clear hcc hfr hM hc0 hseg
        go_wp2
        clear q0 f0
        generalize w3.setCell ⟨gr, ii * 6, none⟩ (.int .i64 (l.length : Int)) = w4 at HSG HBG ⊢
        go_loopw [6] (fun k wr => ∃ kk : Nat, kk ≤ l.length ∧ k = .int .i64 kk ∧ Hid (Kd.R k33 43 wr base (fun _ => True) (.slice (some ⟨gr, 0, none⟩) l.length c1) (oX l ii ((l.length : Int) - (cnt l ii kk : Int)))) ∧ Hid (Below w.heap.size w wr)) (fun k _ => l.length - (intOf k).toNat)
        case atStart => exact ⟨0, Nat.zero_le _, rfl, Lib.hid (by simpa [cnt] using HSG.out), HBG⟩
        case round =>
          obtain ⟨kk, hkk, rfl, HRk, HBk⟩ := hrel
          by_cases hkl : kk < l.length
          · have hk0 : (0 : Int) ≤ (kk : Int) := by omega
            have hk1 : (kk : Int) < (l.length : Int) := by omega
            obtain ⟨a1, e1, -, -, -, p1, -⟩ := task_cells (Kd.C_below HC.out HBk.out) kk hkl
            obtain ⟨a2, e2, -, -, -, p2, -⟩ := task_cells (Kd.C_below HC.out HBk.out) ii hlt
            injection e1 with e1
            injection e2 with e2
            subst e1
            subst e2
            have q1 := p1 _ (Below.refl _ _)
            have q2 := p2 _ (Below.refl _ _)
            clear p1 p2
            have hcs := ahead_cases l kk ii
            have HCS := Lib.hid (cnt_succ l ii kk)
            have hcl := cnt_le l ii kk
            have HRq : Hid _ := HRk
            generalize (tk l kk).f2 = x at q1 hcs
            generalize (tk l ii).f2 = y at q2 hcs
            rcases hcs with ⟨g1, ha⟩ | ⟨g1, g2, g2', ha⟩ | ⟨g1, g2, g2', g3, ha⟩ | ⟨g1, g2, g2', g3, ha⟩
            · go_wp2
              go_quiet (fail)
              refine abs_e (fun W5 => Kd.R k33 43 W5 base (fun _ => True) (.slice (some ⟨gr, 0, none⟩) l.length c1) (oX l ii ((l.length : Int) - (cnt l ii kk : Int))) ∧ Below w.heap.size w W5) ⟨Kd.R_below HRk.out (pw_below_drewN (Below.refl _ _) _), pw_below_drewN HBk.out _⟩ ?_
              clear q1 q2 HRk HBk HRq
              rintro W5 ⟨hR5, hB5⟩
              have hcv : Hid ((l.length : Int) - (cnt l ii (kk + 1) : Int) = (l.length : Int) - (cnt l ii kk : Int) - 1) := Lib.hid (by rw [HCS.out, if_pos ha]; omega)
              obtain ⟨v, hv⟩ : ∃ v, (l.length : Int) - (cnt l ii kk : Int) = v := ⟨_, rfl⟩
              have hv0 : 0 ≤ v := by omega
              have hv1 : v ≤ 12 := by omega
              rw [hv] at hR5 hcv
              obtain ⟨c0, hc0, hM, hcc, hfr⟩ := Kd.R_elem hR5 z33 (ii : Int) hi0 hi1
              have e : (oX l ii v).getD (Int.toNat (ii : Int)) z33 = oZ l ii v := oX_tk hlt _
              rw [e] at hM
              obtain rfl := k33_openM hM
              have q0 : W5.cell? ⟨gr, ii * 6, none⟩ = some (.int .i64 v) := by
                have := hcc 0 _ rfl
                simpa [show k33.sz = 6 from rfl, oZ] using this
              have f0 := hfr 0
              simp only [Int.toNat_natCast, show k33.sz = 6 from rfl, Nat.add_zero] at f0
              have hseg := Kd.R_seg hR5 (ii : Int) hi0 hi1 (seg := [.int .i64 (v - 1)]) (j := 0) (okp := fun _ => False) (x' := oZ l ii (v - 1)) rfl hcc (show (0 + 1 : Nat) ≤ 6 by decide) (k33_mkM _ _ _ (oZ l ii (v - 1))) (fun _ h => h.elim)
              simp only [Int.toNat_natCast, show k33.sz = 6 from rfl, World.setCells, oX_set, Nat.add_zero] at hseg
              have HSG2 := Lib.hid hseg.1
              have HBG2 := Lib.hid (pw_below_grown hB5 (some gr) hB5.size hseg.2 (fun q hq => by injection hq with hq; have := HBW.out; have := HBS.out; omega))
              have HHV := Lib.hid hv
              clear hcc hfr hM hc0 hseg hR5 hB5 e hv HCS ha hcl
              go_wp2
              go_roundw
              case rel => exact ⟨kk + 1, by omega, by go_num, Lib.hid (by rw [hcv.out]; exact HSG2.out), HBG2⟩
              case measure => simp [intOf]; omega
            · have hcv : Hid (cnt l ii (kk + 1) = cnt l ii kk) := Lib.hid (by rw [HCS.out, if_neg (by rw [ha]; decide)]; rfl)
              clear HCS ha hcl
              go_wp2
              go_quiet (fail)
              clear q1 q2
              go_wp2
              go_roundw
              case rel => exact ⟨kk + 1, by omega, by go_num, Lib.hid (by rw [hcv.out]; exact Kd.R_below HRk.out (pw_below_drewN (Below.refl _ _) _)), Lib.hid (pw_below_drewN HBk.out _)⟩
              case measure => simp [intOf]; omega
            · go_wp2
              go_quiet (fail)
              refine abs_e (fun W5 => Kd.R k33 43 W5 base (fun _ => True) (.slice (some ⟨gr, 0, none⟩) l.length c1) (oX l ii ((l.length : Int) - (cnt l ii kk : Int))) ∧ Below w.heap.size w W5) ⟨Kd.R_below HRk.out (pw_below_drewN (Below.refl _ _) _), pw_below_drewN HBk.out _⟩ ?_
              clear q1 q2 HRk HBk HRq
              rintro W5 ⟨hR5, hB5⟩
              have hcv : Hid ((l.length : Int) - (cnt l ii (kk + 1) : Int) = (l.length : Int) - (cnt l ii kk : Int) - 1) := Lib.hid (by rw [HCS.out, if_pos ha]; omega)
              obtain ⟨v, hv⟩ : ∃ v, (l.length : Int) - (cnt l ii kk : Int) = v := ⟨_, rfl⟩
              have hv0 : 0 ≤ v := by omega
              have hv1 : v ≤ 12 := by omega
              rw [hv] at hR5 hcv
              obtain ⟨c0, hc0, hM, hcc, hfr⟩ := Kd.R_elem hR5 z33 (ii : Int) hi0 hi1
              have e : (oX l ii v).getD (Int.toNat (ii : Int)) z33 = oZ l ii v := oX_tk hlt _
              rw [e] at hM
              obtain rfl := k33_openM hM
              have q0 : W5.cell? ⟨gr, ii * 6, none⟩ = some (.int .i64 v) := by
                have := hcc 0 _ rfl
                simpa [show k33.sz = 6 from rfl, oZ] using this
              have f0 := hfr 0
              simp only [Int.toNat_natCast, show k33.sz = 6 from rfl, Nat.add_zero] at f0
              have hseg := Kd.R_seg hR5 (ii : Int) hi0 hi1 (seg := [.int .i64 (v - 1)]) (j := 0) (okp := fun _ => False) (x' := oZ l ii (v - 1)) rfl hcc (show (0 + 1 : Nat) ≤ 6 by decide) (k33_mkM _ _ _ (oZ l ii (v - 1))) (fun _ h => h.elim)
              simp only [Int.toNat_natCast, show k33.sz = 6 from rfl, World.setCells, oX_set, Nat.add_zero] at hseg
              have HSG2 := Lib.hid hseg.1
              have HBG2 := Lib.hid (pw_below_grown hB5 (some gr) hB5.size hseg.2 (fun q hq => by injection hq with hq; have := HBW.out; have := HBS.out; omega))
              have HHV := Lib.hid hv
              clear hcc hfr hM hc0 hseg hR5 hB5 e hv HCS ha hcl
              go_wp2
              go_roundw
              case rel => exact ⟨kk + 1, by omega, by go_num, Lib.hid (by rw [hcv.out]; exact HSG2.out), HBG2⟩
              case measure => simp [intOf]; omega
            · have hcv : Hid (cnt l ii (kk + 1) = cnt l ii kk) := Lib.hid (by rw [HCS.out, if_neg (by rw [ha]; decide)]; rfl)
              clear HCS ha hcl
              go_wp2
              go_quiet (fail)
              clear q1 q2
              go_wp2
              go_roundw
              case rel => exact ⟨kk + 1, by omega, by go_num, Lib.hid (by rw [hcv.out]; exact Kd.R_below HRk.out (pw_below_drewN (Below.refl _ _) _)), Lib.hid (pw_below_drewN HBk.out _)⟩
              case measure => simp [intOf]; omega
          · obtain rfl : kk = l.length := by omega
            rw [oX_next HLT.out] at HRk
            go_wp2
            go_roundw
            case rel => exact ⟨ii + 1, by omega, by go_num, HRT2, HRk, HBk⟩
            case measure => simp [intOf]; omega
    · obtain rfl : ii = l.length := by omega
      rw [ordR_all] at HRi
      have HE := Lib.hid (show ordE l = 0 by
        unfold ordE
        rw [if_pos HCN.out, if_neg]
        intro h
        obtain ⟨x, hx, hr⟩ := List.any_eq_true.1 h
        obtain ⟨j, hj, rfl⟩ := List.getElem_of_mem hx
        have e := tk_get hj
        rw [List.getElem?_eq_getElem hj] at e
        injection e with e
        have := HRT.out j hj
        rw [e, this] at hr
        cases hr)
      go_wp2
      go_ret2
      exact ⟨_, _, by rw [HE.out]; rfl, by rw [HE.out]; exact HRi.out, HBi.out⟩
end Go.Proofs.Ytmbfnhnemhojjaa
