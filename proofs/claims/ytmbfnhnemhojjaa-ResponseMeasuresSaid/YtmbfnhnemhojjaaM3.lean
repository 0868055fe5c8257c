/- Measure of the program: the walk. -/
import Derived.Test.YtmbfnhnemhojjaaM2
namespace Go.Proofs.Ytmbfnhnemhojjaa
set_option linter.unusedVariables false
set_option linter.unusedSimpArgs false
open Go.RowKit Go.Proofs.YtmbfnhnemhojjaaW.PrintWords Go.Proofs.YtmbfnhnemhojjaaW.PrintLast Go.Proofs.YtmbfnhnemhojjaaW.PrintMore PResponseCosts FLib
attribute [local go_sem ↓] hold_cells hold_from
attribute [local go_sem] below_alloc_T below_drew_T below_drewN_T run_box run_box2 run_box6 max2_mx max_two

theorem info2 : (Try.prog.info? 2).map (fun i => (i.zero, i.size, i.bytes)) = some (some (.int .i64 0), 1, 8) := by kernel_rfl
structure EvOk (x : S33) : Prop where
  f5 : 0 ≤ x.f5 ∧ x.f5 ≤ 20
  f0 : 0 ≤ x.f0 ∧ x.f0 ≤ 1099511627776
/-- What Measure answers. -/
def mo (t : Tab) (l tr : List S33) : Int × List Int :=
  if chkI t l = 0 then (match measK l tr l.length with | some out => (0, out) | none => (14, [])) else (chkI t l, [])
theorem mo_chk {t : Tab} {l tr : List S33} (h : chkI t l ≠ 0) : mo t l tr = (chkI t l, []) := if_neg h
theorem mo_none {t : Tab} {l tr : List S33} (h : chkI t l = 0) (hm : measK l tr l.length = none) : mo t l tr = (14, []) := by unfold mo; rw [if_pos h, hm]
theorem mo_some {t : Tab} {l tr : List S33} (h : chkI t l = 0) {out : List Int} (hm : measK l tr l.length = some out) : mo t l tr = (0, out) := by unfold mo; rw [if_pos h, hm]
theorem take_done {rl r0 xs : List Int} {N m M : Nat} {v : Int} (h0 : rl.take N = r0) (hx : r0 ++ List.replicate m v = xs) (hl : xs.length ≤ N) (hm : m ≤ M) (h : m = M ∨ xs.length = N) : (rl ++ List.replicate M v).take N = xs := by
  subst h0 hx
  rw [List.length_append, List.length_replicate, List.length_take] at hl h
  rw [List.take_append]
  by_cases hr : rl.length ≤ N
  · rw [List.take_of_length_le hr, List.take_replicate]
    congr 2
    omega
  · have : m = 0 := by omega
    subst this
    rw [show N - rl.length = 0 by omega]
    simp
theorem rel_bound {i : Int} {tr : List S33} (h : ∀ x ∈ tr, EvOk x) : ∀ r ∈ relL i tr, 0 ≤ r ∧ r ≤ 1099511627776 := by
  intro r hr
  obtain ⟨x, hx, hr⟩ := List.mem_flatMap.1 hr
  unfold relOf at hr
  split at hr
  · rw [List.eq_of_mem_replicate hr]
    exact (h x hx).f0
  · cases hr
theorem getD_mem {l : List Int} {k : Nat} (h : k < l.length) : l.getD k 0 ∈ l := by
  rw [List.getD_eq_getElem?_getD, List.getElem?_eq_getElem h]
  exact List.getElem_mem _
theorem meas_rd {l tr : List S33} {k : Nat} {ms rest : List Int} {mm : Int} (h : measK l tr k = some ms) : rdOf 0 (ms ++ mm :: rest) (k : Int) = mm := by
  have hl := measK_len h
  simp [rdOf, List.getD_eq_getElem?_getD, ← hl]
theorem meas_set {l tr : List S33} {k : Nat} {ms rest : List Int} {mm v : Int} (h : measK l tr k = some ms) : (ms ++ mm :: rest).set k v = ms ++ v :: rest := by
  have hl := measK_len h
  rw [← hl, List.set_append_right _ _ (Nat.le_refl _), Nat.sub_self]
  rfl
/-- What Measure leaves. -/
def MoPost (p : Int × List Int) (w : World) (e : Ending) (w' : World) : Prop :=
  ∃ v, e = .returned (.tuple #[v, .int .i64 p.1]) ∧ Kd.R (Kd.int .i64) 2 w' w.heap.size (fun _ => True) v p.2 ∧ Below w.heap.size w w'

set_option maxRecDepth 100000 in
set_option maxHeartbeats 8000000 in
theorem measure_any (t : Tab) (ht : t.costs.length = 24) (A : Option Addr) (c : Nat) (l : List S33) (B : Option Addr) (d : Nat) (tr : List S33) (hT : tr.length ≤ 300) (hev : ∀ x ∈ tr, EvOk x) (w : World) (hC : Kd.C k33 w A l.length l) (hD : Kd.C k33 w B tr.length tr) :
    Calls Try.prog 21 #[tabV t, .slice A l.length c, .slice B tr.length d] w (MoPost (mo t l tr) w) := by
  have H8 := Lib.hid (fun w hC => check_any t ht A c l w hC)
  have HP := Lib.hid program_any
  have HOK := Lib.hid (fun h => chk_ok (l := l) ht h)
  have HC := Lib.hid hC
  have HD := Lib.hid hD
  have HE := Lib.hid hev
  have hsz := tcells_len ht
  unfold tabV at H8 ⊢
  generalize (tabCells t).toArray = cs at H8 hsz ⊢
  have htr : (tr.length : Int) ≤ 300 := by omega
  clear ht hC hD hev
  go_enter Try.func21, Try.ntmps21
  go_wp2_with fail
  refine (H8.out _ (Kd.C_below HC.out (below_alloc (Below.refl _ _) _))).mono ?_
  rintro e w1 ⟨rfl, hb1⟩
  have HB1 := Lib.hid (below_then (below_alloc (Below.refl w.heap.size w) (.cells cs 24)) (by simp) hb1)
  clear hb1
  by_cases h0 : chkI t l = 0
  · have HSet := Lib.hid (HOK.out h0)
    have HC0 := Lib.hid h0
    rw [h0]
    have hlen : (l.length : Int) ≤ 12 := by have := HSet.out.le; omega
    clear h0
    go_wp2_with (first
      | (at_make; refine Kd.R_make (Kd.int .i64) (w0 := w) w.heap.size 2 rfl rfl 51 (.tmp 27) (.tmp 27) rfl (l.length : Int) rfl rfl Try.underlying51 _ 8 info2 rfl (by decide) (by decide) 0 (ok := fun _ => True) (okp := fun _ => False) rfl (fun _ h => h.elim) trivial (by omega) (by simp; omega) HB1.out HB1.out.size ?_; intro v2 w2 hR2 hB2 hx1 hx2; clear hx1 hx2; rw [Int.toNat_natCast] at hR2; obtain ⟨g1, c2, rfl, hg1, hg1', -⟩ := Kd.R_form hR2 (by rw [List.length_replicate]; exact HSet.out.pos); rw [List.length_replicate] at hR2; have HR2 := Lib.hid hR2; have HB2 := Lib.hid hB2; clear hR2 hB2)
      | fail)
    go_loopw [31] (fun i wr => ∃ k : Nat, k ≤ l.length ∧ i = .int .i64 k ∧ (∃ ms, Hid (measK l tr k = some ms) ∧ Hid (Kd.R (Kd.int .i64) 2 wr w.heap.size (fun _ => True) (.slice (some ⟨g1, 0, none⟩) l.length c2) (ms ++ List.replicate (l.length - k) 0))) ∧ Hid (Below w.heap.size w wr)) (fun i _ => l.length - (intOf i).toNat)
    case atStart => exact ⟨0, Nat.zero_le _, rfl, ⟨[], Lib.hid rfl, by simpa using HR2⟩, HB2⟩
    case round =>
      obtain ⟨k, hk, rfl, ⟨ms, HM, HR⟩, HB⟩ := hrel
      by_cases hlt : k < l.length
      · obtain ⟨ad, rfl, lk, -⟩ := tasks_at (Kd.C_below HC.out HB.out) k hlt
        have hi0 : (0 : Int) ≤ (k : Int) := by omega
        have hi1 : (k : Int) < (l.length : Int) := by omega
        have HPX := Lib.hid (HP.out (k : Int) (tk l k) (HSet.out.tasks _ (tk_mem hlt)))
        have HLT := Lib.hid hlt
        obtain ⟨y, hy⟩ : ∃ y, tk l k = y := ⟨_, rfl⟩
        have HY := Lib.hid hy
        rw [hy] at lk HPX
        unfold tkV at HPX
        have hs := Below.refl wr.heap.size wr
        clear hy
        go_wp2_with fail
        refine (HPX.out _).mono ?_
        rintro e w3 ⟨A3, c3, rfl, hb3⟩
        have hb3' := below_then (below_alloc (Below.refl wr.heap.size wr) (.cells #[.int .i64 y.f0, .int .i64 y.f1, .int .i64 y.f2, .int .i64 y.f3, .int .i64 y.f4, .int .i64 y.f5] 33)) (by simp) hb3
        have HR3 := Lib.hid (Kd.R_below HR.out hb3')
        have HB3 := Lib.hid (below_then HB.out HB.out.size hb3')
        have hpl : (4 : Int) ≤ (plen y : Int) ∧ (plen y : Int) ≤ 7 := by unfold plen; split <;> omega
        obtain ⟨hpl0, hpl1⟩ := hpl
        clear hb3 hb3' HR HB lk hs HPX
        have HDW := Lib.hid (Kd.C_below HD.out HB3.out)
        go_wp2
        have HLA : Hid (lastI y = (plen y : Int) - 2) := Lib.hid rfl
        generalize hla : (plen y : Int) - 2 = la at HLA ⊢
        clear hla
        go_loopw [13, 43] (fun r j w' => ∃ jj : Nat, jj ≤ tr.length ∧ j = .int .i64 jj ∧ Hid (Kd.R (Kd.int .i64) 2 w' w3.heap.size (fun _ => True) r ((relL (k : Int) (tr.take jj)).take (tr.length + 1))) ∧ Below w3.heap.size w3 w') (fun _ j _ => tr.length - (intOf j).toNat)
        case atStart => exact ⟨0, Nat.zero_le _, rfl, Lib.hid (by simpa [relL] using Kd.R_nil _ _ _ _ _), Below.refl _ _⟩
        case round =>
          obtain ⟨j, hj, rfl, HQ, hBj⟩ := hrel
          by_cases hjl : j < tr.length
          · obtain ⟨bd, rfl, le, -⟩ := tasks_at HDW.out j hjl
            have hj0 : (0 : Int) ≤ (j : Int) := by omega
            have hj1 : (j : Int) < (tr.length : Int) := by omega
            have HTS : Hid (relL (k : Int) (tr.take (j + 1)) = relL (k : Int) (tr.take j) ++ relOf (k : Int) (tk tr j)) := Lib.hid (flat_snoc hjl)
            have hxe := HE.out _ (tk_mem hjl)
            have HJL := Lib.hid hjl
            generalize tk tr j = x at le HTS hxe
            generalize relL (k : Int) (tr.take j) = rl at HQ HTS
            obtain ⟨⟨x50, x51⟩, ⟨x00, x01⟩⟩ := hxe
            by_cases ha : x.f1 = 6
            · have hd1 : (x.f1 == 6) = true := by simpa using ha
              by_cases hb : x.f4 = (k : Int)
              · have hd2 : (x.f4 == (k : Int)) = true := by simpa using hb
                have HRO : Hid (relOf (k : Int) x = List.replicate (x.f5.toNat + 1) x.f0) := Lib.hid (by unfold relOf isRel; rw [if_pos (by simp [ha, hb])])
                have HAB := Lib.hid (And.intro ha hb)
                clear ha hb
                go_wp2
                clear hd1 hd2
                refine abs_w (fun W5 => W5.heap[wr.heap.size]? = some (.cells #[.int .i64 x.f0, .int .i64 x.f1, .int .i64 x.f2, .int .i64 x.f3, .int .i64 x.f4, .int .i64 x.f5] 50 (0, 0)) ∧ Kd.R (Kd.int .i64) 2 W5 w3.heap.size (fun _ => True) _ (rl.take (tr.length + 1)) ∧ Below w3.heap.size w3 W5) ⟨blk_new _ _, Kd.R_alloc HQ.out _, below_new hBj _⟩ ?_
                generalize wr.heap.size = g
                rintro w5 ⟨hg5, hR5, hB5⟩
                have hrl : (rl.take (tr.length + 1)).length ≤ tr.length + 1 := by rw [List.length_take]; omega
                obtain ⟨r0, hr0⟩ : ∃ r0, rl.take (tr.length + 1) = r0 := ⟨_, rfl⟩
                rw [hr0] at hR5 hrl
                have HR5 := Lib.hid hR5
                have HG5 := Lib.hid hg5
                have HR0 := Lib.hid hr0
                clear hR5 hg5 hr0 hBj
                go_loopw [13, 16] (fun r n wq => ∃ m : Nat, n = .int .i64 m ∧ (m : Int) ≤ x.f5 + 1 ∧ r0.length + m ≤ tr.length + 1 ∧ Hid (Kd.R (Kd.int .i64) 2 wq w3.heap.size (fun _ => True) r (r0 ++ List.replicate m x.f0)) ∧ Hid (wq.heap[g]? = some (.cells #[.int .i64 x.f0, .int .i64 x.f1, .int .i64 x.f2, .int .i64 x.f3, .int .i64 x.f4, .int .i64 x.f5] 50 (0, 0))) ∧ Below w3.heap.size w3 wq) (fun _ n _ => (x.f5 + 1 - intOf n).toNat)
                case atStart => exact ⟨0, rfl, by omega, by omega, Lib.hid (by simpa using HR5.out), HG5, hB5⟩
                case round =>
                  obtain ⟨m, rfl, hm, hlm, HRm, HGm, hBm⟩ := hrel
                  obtain ⟨xs, hxs⟩ : ∃ xs, r0 ++ List.replicate m x.f0 = xs := ⟨_, rfl⟩
                  have hxl : xs.length = r0.length + m := by rw [← hxs, List.length_append, List.length_replicate]
                  rw [hxs] at HRm
                  obtain ⟨Am, cm, rfl⟩ := Kd.R_slice HRm.out
                  have e0 : wr.cell? ⟨g, 0, none⟩ = some (.int .i64 x.f0) := blk_cell HGm.out 0
                  have e5 : wr.cell? ⟨g, 5, none⟩ = some (.int .i64 x.f5) := blk_cell HGm.out 5
                  have HXS := Lib.hid hxs
                  have hxb : (xs.length : Int) ≤ (tr.length : Int) + 1 := by omega
                  have HXL := Lib.hid hxl
                  clear hxs hxl hlm
                  by_cases c1 : (m : Int) ≤ x.f5
                  · have d1 : decide ((m : Int) ≤ x.f5) = true := by simpa using c1
                    by_cases c2 : (xs.length : Int) ≤ (tr.length : Int)
                    · have d2 : decide (xs.length ≤ tr.length) = true := by simp; omega
                      have HC1 := Lib.hid c1
                      have HC2 := Lib.hid c2
                      clear c1 c2
                      go_wp2_with (first
                        | (at_builtin; refine Kd.R_append (Kd.int .i64) (w0 := w3) (W := wr) w3.heap.size rfl (.tmp 69) (.tmp 72) 51 2 _ 8 rfl Try.underlying51 info2 rfl (by decide) (by decide) _ xs x.f0 [.int .i64 x.f0] (fun _ => True) (fun _ => False) rfl rfl rfl (fun _ h => h.elim) (fun _ _ => trivial) HRm.out hBm hBm.size (by omega) ?_; intro v6 w6 hR6 hB6 hg6 hx6; clear hx6; have HR6 := Lib.hid hR6; have HG6 := Lib.hid (blk_grown HGm.out hg6 (Kd.R_ne HRm.out HGm.out (by decide))); clear hR6 hg6)
                        | fail)
                      go_roundw
                      case rel => exact ⟨m + 1, by go_num, by have := HC1.out; omega, by have := HC2.out; have := HXL.out; omega, Lib.hid (by rw [List.replicate_succ', ← List.append_assoc, HXS.out]; exact HR6.out), HG6, hB6⟩
                      case measure => have := HC1.out; simp [intOf]; omega
                    · have d2 : decide (xs.length ≤ tr.length) = false := by simp; omega
                      have HC2 := Lib.hid c2
                      have HTK := Lib.hid (take_done (N := tr.length + 1) (m := m) (M := x.f5.toNat + 1) (v := x.f0) HR0.out HXS.out (by omega) (by omega) (.inr (by omega)))
                      clear c1 c2
                      go_wp2
                      go_roundw
                      case rel => exact ⟨j + 1, by omega, by go_num, Lib.hid (by rw [HTS.out, HRO.out, HTK.out]; exact HRm.out), hBm⟩
                      case measure => simp [intOf]; omega
                  · have d1 : decide ((m : Int) ≤ x.f5) = false := by simpa using c1
                    have HTK := Lib.hid (take_done (N := tr.length + 1) (m := m) (M := x.f5.toNat + 1) (v := x.f0) HR0.out HXS.out (by omega) (by omega) (.inl (by omega)))
                    clear c1
                    go_wp2
                    go_roundw
                    case rel => exact ⟨j + 1, by omega, by go_num, Lib.hid (by rw [HTS.out, HRO.out, HTK.out]; exact HRm.out), hBm⟩
                    case measure => simp [intOf]; omega
              · have hd2 : (x.f4 == (k : Int)) = false := by simpa using hb
                have HRO : Hid (relOf (k : Int) x = []) := Lib.hid (by unfold relOf isRel; rw [if_neg (by simp [hb])])
                have HAB := Lib.hid hb
                clear ha hb
                go_wp2
                go_roundw
                case rel => exact ⟨j + 1, by omega, by go_num, Lib.hid (by rw [HTS.out, HRO.out, List.append_nil]; exact Kd.R_alloc HQ.out _), below_new hBj _⟩
                case measure => simp [intOf]; omega
            · have hd1 : (x.f1 == 6) = false := by simpa using ha
              have HRO : Hid (relOf (k : Int) x = []) := Lib.hid (by unfold relOf isRel; rw [if_neg (by simp [ha])])
              have HAB := Lib.hid ha
              clear ha
              go_wp2
              go_roundw
              case rel => exact ⟨j + 1, by omega, by go_num, Lib.hid (by rw [HTS.out, HRO.out, List.append_nil]; exact Kd.R_alloc HQ.out _), below_new hBj _⟩
              case measure => simp [intOf]; omega
          · obtain rfl : j = tr.length := by omega
            rw [List.take_length] at HQ
            have HR4 := Lib.hid (Kd.R_below HR3.out hBj)
            have HB4 := Lib.hid (below_then HB3.out HB3.out.size hBj)
            have hg3 : g1 < w3.heap.size := Kd.R_lt HR3.out g1 rfl
            have hrb : ∀ r ∈ (relL (k : Int) tr).take (tr.length + 1), 0 ≤ r ∧ r ≤ 1099511627776 := fun r hr => rel_bound HE.out r (List.mem_of_mem_take hr)
            obtain ⟨RL, hRL⟩ : ∃ RL, (relL (k : Int) tr).take (tr.length + 1) = RL := ⟨_, rfl⟩
            rw [hRL] at HQ hrb
            have hrl : RL.length ≤ tr.length + 1 := by rw [← hRL, List.length_take]; omega
            have HQ2 : Hid (Kd.R (Kd.int .i64) 2 wr w3.heap.size (fun k => k ≠ g1) _ RL) := Lib.hid (Kd.R_mono (Kd.R_bound HQ.out) (fun k hk => by have := hk.2.1; omega))
            obtain ⟨Ar, cr, rfl⟩ := Kd.R_slice HQ2.out
            have HRL := Lib.hid hRL
            have HRB := Lib.hid hrb
            have hrlI : (RL.length : Int) ≤ 301 := by omega
            clear HQ hRL hrb hBj HR3 HDW hg3
            go_wp2
            go_loopw [17, 77] (fun dn j w' => ∃ jj : Nat, jj ≤ tr.length ∧ j = .int .i64 jj ∧ (∃ (cm : List Int) (mm : Int), dn = .int .i64 (cm.length : Nat) ∧ Hid (comL (k : Int) la (tr.take jj) = cm) ∧ Hid ((respF RL cm).2 = some mm) ∧ Hid (Kd.R (Kd.int .i64) 2 w' w.heap.size (fun _ => True) (.slice (some ⟨g1, 0, none⟩) l.length c2) (ms ++ mm :: List.replicate (l.length - k - 1) 0))) ∧ Hid (Kd.R (Kd.int .i64) 2 w' w3.heap.size (fun k => k ≠ g1) (.slice Ar RL.length cr) RL) ∧ Hid (Below w.heap.size w w')) (fun _ j _ => tr.length - (intOf j).toNat)
            case atStart =>
              refine ⟨0, Nat.zero_le _, rfl, ⟨[], 0, rfl, Lib.hid rfl, Lib.hid rfl, Lib.hid ?_⟩, HQ2, HB4⟩
              have h := HR4.out
              rwa [show l.length - k = (l.length - k - 1) + 1 by have := HLT.out; omega, List.replicate_succ] at h
            case round =>
              obtain ⟨j, hj, rfl, ⟨cm, mm, rfl, HCM, HMM, HRO⟩, HQ, HBj⟩ := hrel
              by_cases hjl : j < tr.length
              · obtain ⟨bd, rfl, le, -⟩ := tasks_at (Kd.C_below HD.out HBj.out) j hjl
                have hj0 : (0 : Int) ≤ (j : Int) := by omega
                have hj1 : (j : Int) < (tr.length : Int) := by omega
                have hts := flat_snoc (f := comOf (k : Int) la) hjl
                have HTS : Hid (comL (k : Int) la (tr.take (j + 1)) = cm ++ comOf (k : Int) la (tk tr j)) := Lib.hid (by rw [← HCM.out]; exact hts)
                have hxe := HE.out _ (tk_mem hjl)
                have hs := Below.refl wr.heap.size wr
                clear hts
                generalize tk tr j = x at le HTS hxe
                obtain ⟨⟨x50, x51⟩, ⟨x00, x01⟩⟩ := hxe
                by_cases ha : x.f1 = 1
                rotate_left
                · have d1 : (x.f1 != 1) = true := by simpa using ha
                  have HCO : Hid (comOf (k : Int) la x = []) := Lib.hid (by unfold comOf isCom; rw [if_neg (by simp [ha])])
                  have HA := Lib.hid ha
                  clear ha
                  go_wp2
                  go_roundw
                  case rel => exact ⟨j + 1, by omega, by go_num, ⟨cm, mm, rfl, Lib.hid (by rw [HTS.out, HCO.out, List.append_nil]), HMM, Lib.hid (Kd.R_alloc HRO.out _)⟩, Lib.hid (Kd.R_alloc HQ.out _), Lib.hid (below_alloc HBj.out _)⟩
                  case measure => simp [intOf]; omega
                have d1 : (x.f1 != 1) = false := by simpa using ha
                by_cases hb : x.f3 = (k : Int)
                rotate_left
                · have d2 : (x.f3 != (k : Int)) = true := by simpa using hb
                  have HCO : Hid (comOf (k : Int) la x = []) := Lib.hid (by unfold comOf isCom; rw [if_neg (by simp [hb])])
                  have HA := Lib.hid ha
                  have HBb := Lib.hid hb
                  clear ha hb
                  go_wp2
                  go_roundw
                  case rel => exact ⟨j + 1, by omega, by go_num, ⟨cm, mm, rfl, Lib.hid (by rw [HTS.out, HCO.out, List.append_nil]), HMM, Lib.hid (Kd.R_alloc HRO.out _)⟩, Lib.hid (Kd.R_alloc HQ.out _), Lib.hid (below_alloc HBj.out _)⟩
                  case measure => simp [intOf]; omega
                have d2 : (x.f3 != (k : Int)) = false := by simpa using hb
                by_cases hc : x.f4 = 0
                rotate_left
                · have d3 : (x.f4 != 0) = true := by simpa using hc
                  have HCO : Hid (comOf (k : Int) la x = []) := Lib.hid (by unfold comOf isCom; rw [if_neg (by simp [hc])])
                  have HA := Lib.hid ha
                  have HBb := Lib.hid hb
                  have HCc := Lib.hid hc
                  clear ha hb hc
                  go_wp2
                  go_roundw
                  case rel => exact ⟨j + 1, by omega, by go_num, ⟨cm, mm, rfl, Lib.hid (by rw [HTS.out, HCO.out, List.append_nil]), HMM, Lib.hid (Kd.R_alloc HRO.out _)⟩, Lib.hid (Kd.R_alloc HQ.out _), Lib.hid (below_alloc HBj.out _)⟩
                  case measure => simp [intOf]; omega
                have d3 : (x.f4 != 0) = false := by simpa using hc
                by_cases hd : x.f5 = la
                rotate_left
                · have d4 : (x.f5 != la) = true := by simpa using hd
                  have HCO : Hid (comOf (k : Int) la x = []) := Lib.hid (by unfold comOf isCom; rw [if_neg (by simp [hd])])
                  have HA := Lib.hid ha
                  have HBb := Lib.hid hb
                  have HCc := Lib.hid hc
                  have HDd := Lib.hid hd
                  clear ha hb hc hd
                  go_wp2
                  go_roundw
                  case rel => exact ⟨j + 1, by omega, by go_num, ⟨cm, mm, rfl, Lib.hid (by rw [HTS.out, HCO.out, List.append_nil]), HMM, Lib.hid (Kd.R_alloc HRO.out _)⟩, Lib.hid (Kd.R_alloc HQ.out _), Lib.hid (below_alloc HBj.out _)⟩
                  case measure => simp [intOf]; omega
                have d4 : (x.f5 != la) = false := by simpa using hd
                have HCO : Hid (comOf (k : Int) la x = [x.f0]) := Lib.hid (by unfold comOf isCom; rw [if_pos (by simp [ha, hb, hc, hd])])
                clear ha hb hc hd
                go_wp2
                clear d1 d2 d3 d4
                refine abs_w (fun W5 => W5.heap[wr.heap.size]? = some (.cells #[.int .i64 x.f0, .int .i64 x.f1, .int .i64 x.f2, .int .i64 x.f3, .int .i64 x.f4, .int .i64 x.f5] 50 (0, 0)) ∧ Kd.R (Kd.int .i64) 2 W5 w.heap.size (fun _ => True) (.slice (some ⟨g1, 0, none⟩) l.length c2) (ms ++ mm :: List.replicate (l.length - k - 1) 0) ∧ Kd.R (Kd.int .i64) 2 W5 w3.heap.size (fun k => k ≠ g1) (.slice Ar RL.length cr) RL ∧ Below w.heap.size w W5) ⟨blk_new _ _, Kd.R_alloc HRO.out _, Kd.R_alloc HQ.out _, below_alloc HBj.out _⟩ ?_
                clear le hs HRO HQ HBj
                generalize wr.heap.size = g
                rintro w5 ⟨hg5, hRo, hRq, hB5⟩
                have e0 : w5.cell? ⟨g, 0, none⟩ = some (.int .i64 x.f0) := blk_cell hg5 0
                have HRo := Lib.hid hRo
                have HRq := Lib.hid hRq
                have HB5 := Lib.hid hB5
                have hcl := resp_len HMM.out
                clear hg5 hRo hRq hB5
                have HS := Lib.hid (respF_snoc RL cm x.f0)
                by_cases q1 : cm.length = RL.length
                · have hF : (respF RL (comL (k : Int) la (tr.take (j + 1)))).2 = none := by
                    rw [HTS.out, HCO.out, HS.out, HMM.out]
                    simp only [Option.bind_some]
                    rw [if_neg (by omega)]
                  have HMO := Lib.hid (mo_none HC0.out (meas_fail HLT.out (by rw [HY.out]; exact HLA.out) HRL.out hF))
                  have d1 : ((cm.length : Int) == (RL.length : Int)) = true := by simp; omega
                  have d2 : (cm.length == RL.length) = true := by simp; omega
                  clear q1 hF
                  go_quiet (fail)
                  go_wp2
                  go_ret2
                  exact ⟨_, by rw [HMO.out]; rfl, by rw [HMO.out]; exact Kd.R_nil _ _ _ _ _, by first | exact pw_below_drewN HB5.out _ | exact HB5.out⟩
                · have hlt2 : cm.length < RL.length := by omega
                  have d1 : ((cm.length : Int) == (RL.length : Int)) = false := by simp; omega
                  have d2 : (cm.length == RL.length) = false := by simp; omega
                  obtain ⟨ar, rfl, er⟩ := Kd.at_int (Kd.R_reads' HRq.out).2.2 (cm.length : Int) (by omega) (by omega)
                  have er' : w5.cell? (ar.add cm.length) = some (.int .i64 (RL.getD cm.length 0)) := by simpa [rd] using er
                  have hrv := HRB.out _ (getD_mem hlt2)
                  have hn0 : (0 : Int) ≤ (cm.length : Int) := by omega
                  have hn1 : (cm.length : Int) < (RL.length : Int) := by omega
                  have HLT2 := Lib.hid hlt2
                  generalize RL.getD cm.length 0 = rv at er' hrv HS
                  obtain ⟨rv0, rv1⟩ := hrv
                  clear er q1
                  by_cases q2 : x.f0 < rv
                  · have hF : (respF RL (comL (k : Int) la (tr.take (j + 1)))).2 = none := by
                      rw [HTS.out, HCO.out, HS.out, HMM.out]
                      simp only [Option.bind_some]
                      rw [if_neg (by omega)]
                    have HMO := Lib.hid (mo_none HC0.out (meas_fail HLT.out (by rw [HY.out]; exact HLA.out) HRL.out hF))
                    have d3 : decide (x.f0 < rv) = true := by simpa using q2
                    clear q2 hF
                    go_quiet (fail)
                    go_wp2
                    go_ret2
                    exact ⟨_, by rw [HMO.out]; rfl, by rw [HMO.out]; exact Kd.R_nil _ _ _ _ _, by first | exact pw_below_drewN HB5.out _ | exact HB5.out⟩
                  · have d3 : decide (x.f0 < rv) = false := by simpa using q2
                    have HS2 : Hid ((respF RL (comL (k : Int) la (tr.take (j + 1)))).2 = some (mx2 mm (x.f0 - rv + 1))) := Lib.hid (by
                      rw [HTS.out, HCO.out, HS.out, HMM.out]
                      simp only [Option.bind_some]
                      rw [if_pos ⟨HLT2.out, q2⟩])
                    have hq2 : rv ≤ x.f0 := by omega
                    have HQ2' := Lib.hid hq2
                    have hw1 : IntKind.i64.wrap (x.f0 - rv) = x.f0 - rv := IntWalk.i64_in _ (by omega)
                    have hw2 : IntKind.i64.wrap (x.f0 - rv + 1) = x.f0 - rv + 1 := IntWalk.i64_in _ (by omega)
                    obtain ⟨ho1, ho2⟩ := Kd.R_celln 0 HRo.out (k : Int) hi0 hi1
                    rw [meas_rd HM.out] at ho1
                    simp only [Int.toNat_natCast] at ho1 ho2
                    clear q2 hq2
                    go_quiet (fail)
                    go_wp2
                    refine still_tail 16 (by kernel_rfl) (by kernel_rfl) ?_
                    simp only [List.take_succ_cons, List.take_zero, List.drop_succ_cons, List.drop_zero]
                    repeat still_step
                    refine wpStill_nil ?_
                    go_wp2
                    have HRp := Lib.hid (Kd.R_putg (Kd.R_below HRo.out (pw_below_drewN (Below.refl _ w5) (nq + 1))) (k : Int) (mx2 mm (x.f0 - rv + 1)))
                    have HBp := Lib.hid (pw_below_drewN HB5.out (nq + 1))
                    go_roundw
                    case rel => exact ⟨j + 1, by omega, by go_num, ⟨cm ++ [x.f0], mx2 mm (x.f0 - rv + 1), by rw [List.length_append, List.length_singleton]; go_num, Lib.hid (by rw [HTS.out, HCO.out]), Lib.hid (by have h := HS2.out; rwa [HTS.out, HCO.out] at h), Lib.hid (by have h := HRp.out.1; rwa [Int.toNat_natCast, meas_set HM.out] at h)⟩, Lib.hid (Kd.R_far (Kd.R_below HRq.out (pw_below_drewN (Below.refl _ w5) (nq + 1))) (fun _ hk => hk) _), Lib.hid (by have h := HRp.out.2; simp only [Int.toNat_natCast] at h; exact pw_below_grown HBp.out (some g1) HBp.out.size h (fun q hq => by injection hq with hq; omega))⟩
                    case measure => simp [intOf]; omega
              · obtain rfl : j = tr.length := by omega
                rw [List.take_length] at HCM
                rw [← HCM.out] at HMM
                have HN := Lib.hid (meas_next (by rw [HY.out]; exact HLA.out) HRL.out HM.out HMM.out)
                go_wp2
                go_roundw
                case rel => exact ⟨k + 1, by have := HLT.out; omega, by go_num, ⟨ms ++ [mm], HN, Lib.hid (by
                  have h := HRO.out
                  rw [show l.length - k - 1 = l.length - (k + 1) by omega] at h
                  rw [List.append_assoc]
                  exact h)⟩, HBj⟩
                case measure => simp [intOf]; omega
      · obtain rfl : k = l.length := by omega
        have HMO := Lib.hid (mo_some HC0.out HM.out)
        rw [Nat.sub_self, List.replicate_zero, List.append_nil] at HR
        go_wp2
        go_ret2
        exact ⟨_, by rw [HMO.out]; rfl, by rw [HMO.out]; exact HR.out, HB.out⟩
  · have HMO := Lib.hid (mo_chk (t := t) (l := l) (tr := tr) h0)
    have h1 : (chkI t l == 0) = false := by simpa using h0
    have h2 : (chkI t l != 0) = true := by simpa using h0
    clear h0
    go_wp2
    go_ret2
    exact ⟨_, by rw [HMO.out]; rfl, by rw [HMO.out]; exact Kd.R_nil _ _ _ _ _, HB1.out⟩
end Go.Proofs.Ytmbfnhnemhojjaa
