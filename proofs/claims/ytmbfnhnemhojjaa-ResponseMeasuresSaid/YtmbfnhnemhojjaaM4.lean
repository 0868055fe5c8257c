/- Measure of the reference: the walk; the events in the reference's slice. -/
import Derived.Test.YtmbfnhnemhojjaaM3
namespace Go.Proofs.Ytmbfnhnemhojjaa
set_option linter.unusedVariables false
set_option linter.unusedSimpArgs false
open Go.RowKit Go.Proofs.YtmbfnhnemhojjaaW.PrintWords Go.Proofs.YtmbfnhnemhojjaaW.PrintLast Go.Proofs.YtmbfnhnemhojjaaW.PrintMore PResponseCosts FLib
attribute [local go_sem ↓] hold_cells hold_from
attribute [local go_sem] below_alloc_T below_drew_T below_drewN_T run_box run_box2 run_box6

theorem com_bound {i la : Int} {tr : List S33} (h : ∀ x ∈ tr, EvOk x) : ∀ r ∈ comL i la tr, 0 ≤ r ∧ r ≤ 1099511627776 := by
  intro r hr
  obtain ⟨x, hx, hr⟩ := List.mem_flatMap.1 hr
  unfold comOf at hr
  split at hr
  · rw [List.mem_singleton.1 hr]
    exact (h x hx).f0
  · cases hr
theorem rel_len {i : Int} {tr : List S33} (h : ∀ x ∈ tr, EvOk x) : (relL i tr).length ≤ 21 * tr.length := by
  unfold relL
  induction tr with
  | nil => simp
  | cons x tr ih =>
    rw [List.flatMap_cons, List.length_append, List.length_cons]
    have h1 : (relOf i x).length ≤ 21 := by
      unfold relOf
      split
      · have := (h x (List.mem_cons_self ..)).f5
        rw [List.length_replicate]
        omega
      · simp
    have := ih (fun y hy => h y (List.mem_cons_of_mem _ hy))
    omega
/-- Two rows of numbers, apart. -/
structure Two (W : World) (base : Nat) (r c : Value) (rl cl : List Int) : Prop where
  one : Kd.R (Kd.int .i64) 2 W base (fun _ => True) r rl
  two : Kd.R (Kd.int .i64) 2 W base (fun _ => True) c cl
  apart : ∀ k, r.ownBlock = some k → c.ownBlock ≠ some k
theorem Two.symm {W : World} {base : Nat} {r c : Value} {rl cl : List Int} (h : Two W base r c rl cl) : Two W base c r cl rl := ⟨h.two, h.one, fun k hk hr => h.apart k hr hk⟩
theorem Two.nil (W : World) (base : Nat) : Two W base (.slice none 0 0) (.slice none 0 0) [] [] := ⟨Kd.R_nil _ _ _ _ _, Kd.R_nil _ _ _ _ _, fun k hk => by simp [Value.ownBlock] at hk⟩
theorem Two.alloc {W : World} {base : Nat} {r c : Value} {rl cl : List Int} (h : Two W base r c rl cl) (o : Obj) : Two (W.alloc o) base r c rl cl := ⟨Kd.R_alloc h.one o, Kd.R_alloc h.two o, h.apart⟩
theorem Two.below {W W2 : World} {base : Nat} {r c : Value} {rl cl : List Int} (h : Two W base r c rl cl) (hb : Below W.heap.size W W2) : Two W2 base r c rl cl := ⟨Kd.R_below h.one hb, Kd.R_below h.two hb, h.apart⟩
theorem Two.app {W w1 : World} {base : Nat} {r c v : Value} {rl cl xs : List Int} (h : Two W base r c rl cl) (hv : Kd.R (Kd.int .i64) 2 w1 base (fun _ => True) v xs) (hg : W.grownBy w1 r.ownBlock) (hx : v.ownBlock = r.ownBlock ∨ ∃ b, v.ownBlock = some b ∧ W.heap.size ≤ b) : Two w1 base v c xs cl := by
  refine ⟨hv, Kd.R_grown2 h.two rfl hg (fun k hk e => h.apart k hk e.symm), fun k hk hc => ?_⟩
  rcases hx with hx | ⟨b, hb, hle⟩
  · exact h.apart k (hx ▸ hk) hc
  · rw [hb] at hk
    injection hk with hk
    have := Kd.R_lt h.two k hc
    omega
theorem meas_fail2 {l tr : List S33} {k n : Nat} {la : Int} (hk : k < l.length) (hla : lastI (tk l k) = la) (h : (respF (relL (k : Int) tr) ((comL (k : Int) la tr).take n)).2 = none) :
    measK l tr l.length = none := by
  refine measK_none (j := k + 1) (by omega) ?_
  unfold measK
  have h2 : resp1 tr k (tk l k) = none := by
    unfold resp1
    rw [hla]
    exact respF_prefix h
  rw [h2]
  cases measK l tr k <;> rfl
theorem meas_next2 {l tr : List S33} {k : Nat} {la mm : Int} {ms : List Int} (hla : lastI (tk l k) = la) (hm : measK l tr k = some ms) (h : (respF (relL (k : Int) tr) (comL (k : Int) la tr)).2 = some mm) :
    measK l tr (k + 1) = some (ms ++ [mm]) := by
  unfold measK
  have h2 : resp1 tr k (tk l k) = some mm := by
    unfold resp1
    rw [hla]
    exact h
  rw [hm, h2]
  rfl
theorem take_snoc {l : List Int} {n : Nat} (h : n < l.length) : l.take (n + 1) = l.take n ++ [l.getD n 0] := by
  rw [List.take_add_one, List.getD_eq_getElem?_getD, List.getElem?_eq_getElem h]; rfl
theorem resp_step {rel com : List Int} {n : Nat} (h : n < com.length) {mm : Int} (hm : (respF rel (com.take n)).2 = some mm) :
    (respF rel (com.take (n + 1))).2 = if n < rel.length ∧ ¬ com.getD n 0 < rel.getD n 0 then some (mx2 mm (com.getD n 0 - rel.getD n 0 + 1)) else none := by
  rw [take_snoc h, respF_snoc, hm]
  have : (com.take n).length = n := by rw [List.length_take]; omega
  simp only [this, Option.bind_some]

set_option maxRecDepth 100000 in
set_option maxHeartbeats 8000000 in
theorem rmeasure_any (cs : Array Value) (t : Tab) (ht : t.costs.length = 24) (h : TabC' cs t) (A : Option Addr) (c : Nat) (l : List S33) (B : Option Addr) (d : Nat) (tr : List S33) (hT : tr.length ≤ 300) (hev : ∀ x ∈ tr, EvOk x) (w : World) (hC : Kd.C k33 w A l.length l) (hD : Kd.C k33 w B tr.length tr) :
    Calls Try.prog 22 #[.agg cs, .slice A l.length c, .slice B tr.length d] w (MoPost (mo t l tr) w) := by
  have H16 := Lib.hid (fun w hC => rcheck_any cs t ht h A c l w hC)
  have HP := Lib.hid rprogram_any
  have HOK := Lib.hid (fun h => chk_ok (l := l) ht h)
  have HC := Lib.hid hC
  have HD := Lib.hid hD
  have HE := Lib.hid hev
  have hsz := h.size
  have htr : (tr.length : Int) ≤ 300 := by omega
  clear ht h hC hD hev
  go_enter Try.func22, Try.ntmps22
  go_wp2_with fail
  refine (H16.out _ (Kd.C_below HC.out (below_alloc (Below.refl _ _) _))).mono ?_
  rintro e w1 ⟨rfl, hb1⟩
  have HB1 := Lib.hid (below_then (below_alloc (Below.refl w.heap.size w) (.cells cs 36)) (by simp) hb1)
  clear hb1
  by_cases h0 : chkI t l = 0
  · have HSet := Lib.hid (HOK.out h0)
    have HC0 := Lib.hid h0
    rw [h0]
    have hlen : (l.length : Int) ≤ 12 := by have := HSet.out.le; omega
    clear h0
    go_wp2
    go_loopw [9, 10] (fun o i wr => ∃ k : Nat, k ≤ l.length ∧ i = .int .i64 k ∧ (∃ ms, Hid (measK l tr k = some ms) ∧ Hid (Kd.R (Kd.int .i64) 2 wr w.heap.size (fun _ => True) o ms)) ∧ Hid (Below w.heap.size w wr)) (fun _ i _ => l.length - (intOf i).toNat)
    case atStart => exact ⟨0, Nat.zero_le _, rfl, ⟨[], Lib.hid rfl, Lib.hid (Kd.R_nil _ _ _ _ _)⟩, HB1⟩
    case round =>
      obtain ⟨k, hk, rfl, ⟨ms, HM, HR⟩, HB⟩ := hrel
      by_cases hlt : k < l.length
      · obtain ⟨ad, rfl, lk, -⟩ := tasks_at (Kd.C_below HC.out HB.out) k hlt
        have hi0 : (0 : Int) ≤ (k : Int) := by omega
        have hi1 : (k : Int) < (l.length : Int) := by omega
        have HPX := Lib.hid (HP.out (k : Int) (tk l k) (HSet.out.tasks _ (tk_mem hlt)))
        have HLT := Lib.hid hlt
        obtain ⟨y, hy⟩ : ∃ y, tk l k = y := ⟨_, rfl⟩
        have HY := Lib.hid hy
        rw [hy] at lk HPX
        unfold tkV at HPX
        have hs := Below.refl wr.heap.size wr
        clear hy
        go_wp2_with fail
        refine (HPX.out _).mono ?_
        rintro e w3 ⟨A3, c3, rfl, hb3⟩
        have HR3 := Lib.hid (Kd.R_below HR.out hb3)
        have HB3 := Lib.hid (below_then HB.out HB.out.size hb3)
        have hpl : (4 : Int) ≤ (plen y : Int) ∧ (plen y : Int) ≤ 7 := by unfold plen; split <;> omega
        obtain ⟨hpl0, hpl1⟩ := hpl
        clear hb3 HR HB lk hs HPX
        have HDW := Lib.hid (Kd.C_below HD.out HB3.out)
        go_wp2
        have HLA : Hid (lastI y = (plen y : Int) - 2) := Lib.hid rfl
        generalize hla : (plen y : Int) - 2 = la at HLA ⊢
        clear hla
        go_loopw [12, 13, 14] (fun r q j w' => ∃ jj : Nat, jj ≤ tr.length ∧ j = .int .i64 jj ∧ Hid (Two w' w3.heap.size r q (relL (k : Int) (tr.take jj)) (comL (k : Int) la (tr.take jj))) ∧ Below w3.heap.size w3 w') (fun _ _ j _ => tr.length - (intOf j).toNat)
        case atStart => exact ⟨0, Nat.zero_le _, rfl, Lib.hid (by simpa [relL, comL] using Two.nil _ _), Below.refl _ _⟩
        case round =>
          obtain ⟨j, hj, rfl, HQ, hBj⟩ := hrel
          by_cases hjl : j < tr.length
          · obtain ⟨bd, rfl, le, -⟩ := tasks_at HDW.out j hjl
            have hj0 : (0 : Int) ≤ (j : Int) := by omega
            have hj1 : (j : Int) < (tr.length : Int) := by omega
            have HTR : Hid (relL (k : Int) (tr.take (j + 1)) = relL (k : Int) (tr.take j) ++ relOf (k : Int) (tk tr j)) := Lib.hid (flat_snoc hjl)
            have HTC : Hid (comL (k : Int) la (tr.take (j + 1)) = comL (k : Int) la (tr.take j) ++ comOf (k : Int) la (tk tr j)) := Lib.hid (flat_snoc hjl)
            have hxe := HE.out _ (tk_mem hjl)
            have HJL := Lib.hid hjl
            have hrn : (relL (k : Int) (tr.take j)).length ≤ 6300 := by
              have h1 := rel_len (i := (k : Int)) (tr := tr.take j) (fun x hx => HE.out x (List.mem_of_mem_take hx))
              rw [List.length_take] at h1
              omega
            have hcn : (comL (k : Int) la (tr.take j)).length ≤ 300 := by
              have h1 := com_le (k : Int) la (tr.take j)
              rw [List.length_take] at h1
              omega
            generalize tk tr j = x at le HTR HTC hxe
            generalize relL (k : Int) (tr.take j) = rl at HQ HTR hrn
            generalize comL (k : Int) la (tr.take j) = cl at HQ HTC hcn
            obtain ⟨⟨x50, x51⟩, ⟨x00, x01⟩⟩ := hxe
            have hs := Below.refl wr.heap.size wr
            by_cases ha : x.f1 = 6
            · have a1 : (x.f1 == 6) = true := by simpa using ha
              have a2 : (x.f1 == 1) = false := by simp [ha]
              have HCO : Hid (comOf (k : Int) la x = []) := Lib.hid (by unfold comOf isCom; rw [if_neg (by simp [ha])])
              rw [HCO.out, List.append_nil] at HTC
              by_cases hb : x.f4 = (k : Int)
              · have b1 : (x.f4 == (k : Int)) = true := by simpa using hb
                have HRO : Hid (relOf (k : Int) x = List.replicate (x.f5.toNat + 1) x.f0) := Lib.hid (by unfold relOf isRel; rw [if_pos (by simp [ha, hb])])
                rw [HRO.out] at HTR
                have HAB := Lib.hid (And.intro ha hb)
                clear ha hb
                go_wp2
                refine abs_w (fun W5 => W5.heap[wr.heap.size]? = some (.cells #[.int .i64 x.f0, .int .i64 x.f1, .int .i64 x.f2, .int .i64 x.f3, .int .i64 x.f4, .int .i64 x.f5] 86 (0, 0)) ∧ Two W5 w3.heap.size _ _ rl cl ∧ Below w3.heap.size w3 W5) ⟨blk_new _ _, HQ.out.alloc _, below_new hBj _⟩ ?_
                clear hs le
                generalize wr.heap.size = g
                rintro w5 ⟨hg5, hR5, hB5⟩
                have HR5 := Lib.hid hR5
                have HG5 := Lib.hid hg5
                clear hR5 hg5 hBj
                go_loopw [12, 16] (fun r n wq => ∃ m : Nat, n = .int .i64 m ∧ (m : Int) ≤ x.f5 + 1 ∧ Hid (Two wq w3.heap.size r _ (rl ++ List.replicate m x.f0) cl) ∧ Hid (wq.heap[g]? = some (.cells #[.int .i64 x.f0, .int .i64 x.f1, .int .i64 x.f2, .int .i64 x.f3, .int .i64 x.f4, .int .i64 x.f5] 86 (0, 0))) ∧ Below w3.heap.size w3 wq) (fun _ n _ => (x.f5 + 1 - intOf n).toNat)
                case atStart => exact ⟨0, rfl, by omega, Lib.hid (by simpa using HR5.out), HG5, hB5⟩
                case round =>
                  obtain ⟨m, rfl, hm, HRm, HGm, hBm⟩ := hrel
                  obtain ⟨xs, hxs⟩ : ∃ xs, rl ++ List.replicate m x.f0 = xs := ⟨_, rfl⟩
                  have hxl : xs.length = rl.length + m := by rw [← hxs, List.length_append, List.length_replicate]
                  rw [hxs] at HRm
                  have e0 : wr.cell? ⟨g, 0, none⟩ = some (.int .i64 x.f0) := blk_cell HGm.out 0
                  have e1 : wr.cell? ⟨g, 1, none⟩ = some (.int .i64 x.f1) := blk_cell HGm.out 1
                  have e5 : wr.cell? ⟨g, 5, none⟩ = some (.int .i64 x.f5) := blk_cell HGm.out 5
                  have HXS := Lib.hid hxs
                  have hxb : xs.length ≤ 6400 := by omega
                  have c3 : decide ((m : Int) < 10000) = true := by simp; omega
                  clear hxs hxl
                  by_cases c1 : (m : Int) ≤ x.f5
                  · have d1 : decide ((m : Int) ≤ x.f5) = true := by simpa using c1
                    go_wp2_with (first
                      | (at_builtin; refine Kd.R_append (Kd.int .i64) (w0 := w3) (W := wr) w3.heap.size rfl (.tmp 69) (.tmp 72) 51 2 _ 8 rfl Try.underlying51 info2 rfl (by decide) (by decide) _ xs x.f0 [.int .i64 x.f0] (fun _ => True) (fun _ => False) rfl rfl rfl (fun _ h => h.elim) (fun _ _ => trivial) HRm.out.one hBm hBm.size (by omega) ?_; intro v6 w6 hR6 hB6 hg6 hx6; have HR6 := Lib.hid (HRm.out.app hR6 hg6 hx6); have HG6 := Lib.hid (blk_grown HGm.out hg6 (Kd.R_ne HRm.out.one HGm.out (by decide))); clear hR6 hg6 hx6)
                      | fail)
                    go_roundw
                    case rel => exact ⟨m + 1, by go_num, by omega, Lib.hid (by rw [List.replicate_succ', ← List.append_assoc, HXS.out]; exact HR6.out), HG6, hB6⟩
                    case measure => simp [intOf]; omega
                  · have d1 : decide ((m : Int) ≤ x.f5) = false := by simpa using c1
                    have hmm : m = x.f5.toNat + 1 := by omega
                    rw [hmm] at HXS
                    clear hmm
                    go_wp2
                    go_roundw
                    case rel => exact ⟨j + 1, by omega, by go_num, Lib.hid (by rw [HTR.out, HXS.out, HTC.out]; exact HRm.out), hBm⟩
                    case measure => simp [intOf]; omega
              · have b1 : (x.f4 == (k : Int)) = false := by simpa using hb
                have HRO : Hid (relOf (k : Int) x = []) := Lib.hid (by unfold relOf isRel; rw [if_neg (by simp [hb])])
                rw [HRO.out, List.append_nil] at HTR
                have HAB := Lib.hid (And.intro ha hb)
                clear ha hb
                go_wp2
                go_roundw
                case rel => exact ⟨j + 1, by omega, by go_num, Lib.hid (by rw [HTR.out, HTC.out]; exact HQ.out.alloc _), below_new hBj _⟩
                case measure => simp [intOf]; omega
            · have a1 : (x.f1 == 6) = false := by simpa using ha
              have HRO : Hid (relOf (k : Int) x = []) := Lib.hid (by unfold relOf isRel; rw [if_neg (by simp [ha])])
              rw [HRO.out, List.append_nil] at HTR
              have HA := Lib.hid ha
              clear ha
              rcases Bool.eq_false_or_eq_true (isCom (k : Int) la x) with hcm | hcm
              · have HCO : Hid (comOf (k : Int) la x = [x.f0]) := Lib.hid (by unfold comOf; rw [if_pos hcm])
                rw [HCO.out] at HTC
                unfold isCom at hcm
                simp only [Bool.and_eq_true, decide_eq_true_eq] at hcm
                obtain ⟨p1, p3, p4, p5⟩ := hcm
                have b1 : (x.f1 == 1) = true := by simpa using p1
                have b3 : (x.f3 == (k : Int)) = true := by simpa using p3
                have b4 : (x.f4 == 0) = true := by simpa using p4
                have b5 : (x.f5 == la) = true := by simpa using p5
                clear p1 p3 p4 p5
                have HQA := Lib.hid (HQ.out.alloc (.cells #[.int .i64 x.f0, .int .i64 x.f1, .int .i64 x.f2, .int .i64 x.f3, .int .i64 x.f4, .int .i64 x.f5] 86))
                have hBA := below_new hBj (.cells #[.int .i64 x.f0, .int .i64 x.f1, .int .i64 x.f2, .int .i64 x.f3, .int .i64 x.f4, .int .i64 x.f5] 86)
                go_wp2_with (first
                  | (at_builtin; refine Kd.R_append (Kd.int .i64) (w0 := w3) (W := wr.alloc (.cells #[.int .i64 x.f0, .int .i64 x.f1, .int .i64 x.f2, .int .i64 x.f3, .int .i64 x.f4, .int .i64 x.f5] 86)) w3.heap.size rfl (.tmp 94) (.tmp 97) 51 2 _ 8 rfl Try.underlying51 info2 rfl (by decide) (by decide) _ cl x.f0 [.int .i64 x.f0] (fun _ => True) (fun _ => False) rfl (by simp; rfl) rfl (fun _ h => h.elim) (fun _ _ => trivial) HQA.out.two hBA hBA.size (by omega) ?_; intro v6 w6 hR6 hB6 hg6 hx6; have HR6 := Lib.hid (HQA.out.symm.app hR6 hg6 hx6).symm; clear hR6 hg6 hx6)
                  | fail)
                go_roundw
                case rel => exact ⟨j + 1, by omega, by go_num, Lib.hid (by rw [HTR.out, HTC.out]; exact HR6.out), hB6⟩
                case measure => simp [intOf]; omega
              · have HCO : Hid (comOf (k : Int) la x = []) := Lib.hid (by unfold comOf; rw [if_neg (by simp [hcm])])
                rw [HCO.out, List.append_nil] at HTC
                have hcs : (x.f1 == 1) = false ∨ ((x.f1 == 1) = true ∧ (x.f3 == (k : Int)) = false) ∨ ((x.f1 == 1) = true ∧ (x.f3 == (k : Int)) = true ∧ (x.f4 == 0) = false) ∨ ((x.f1 == 1) = true ∧ (x.f3 == (k : Int)) = true ∧ (x.f4 == 0) = true ∧ (x.f5 == la) = false) := by
                  unfold isCom at hcm
                  by_cases p1 : x.f1 = 1
                  · by_cases p3 : x.f3 = (k : Int)
                    · by_cases p4 : x.f4 = 0
                      · right; right; right
                        refine ⟨by simpa using p1, by simpa using p3, by simpa using p4, ?_⟩
                        simpa [p1, p3, p4] using hcm
                      · right; right; left
                        exact ⟨by simpa using p1, by simpa using p3, by simpa using p4⟩
                    · right; left
                      exact ⟨by simpa using p1, by simpa using p3⟩
                  · left
                    simpa using p1
                clear hcm
                rcases hcs with b1 | ⟨b1, b3⟩ | ⟨b1, b3, b4⟩ | ⟨b1, b3, b4, b5⟩
                all_goals
                  go_wp2
                  go_roundw
                  case rel => exact ⟨j + 1, by omega, by go_num, Lib.hid (by rw [HTR.out, HTC.out]; exact HQ.out.alloc _), below_new hBj _⟩
                  case measure => simp [intOf]; omega
          · obtain rfl : j = tr.length := by omega
            rw [List.take_length] at HQ
            obtain ⟨RL, hRL⟩ : ∃ RL, relL (k : Int) tr = RL := ⟨_, rfl⟩
            obtain ⟨CL, hCL⟩ : ∃ CL, comL (k : Int) la tr = CL := ⟨_, rfl⟩
            have hrb := rel_bound (i := (k : Int)) HE.out
            have hcb := com_bound (i := (k : Int)) (la := la) HE.out
            have hrl := rel_len (i := (k : Int)) HE.out
            have hcl := com_le (k : Int) la tr
            rw [hRL] at HQ hrb hrl
            rw [hCL] at HQ hcb hcl
            have HRL := Lib.hid hRL
            have HCL := Lib.hid hCL
            have HRB := Lib.hid hrb
            have HCB := Lib.hid hcb
            have hrlI : (RL.length : Int) ≤ 6300 := by omega
            have hclI : (CL.length : Int) ≤ 300 := by omega
            obtain ⟨Ar, cr, rfl⟩ := Kd.R_slice HQ.out.one
            obtain ⟨Ac, cc, rfl⟩ := Kd.R_slice HQ.out.two
            clear hRL hCL hrb hcb hrl hcl HDW
            go_wp2
            go_loopw [17, 18] (fun wv n w' => ∃ (nn : Nat) (mm : Int), nn ≤ CL.length ∧ n = .int .i64 nn ∧ wv = .int .i64 mm ∧ Hid ((respF RL (CL.take nn)).2 = some mm) ∧ Hid (Two w' w3.heap.size (.slice Ar RL.length cr) (.slice Ac CL.length cc) RL CL) ∧ Hid (Below w3.heap.size w3 w')) (fun _ n _ => CL.length - (intOf n).toNat)
            case atStart => exact ⟨0, 0, Nat.zero_le _, rfl, rfl, Lib.hid rfl, HQ, Lib.hid hBj⟩
            case round =>
              obtain ⟨n, mm, hn, rfl, rfl, HMM, HQn, HBn⟩ := hrel
              by_cases hnl : n < CL.length
              · have HST := Lib.hid (resp_step (rel := RL) hnl HMM.out)
                have hfail : (respF RL (CL.take (n + 1))).2 = none → mo t l tr = (14, []) := fun hF => mo_none HC0.out (meas_fail2 (n := n + 1) (la := la) HLT.out (by rw [HY.out]; exact HLA.out) (by rw [HRL.out, HCL.out]; exact hF))
                have HFA := Lib.hid hfail
                have hn0 : (0 : Int) ≤ (n : Int) := by omega
                have hn1 : (n : Int) < (CL.length : Int) := by omega
                obtain ⟨ac, rfl, ec⟩ := Kd.at_int (Kd.R_reads' HQn.out.two).2.2 (n : Int) (by omega) (by omega)
                have ec' : wr.cell? (ac.add n) = some (.int .i64 (CL.getD n 0)) := by simpa [rd] using ec
                have hcv := HCB.out _ (getD_mem hnl)
                clear hfail ec
                by_cases q1 : RL.length ≤ n
                · rw [if_neg (by omega)] at HST
                  have HMO := Lib.hid (HFA.out HST.out)
                  have d1 : decide ((RL.length : Int) ≤ (n : Int)) = true := by simp; omega
                  have d2 : decide (RL.length ≤ n) = true := by simp; omega
                  clear q1
                  go_wp2
                  go_quiet (fail)
                  go_wp2
                  go_ret2
                  exact ⟨_, by rw [HMO.out]; rfl, by rw [HMO.out]; exact Kd.R_nil _ _ _ _ _, below_then HB3.out HB3.out.size (by first | exact pw_below_drewN HBn.out _ | exact HBn.out)⟩
                · have hlt2 : n < RL.length := by omega
                  have d1 : decide ((RL.length : Int) ≤ (n : Int)) = false := by simp; omega
                  have d2 : decide (RL.length ≤ n) = false := by simp; omega
                  have hn2 : (n : Int) < (RL.length : Int) := by omega
                  obtain ⟨ar, rfl, er⟩ := Kd.at_int (Kd.R_reads' HQn.out.one).2.2 (n : Int) (by omega) (by omega)
                  have er' : wr.cell? (ar.add n) = some (.int .i64 (RL.getD n 0)) := by simpa [rd] using er
                  have hrv := HRB.out _ (getD_mem hlt2)
                  generalize RL.getD n 0 = rv at er' hrv HST
                  generalize CL.getD n 0 = cv at ec' hcv HST
                  obtain ⟨rv0, rv1⟩ := hrv
                  obtain ⟨cv0, cv1⟩ := hcv
                  clear er q1
                  by_cases q2 : cv < rv
                  · rw [if_neg (by omega)] at HST
                    have HMO := Lib.hid (HFA.out HST.out)
                    have d3 : decide (cv < rv) = true := by simpa using q2
                    clear q2
                    go_wp2
                    go_quiet (fail)
                    go_wp2
                    go_ret2
                    exact ⟨_, by rw [HMO.out]; rfl, by rw [HMO.out]; exact Kd.R_nil _ _ _ _ _, below_then HB3.out HB3.out.size (by first | exact pw_below_drewN HBn.out _ | exact HBn.out)⟩
                  · rw [if_pos ⟨hlt2, q2⟩] at HST
                    have d3 : decide (cv < rv) = false := by simpa using q2
                    have hw1 : IntKind.i64.wrap (cv - rv) = cv - rv := IntWalk.i64_in _ (by omega)
                    have hw2 : IntKind.i64.wrap (cv - rv + 1) = cv - rv + 1 := IntWalk.i64_in _ (by omega)
                    have HMX : Hid (mx2 mm (cv - rv + 1) = if mm < cv - rv + 1 then cv - rv + 1 else mm) := Lib.hid rfl
                    have hq2 : rv ≤ cv := by omega
                    clear q2
                    go_wp2
                    go_quiet (fail)
                    go_wp2
                    go_quiet (fail)
                    by_cases q3 : mm < cv - rv + 1
                    · rw [if_pos q3] at HMX
                      rw [HMX.out] at HST
                      have d4 : decide (mm < cv - rv + 1) = true := by simpa using q3
                      go_wp2
                      go_roundw
                      case rel => exact ⟨n + 1, _, by omega, by go_num, rfl, HST, Lib.hid (HQn.out.below (pw_below_drewN (Below.refl _ wr) _)), Lib.hid (pw_below_drewN HBn.out _)⟩
                      case measure => simp [intOf]; omega
                    · rw [if_neg q3] at HMX
                      rw [HMX.out] at HST
                      have d4 : decide (mm < cv - rv + 1) = false := by simpa using q3
                      go_wp2
                      go_roundw
                      case rel => exact ⟨n + 1, _, by omega, by go_num, rfl, HST, Lib.hid (HQn.out.below (pw_below_drewN (Below.refl _ wr) _)), Lib.hid (pw_below_drewN HBn.out _)⟩
                      case measure => simp [intOf]; omega
              · obtain rfl : n = CL.length := by omega
                rw [List.take_length] at HMM
                have HN := Lib.hid (meas_next2 (la := la) (by rw [HY.out]; exact HLA.out) HM.out (by rw [HRL.out, HCL.out]; exact HMM.out))
                have hml := measK_len HM.out
                have HBw := below_then HB3.out HB3.out.size HBn.out
                have HRn := Lib.hid (Kd.R_below HR3.out HBn.out)
                go_wp2_with (first
                  | (at_builtin; refine Kd.R_append (Kd.int .i64) (w0 := w) (W := wr) w.heap.size rfl (.tmp 134) (.tmp 136) 51 2 _ 8 rfl Try.underlying51 info2 rfl (by decide) (by decide) _ ms mm [.int .i64 mm] (fun _ => True) (fun _ => False) rfl rfl rfl (fun _ h => h.elim) (fun _ _ => trivial) HRn.out HBw HBw.size (by omega) ?_; intro v6 w6 hR6 hB6 hg6 hx6; have HR6 := Lib.hid hR6; have HB6 := Lib.hid hB6; clear hR6 hB6 hg6 hx6)
                  | fail)
                go_roundw
                case rel => exact ⟨k + 1, by have := HLT.out; omega, by go_num, ⟨ms ++ [mm], HN, HR6⟩, HB6⟩
                case measure => simp [intOf]; omega
      · obtain rfl : k = l.length := by omega
        have HMO := Lib.hid (mo_some HC0.out HM.out)
        go_wp2
        go_ret2
        exact ⟨_, by rw [HMO.out]; rfl, by rw [HMO.out]; exact HR.out, HB.out⟩
  · have HMO := Lib.hid (mo_chk (t := t) (l := l) (tr := tr) h0)
    have h1 : (chkI t l == 0) = false := by simpa using h0
    have h2 : (chkI t l != 0) = true := by simpa using h0
    clear h0
    go_wp2
    go_ret2
    exact ⟨_, by rw [HMO.out]; rfl, by rw [HMO.out]; exact Kd.R_nil _ _ _ _ _, HB1.out⟩

theorem info86 : (Try.prog.info? 86).map (fun i => (i.zero, i.size, i.bytes)) = some (some (.agg #[.int .i64 0, .int .i64 0, .int .i64 0, .int .i64 0, .int .i64 0, .int .i64 0]), 6, 48) := by kernel_rfl
set_option maxRecDepth 100000 in
set_option maxHeartbeats 400000 in
theorem fromEvents_any (A : Option Addr) (c : Nat) (l : List S33) (h20 : l.length ≤ 300) (w : World) (hC : Kd.C k33 w A l.length l) :
    Calls Try.prog 23 #[.slice A l.length c] w fun e w' => ∃ v, e = .returned v ∧ Kd.R k33 86 w' w.heap.size (fun _ => True) v l ∧ Below w.heap.size w w' := by
  have HC := Lib.hid hC
  have hlen : (l.length : Int) ≤ 300 := by omega
  clear hC
  go_enter Try.func23, Try.ntmps23
  go_wp2
  go_loopw [3, 4] (fun r i wr => ∃ k : Nat, k ≤ l.length ∧ i = .int .i64 k ∧ Hid (Kd.R k33 86 wr w.heap.size (fun _ => True) r (l.take k)) ∧ Below w.heap.size w wr) (fun _ i _ => l.length - (intOf i).toNat)
  case atStart => exact ⟨0, Nat.zero_le _, rfl, Lib.hid (Kd.R_nil _ _ _ _ _), Below.refl _ _⟩
  case round =>
    obtain ⟨k, hk, rfl, HR, hBr⟩ := hrel
    by_cases hlt : k < l.length
    · obtain ⟨ad, rfl, lk, -⟩ := tasks_at HC.out k hlt
      have hi0 : (0 : Int) ≤ (k : Int) := by omega
      have hi1 : (k : Int) < (l.length : Int) := by omega
      have HTS : Hid (l.take (k + 1) = l.take k ++ [tk l k]) := Lib.hid (by rw [List.take_add_one, tk_get hlt]; rfl)
      have HLK : Hid ((l.take k).length = k) := Lib.hid (by rw [List.length_take]; omega)
      generalize tk l k = x at lk HTS
      go_wp2_with (at_builtin; refine Kd.R_append k33 (w0 := w) (W := wr) w.heap.size rfl (.tmp 11) (.tmp 16) 55 86 _ 48 rfl Try.underlying55 info86 rfl (by decide) (by decide) _ (l.take k) x (tkCells x) (fun _ => True) (fun _ => False) rfl rfl (k33_mkM _ _ _ x) (fun _ h => h.elim) (fun _ _ => trivial) HR.out hBr hBr.size (by rw [HLK.out]; omega) ?_; intro v1 w1 hR1 hB1 _ _)
      have HR1 := Lib.hid hR1
      rw [← HTS.out] at HR1
      clear hR1
      go_roundw
      case rel => exact ⟨k + 1, by omega, by go_num, HR1, hB1⟩
      case measure => simp [intOf]; omega
    · obtain rfl : k = l.length := by omega
      go_wp2
      go_ret
      exact ⟨_, rfl, by have := HR.out; rwa [List.take_length] at this, hBr⟩
end Go.Proofs.Ytmbfnhnemhojjaa
