/- ResponseGrows: the walk of the law. -/
import Derived.Test.YtmbfnhnemhojjaaE3
import Derived.Deep.DeepCutAuto
namespace Go.Proofs.Ytmbfnhnemhojjaa
set_option linter.unusedVariables false
set_option linter.unusedSimpArgs false
open Go.RowKit Go.Proofs.YtmbfnhnemhojjaaW.PrintWords Go.Proofs.YtmbfnhnemhojjaaW.PrintLast Go.Proofs.YtmbfnhnemhojjaaW.PrintMore PResponseCosts FLib
attribute [local go_sem ↓] hold_cells hold_from hold_store24 hold_store36
attribute [local go_sem] below_alloc_T below_drew_T below_drewN_T run_box run_box2 run_box6 run_held24 run_held36'

theorem atI_zero {t : Tab} {l : List S33} {i : Nat} (h : chkI t l = 0) (hi : i < l.length) : atI t l (i : Int) = 0 := by
  rw [atI_eq, if_pos h, if_neg (by omega)]
theorem bndR_in {t : Tab} {l : List S33} {i : Nat} (h : chkI t l = 0) (hi : i < l.length) : bndR t l (i : Int) = bndT (bndN t l i) := by
  unfold bndR
  rw [if_pos (atI_zero h hi)]
  rfl
theorem grows1 {t : Tab} (ht : t.costs.length = 24) {l : List S33} (hs : Set t l) {i k : Nat} (hi : i < l.length) (hk : k < l.length) {r : Nat} (hr : bndN t l i = some r) :
    ∃ x y : Int, bndR t (l.set k { tk l k with f4 := (tk l k).f4 + 1 }) i = .tuple #[.int .i64 x, .int .i64 y] ∧ (y = 0 → (r : Int) ≤ x) := by
  by_cases h : chkI t (l.set k { tk l k with f4 := (tk l k).f4 + 1 }) = 0
  · rw [bndR_in h (by rw [List.length_set]; exact hi)]
    have hs' := chk_ok ht h
    cases hq : bndN t (l.set k { tk l k with f4 := (tk l k).f4 + 1 }) i with
    | none => exact ⟨0, 25, rfl, fun h => by cases h⟩
    | some s => exact ⟨s, 0, rfl, fun _ => by have := more_work hs hi hk hs' hr hq; omega⟩
  · refine ⟨0, chkI t (l.set k { tk l k with f4 := (tk l k).f4 + 1 }), ?_, fun h' => absurd h' h⟩
    have ha : atI t (l.set k { tk l k with f4 := (tk l k).f4 + 1 }) (i : Int) = chkI t (l.set k { tk l k with f4 := (tk l k).f4 + 1 }) := by rw [atI_eq, if_neg h]
    unfold bndR
    rw [ha, if_neg h]
theorem grows2 {t : Tab} {l : List S33} (hc : chkI t l = 0) (hs : Set t l) {i k : Nat} (hi : i < l.length) (hk : k < l.length) (hne : k ≠ i) (hp : (tk l k).f1 < 100000) {r : Nat} (hr : bndN t l i = some r) :
    ∃ x : Int, bndR t (l.set k { tk l k with f1 := (tk l k).f1 + 1 }) i = .tuple #[.int .i64 x, .int .i64 0] ∧ x ≤ (r : Int) := by
  obtain ⟨hs', s, h1, h2⟩ := longer hs hi hk hne hp hr
  have h := chk_of_set (chk_okT hc) hs'.tasks hs'.pos hs'.le
  rw [bndR_in h (by rw [List.length_set]; exact hi), h1]
  exact ⟨s, rfl, by omega⟩
theorem grows3 {t : Tab} {x : S33} (hc : okT t = true) (ht : TOk t) (hx : TkOk x) : costR t x = .tuple #[.int .i64 (jobI t x), .int .i64 0] ∧ bndR t [x] 0 = .tuple #[.int .i64 (jobI t x + t.sec), .int .i64 0] := by
  have h : chkI t [x] = 0 := chk_of_set hc (fun y hy => by rw [List.mem_singleton.1 hy]; exact hx) (by simp) (by simp)
  have hj := job_le ht hx
  have hsec := ht.sec
  refine ⟨by unfold costR; rw [if_pos h], ?_⟩
  have := bndR_in (i := 0) h (by simp)
  rw [alone ht hx] at this
  simp only [Int.ofNat_zero, Int.cast_ofNat_Int] at this
  rw [this]
  unfold bndT
  simp only
  rw [Int.toNat_of_nonneg (by omega)]
theorem set_back {l : List S33} {k : Nat} (hk : k < l.length) (y : S33) : (l.set k y).set k (tk l k) = l := by
  rw [List.set_set]
  apply List.ext_getElem?
  intro j
  rw [List.getElem?_set]
  by_cases h : k = j
  · subst h; rw [if_pos rfl, if_pos hk, tk_get hk]
  · rw [if_neg h]
/-- One field of a task is written. -/
theorem R_field {W : World} {base g n cap : Nat} {ok : Nat → Prop} {l : List S33} (h : Kd.R k33 33 W base ok (.slice (some ⟨g, 0, none⟩) n cap) l) {k : Nat} (hk : k < l.length) (j : Nat) (u : Int) (y : S33) (hj : j < 6) (hy : tkCells y = (tkCells (tk l k)).set j (.int .i64 u)) :
    Kd.R k33 33 (W.setCell ⟨g, k * 6 + j, none⟩ (.int .i64 u)) base ok (.slice (some ⟨g, 0, none⟩) n cap) (l.set k y) := by
  obtain ⟨hn, -, -⟩ := Kd.R_reads' h
  obtain ⟨c, hcs, hM, hcc, hfr⟩ := Kd.R_elem h z33 (k : Int) (by omega) (by omega)
  obtain rfl := k33_openM hM
  have e0 : l.getD k z33 = tk l k := rfl
  simp only [Int.toNat_natCast, e0] at hcc
  have h2 := Kd.R_seg h (k : Int) (by omega) (by omega) (seg := [.int .i64 u]) (j := j) (okp := fun _ => False) (x' := y) (c := tkCells (tk l k)) rfl (fun j u hu => hcc j u hu) (by simp only [List.length_singleton, show k33.sz = 6 from rfl]; omega) (by
    have : (tkCells (tk l k)).take j ++ [Value.int .i64 u] ++ (tkCells (tk l k)).drop (j + [Value.int .i64 u].length) = tkCells y := by
      rw [hy, List.set_eq_take_append_cons_drop, if_pos (by simpa [tkCells] using hj)]
      simp
    rw [this]
    exact k33_mkM _ _ _ y) (fun _ h => h.elim)
  exact h2.1

theorem R_two {W : World} {base g n cap : Nat} {ok : Nat → Prop} {l : List S33} (h : Kd.R k33 33 W base ok (.slice (some ⟨g, 0, none⟩) n cap) l) {k : Nat} (hk : k < l.length) :
    W.cell? ⟨g, k * 6 + 4, none⟩ = some (.int .i64 (tk l k).f4) ∧ W.cell? ⟨g, k * 6 + 1, none⟩ = some (.int .i64 (tk l k).f1) ∧ W.frozen? ⟨g, k * 6 + 4, none⟩ = false ∧ W.frozen? ⟨g, k * 6 + 1, none⟩ = false := by
  obtain ⟨hn, -, -⟩ := Kd.R_reads' h
  obtain ⟨c, hcs, hM, hcc, hfr⟩ := Kd.R_elem h z33 (k : Int) (by omega) (by omega)
  obtain rfl := k33_openM hM
  exact ⟨hcc 4 _ rfl, hcc 1 _ rfl, hfr 4, hfr 1⟩
theorem C_one {W : World} {ad : Addr} {l : List S33} (h : Kd.C k33 W (some ad) l.length l) {i : Nat} (hi : i < l.length) : Kd.C k33 W (some (ad.add (i * 6))) 1 [tk l i] := by
  have h1 := Kd.C_drop h (m := i) (c := l.length + 1) (by omega) (by omega)
  have h2 := Kd.C_take h1 (m := 1) (by rw [List.length_drop]; omega)
  have e : (l.drop i).take 1 = [tk l i] := by
    rw [List.drop_eq_getElem_cons hi, List.take_succ_cons, List.take_zero]
    have := tk_get hi
    rw [List.getElem?_eq_getElem hi] at this
    injection this with this
    rw [this]
  rw [e, if_neg (by omega)] at h2
  exact h2
theorem below_set_T {W w : World} {g i : Nat} (v : Value) (hg : W.heap.size ≤ g) (h : Below W.heap.size W w) : Below W.heap.size W (w.setCell ⟨g, i, none⟩ v) = True := eq_true (h.setCell hg v)
set_option maxRecDepth 100000 in
set_option maxHeartbeats 8000000 in
theorem grows_law (t : Tab) (ht : t.costs.length = 24) (A : Option Addr) (n c : Nat) (l : List S33) (a b : Nat) (ha : a ≤ 255) (hb : b ≤ 255) (w : World) (hC : Kd.C k33 w A n l) (hcap : n ≤ c) :
    Calls Try.prog 3 #[tabV t, .slice A n c, .agg #[.int .u8 a, .int .u8 b]] w fun e w' => e = .returned (.bool true) ∧ Below w.heap.size w w' := by
  obtain rfl := Kd.C_len hC
  have HC := Lib.hid hC
  have H8 := Lib.hid (fun w hC => check_any t ht A c l w hC)
  have H10 := Lib.hid (fun A c l i w hC => Bound_any t ht A c l i w hC)
  have H11 := Lib.hid (fun x w => Cost_any t ht x w)
  have HTC := Lib.hid (tabC' ht)
  have HG1 := Lib.hid (fun hs i k hi hk r hr => grows1 (l := l) ht hs (i := i) (k := k) hi hk (r := r) hr)
  have HOK := Lib.hid (fun h => chk_ok (l := l) ht h)
  unfold tabV at H8 H10 H11 ⊢
  generalize (tabCells t).toArray = cs at H8 H10 H11 HTC ⊢
  have hsz := HTC.out.size
  have hone : One cs := HTC.out.one
  clear ht hC
  have hm := Kd.C_max HC.out
  by_cases h12 : 12 < l.length
  · have h : (12 : Int) < (l.length : Int) := by omega
    clear h12
    go_enter Try.func3, Try.ntmps3
    go_wp2_with (go_at_call 9; refine (awake_any _).mono ?_; rintro e w1 ⟨rfl, hb1⟩)
    go_ret
    exact ⟨rfl, below_then (below_alloc (below_alloc (Below.refl _ _) _) _) (by simp; omega) hb1⟩
  have h : ¬ (12 : Int) < (l.length : Int) := by omega
  have d1 : decide ((12 : Int) < (l.length : Int)) = false := by simpa using h
  have hlen : (l.length : Int) ≤ 12 := by omega
  clear h12
  go_enter Try.func3, Try.ntmps3
  go_wp2_with fail
  clear d1 h
  have hb0 : Below w.heap.size w ((w.alloc (.cells cs 24)).alloc (.cells #[.int .u8 a, .int .u8 b] 26)) := below_alloc (below_alloc (Below.refl _ _) _) _
  have hq0 : ((w.alloc (.cells cs 24)).alloc (.cells #[.int .u8 a, .int .u8 b] 26)).heap[w.heap.size]? = some (.cells cs 24 (0, 0)) := blk_alloc (blk_new _ _) _
  have hq1 : ((w.alloc (.cells cs 24)).alloc (.cells #[.int .u8 a, .int .u8 b] 26)).heap[w.heap.size + 1]? = some (.cells #[.int .u8 a, .int .u8 b] 26 (0, 0)) := by simpa using blk_new (w.alloc (.cells cs 24)) (.cells #[.int .u8 a, .int .u8 b] 26)
  have HCW := Lib.hid (Kd.C_below HC.out hb0)
  have HB0 := Lib.hid hb0
  clear hb0
  generalize (w.alloc (.cells cs 24)).alloc (.cells #[.int .u8 a, .int .u8 b] 26) = W at hq0 hq1 HCW HB0 ⊢
  generalize w.heap.size + 1 = q1 at hq1 ⊢
  generalize w.heap.size = q at hq0 ⊢
  have l0 := later_whole (P := Try.prog) (n := 26) hq0 hsz
  have lsec := later_cell (v := .int .i64 t.sec) ((blk_cell hq0 0).trans HTC.out.sec)
  have la := later_cell (v := .int .u8 a) (blk_cell hq1 0)
  have lb := later_cell (v := .int .u8 b) (blk_cell hq1 1)
  clear hq0 hq1
  refine (H8.out _ HCW.out).mono ?_
  rintro e w1 ⟨rfl, hB1⟩
  by_cases h0 : chkI t l = 0
  · have HSet := Lib.hid (HOK.out h0)
    have HC0 := Lib.hid h0
    rw [h0]
    clear h0
    have hpos : 0 < l.length := HSet.out.pos
    obtain ⟨i, hi⟩ : ∃ i, a % l.length = i := ⟨_, rfl⟩
    obtain ⟨k, hk⟩ : ∃ k, b % l.length = k := ⟨_, rfl⟩
    have hil : i < l.length := by rw [← hi]; exact Nat.mod_lt _ hpos
    have hkl : k < l.length := by rw [← hk]; exact Nat.mod_lt _ hpos
    have ea : (a : Int) % (l.length : Int) = (i : Int) := by rw [← hi]; simp
    have eb : (b : Int) % (l.length : Int) = (k : Int) := by rw [← hk]; simp
    have en : ¬ (l.length : Int) = 0 := by omega
    have ew1 : IntKind.i64.wrap (a : Int) = (a : Int) := IntWalk.i64_in _ (by omega)
    have ew2 : IntKind.i64.wrap (b : Int) = (b : Int) := IntWalk.i64_in _ (by omega)
    have ea' : (a : Int).tmod (l.length : Int) = (i : Int) := by rw [Int.tmod_eq_emod_of_nonneg (by omega)]; exact ea
    have eb' : (b : Int).tmod (l.length : Int) = (k : Int) := by rw [Int.tmod_eq_emod_of_nonneg (by omega)]; exact eb
    clear hi hk
    go_wp2
    go_quiet (fail)
    clear ea eb en ew1 ew2 ea' eb'
    refine abs_e (fun w' => Below W.heap.size W w') (pw_below_drewN hB1 _) ?_
    clear hB1
    rintro w2 hB2
    clear la lb
    have hi0 : (0 : Int) ≤ (i : Int) := by omega
    have hi1 : (i : Int) < (l.length : Int) := by omega
    have hk0 : (0 : Int) ≤ (k : Int) := by omega
    have hk1 : (k : Int) < (l.length : Int) := by omega
    have HIL := Lib.hid hil
    have HKL := Lib.hid hkl
    go_wp2_with fail
    refine (H10.out A c l _ _ (Kd.C_below HCW.out hB2)).mono ?_
    rintro e w3 ⟨rfl, hb3⟩
    have hB3 := below_step hB2 hb3
    rw [bndR_in HC0.out hil]
    clear hB2 hb3
    cases hbn : bndN t l i with
    | none =>
      clear hbn
      unfold bndT
      dsimp only
      go_wp2_with (go_at_call 9; refine (awake_any _).mono ?_; rintro e w4 ⟨rfl, hb4⟩)
      go_ret
      exact ⟨rfl, below_then HB0.out HB0.out.size (below_step hB3 hb4)⟩
    | some r =>
      have HBN := Lib.hid hbn
      clear hbn
      unfold bndT
      dsimp only
      obtain ⟨x1, y1, h1, h1'⟩ := HG1.out HSet.out i k hil hkl r HBN.out
      have hg2 := fun hne hp => grows2 HC0.out HSet.out hil hkl hne hp HBN.out
      obtain ⟨ri, hri⟩ : ∃ x : Int, (r : Int) = x := ⟨_, rfl⟩
      simp only [hri] at h1' hg2 ⊢
      clear hri
      have hb1 := fun A c w hC => H10.out A c (l.set k { tk l k with f4 := (tk l k).f4 + 1 }) i w hC
      rw [h1, List.length_set] at hb1
      have HB1 := Lib.hid hb1
      clear hb1
      have HG2 := Lib.hid hg2
      clear hg2
      have HX := Lib.hid (HSet.out.tasks _ (tk_mem hil))
      have HXK := Lib.hid (HSet.out.tasks _ (tk_mem hkl))
      have H11X := Lib.hid (H11.out (tk l i))
      have H10X := Lib.hid (fun A c w hC => H10.out A c [tk l i] 0 w hC)
      obtain ⟨hc3, hb3⟩ := grows3 (chk_okT HC0.out) HSet.out.tab HX.out
      rw [hc3] at H11X
      rw [hb3] at H10X
      have HSec := Lib.hid HSet.out.tab.sec
      have HJ := Lib.hid (job_le HSet.out.tab HX.out)
      have H1' := Lib.hid h1'
      clear h1 h1' hc3 hb3
      obtain ⟨ad, rfl, li, -⟩ := tasks_at HCW.out i hil
      have hci : (i : Int) + 1 ≤ (c : Int) := by omega
      have hcl : (l.length : Int) ≤ (c : Int) := by omega
      have hc0 : ¬ c = i := by omega
      have HCI : Hid (∀ w', Below W.heap.size W w' → Kd.C k33 w' (some (ad.add (i * 6))) 1 [tk l i]) := Lib.hid (fun w' hw => C_one (Kd.C_below HCW.out hw) hil)
      unfold tkV at H11X
      have HB3 := Lib.hid (below_new hB3 (.cells #[] 33))
      have HR0 := Lib.hid (R_empty k33 33 W.heap.size w3 hB3.size)
      go_upto_region 7 with (fail)
      go_upto_region 8 with (at_builtin; refine Kd.R_append_rows k33 (w0 := W) (Rr := fun x cs => cs = tkCells x) W.heap.size rfl (.tmp 51) (.tmp 52) 25 33 _ 48 rfl Try.underlying25 info33 rfl (by decide) (by decide) (.slice (some ⟨w3.heap.size, 0, none⟩) 0 0) [] l (some ad) l.length c (fun _ => True) (fun _ => False) rfl rfl HR0.out (tk_rows (Kd.C_below HCW.out HB3.out)) (fun x cs hx => by subst hx; exact k33_mkM _ _ _ x) (fun _ h => h.elim) (fun _ _ => trivial) HB3.out HB3.out.size (by simp; omega) ?_; intro v4 w4 hR4 hB4 hx1 hx2; clear hx1 hx2; rw [List.nil_append] at hR4; obtain ⟨g, cc, rfl, hgW, -⟩ := Kd.R_form hR4 HSet.out.pos; have HR4 := Lib.hid hR4; clear hR4 hB3)
      have h41 : 1 ≤ (tk l k).f4 ∧ (tk l k).f4 ≤ 1000 := HXK.out.f4
      have h11 : 1 ≤ (tk l k).f1 ∧ (tk l k).f1 ≤ 100000 := HXK.out.f1
      obtain ⟨h4a, h4b⟩ := h41
      obtain ⟨h1a, h1b⟩ := h11
      obtain ⟨c4, c1, f4, f1⟩ := R_two HR4.out HKL.out
      by_cases hw : (tk l k).f4 < 1000
      · go_upto_region 10 with (fail)
        refine abs_w (fun w' => Below W.heap.size W w' ∧ Kd.R k33 33 w' W.heap.size (fun _ => True) (.slice (some ⟨g, 0, none⟩) l.length cc) (l.set k { tk l k with f4 := (tk l k).f4 + 1 })) ⟨hB4.setCell hgW _, R_field HR4.out HKL.out 4 _ _ (by omega) rfl⟩ ?_
        clear c4 c1 f4 f1 hB4 HR4
        rintro w5 ⟨hB5, hR5⟩
        have HR5 := Lib.hid hR5
        have hC5 := (Kd.R_reads' hR5).2.2
        rw [List.length_set] at hC5
        have HC5 := Lib.hid hC5
        clear hR5 hC5
        go_wp2_with fail
        refine (HB1.out (some ⟨g, 0, none⟩) cc _ HC5.out).mono ?_
        rintro e w6 ⟨rfl, hb6⟩
        have hB6 := below_step hB5 hb6
        have HR6 := Lib.hid (Kd.R_below HR5.out hb6)
        obtain ⟨c4, c1, f4, f1⟩ := R_two HR6.out (show k < (l.set k { tk l k with f4 := (tk l k).f4 + 1 }).length by rw [List.length_set]; exact HKL.out)
        rw [tk_set HKL.out, if_pos rfl] at c4 c1
        have hbk := R_field HR6.out (show k < (l.set k { tk l k with f4 := (tk l k).f4 + 1 }).length by rw [List.length_set]; exact HKL.out) 4 ((tk l k).f4) (tk l k) (by omega) (by rw [tk_set HKL.out, if_pos rfl]; rfl)
        rw [set_back HKL.out] at hbk
        have HBK := Lib.hid hbk
        clear hB5 hb6 HR5 HC5 hbk
        by_cases hy : y1 = 0
        · have hx : ¬ x1 < ri := by have := H1'.out hy; omega
          have hd : decide (x1 < ri) = false := by simpa using hx
          subst hy
          go_upto_region 14 with (fail)
          refine abs_w (fun w' => Below W.heap.size W w' ∧ Kd.R k33 33 w' W.heap.size (fun _ => True) (.slice (some ⟨g, 0, none⟩) l.length cc) l) ⟨hB6.setCell hgW _, HBK.out⟩ ?_
          clear c4 c1 f4 f1 hB6 HR6 HBK hx hd
          rintro w7 ⟨hB7, hR7⟩
          obtain ⟨-, c1, -, f1⟩ := R_two hR7 HKL.out
          have HR7 := Lib.hid hR7
          clear hR7
          by_cases hki : k = i
          · have hd : ((k : Int) != (i : Int)) = false := by simp; omega
            go_upto_region 19 with (fail)
            have hB9 := hB7
            clear hB7 c1 f1 hd HR7
            refine abs_w (fun w' => Below W.heap.size W w') hB9 ?_
            clear hB9
            rintro w9 hB9
            go_region_held3 (fun w' => Below W.heap.size W w') (first | assumption | exact below_step (by assumption) (below_drew (Below.refl _ _)) | exact below_step (by assumption) hb1)
              (first | (go_at_call 11; refine (H11X.out _).mono ?_; rintro e w10 ⟨rfl, hb1⟩))
            refine abs_e (fun w' => Below W.heap.size W w') (by assumption) ?_
            clear hb1 hB9
            rintro w10 hB10
            go_wp2
            have z1 : IntKind.i64.wrap ((i : Int) + 1) = (i : Int) + 1 := IntWalk.i64_in _ (by omega)
            have z2 : (0 : Int) ≤ (i : Int) + 1 := by omega
            have z3 : ((i : Int) + 1).toNat = i + 1 := by omega
            have z4 : (i : Int) ≤ (i : Int) + 1 := by omega
            have z5 : i + 1 - i = 1 := by omega
            go_region_held3 (fun w' => Below W.heap.size W w') (first | assumption | exact below_step (by assumption) (below_drew (Below.refl _ _)) | exact below_step (by assumption) hb1)
              (first | (go_at_call 10; refine (H10X.out _ _ _ (HCI.out _ (by assumption))).mono ?_; rintro e w11 ⟨rfl, hb1⟩))
            refine abs_e (fun w' => Below W.heap.size W w') (by assumption) ?_
            clear hb1 hB10
            rintro w11 hB11
            clear z1 z2 z3 z4 z5
            obtain ⟨j0, j1⟩ := HJ.out
            obtain ⟨s0, s1⟩ := HSec.out
            go_wp2_with (go_at_call 9; refine (awake_any _).mono ?_; rintro e w12 ⟨rfl, hb12⟩)
            go_ret
            exact ⟨rfl, below_then HB0.out HB0.out.size (below_step hB11 hb12)⟩
          · have hd : ((k : Int) != (i : Int)) = true := by simp; omega
            by_cases hpf : (tk l k).f1 < 100000
            · have hd2 : decide ((tk l k).f1 < 100000) = true := by simpa using hpf
              obtain ⟨x2, h2, h2'⟩ := HG2.out hki hpf
              have hb2 := fun A c w hC => H10.out A c (l.set k { tk l k with f1 := (tk l k).f1 + 1 }) i w hC
              rw [h2, List.length_set] at hb2
              have HB2 := Lib.hid hb2
              have hd3 : decide (ri < x2) = false := by simp; omega
              clear hb2 h2 h2'
              go_upto_region 16 with (fail)
              refine abs_w (fun w' => Below W.heap.size W w' ∧ Kd.C k33 w' (some ⟨g, 0, none⟩) l.length (l.set k { tk l k with f1 := (tk l k).f1 + 1 })) ⟨hB7.setCell hgW _, by have h := (Kd.R_reads' (R_field HR7.out HKL.out 1 _ { tk l k with f1 := (tk l k).f1 + 1 } (by omega) rfl)).2.2; rwa [List.length_set] at h⟩ ?_
              clear c1 f1 hB7 HR7 hd hd2
              rintro w8 ⟨hB8, hC8⟩
              have HC8 := Lib.hid hC8
              clear hC8
              go_wp2_with fail
              refine (HB2.out (some ⟨g, 0, none⟩) cc _ HC8.out).mono ?_
              rintro e w8' ⟨rfl, hb8⟩
              have hB9 := below_step hB8 hb8
              clear hB8 hb8 HC8 HB2
              go_upto_region 19 with (fail)
              clear hd3
              refine abs_w (fun w' => Below W.heap.size W w') hB9 ?_
              clear hB9
              rintro w9 hB9
              go_region_held3 (fun w' => Below W.heap.size W w') (first | assumption | exact below_step (by assumption) (below_drew (Below.refl _ _)) | exact below_step (by assumption) hb1)
                (first | (go_at_call 11; refine (H11X.out _).mono ?_; rintro e w10 ⟨rfl, hb1⟩))
              refine abs_e (fun w' => Below W.heap.size W w') (by assumption) ?_
              clear hb1 hB9
              rintro w10 hB10
              go_wp2
              have z1 : IntKind.i64.wrap ((i : Int) + 1) = (i : Int) + 1 := IntWalk.i64_in _ (by omega)
              have z2 : (0 : Int) ≤ (i : Int) + 1 := by omega
              have z3 : ((i : Int) + 1).toNat = i + 1 := by omega
              have z4 : (i : Int) ≤ (i : Int) + 1 := by omega
              have z5 : i + 1 - i = 1 := by omega
              go_region_held3 (fun w' => Below W.heap.size W w') (first | assumption | exact below_step (by assumption) (below_drew (Below.refl _ _)) | exact below_step (by assumption) hb1)
                (first | (go_at_call 10; refine (H10X.out _ _ _ (HCI.out _ (by assumption))).mono ?_; rintro e w11 ⟨rfl, hb1⟩))
              refine abs_e (fun w' => Below W.heap.size W w') (by assumption) ?_
              clear hb1 hB10
              rintro w11 hB11
              clear z1 z2 z3 z4 z5
              obtain ⟨j0, j1⟩ := HJ.out
              obtain ⟨s0, s1⟩ := HSec.out
              go_wp2_with (go_at_call 9; refine (awake_any _).mono ?_; rintro e w12 ⟨rfl, hb12⟩)
              go_ret
              exact ⟨rfl, below_then HB0.out HB0.out.size (below_step hB11 hb12)⟩
            · have hd2 : decide ((tk l k).f1 < 100000) = false := by simpa using hpf
              go_upto_region 19 with (fail)
              have hB9 := hB7
              clear hB7 c1 f1 hd hd2 HR7
              refine abs_w (fun w' => Below W.heap.size W w') hB9 ?_
              clear hB9
              rintro w9 hB9
              go_region_held3 (fun w' => Below W.heap.size W w') (first | assumption | exact below_step (by assumption) (below_drew (Below.refl _ _)) | exact below_step (by assumption) hb1)
                (first | (go_at_call 11; refine (H11X.out _).mono ?_; rintro e w10 ⟨rfl, hb1⟩))
              refine abs_e (fun w' => Below W.heap.size W w') (by assumption) ?_
              clear hb1 hB9
              rintro w10 hB10
              go_wp2
              have z1 : IntKind.i64.wrap ((i : Int) + 1) = (i : Int) + 1 := IntWalk.i64_in _ (by omega)
              have z2 : (0 : Int) ≤ (i : Int) + 1 := by omega
              have z3 : ((i : Int) + 1).toNat = i + 1 := by omega
              have z4 : (i : Int) ≤ (i : Int) + 1 := by omega
              have z5 : i + 1 - i = 1 := by omega
              go_region_held3 (fun w' => Below W.heap.size W w') (first | assumption | exact below_step (by assumption) (below_drew (Below.refl _ _)) | exact below_step (by assumption) hb1)
                (first | (go_at_call 10; refine (H10X.out _ _ _ (HCI.out _ (by assumption))).mono ?_; rintro e w11 ⟨rfl, hb1⟩))
              refine abs_e (fun w' => Below W.heap.size W w') (by assumption) ?_
              clear hb1 hB10
              rintro w11 hB11
              clear z1 z2 z3 z4 z5
              obtain ⟨j0, j1⟩ := HJ.out
              obtain ⟨s0, s1⟩ := HSec.out
              go_wp2_with (go_at_call 9; refine (awake_any _).mono ?_; rintro e w12 ⟨rfl, hb12⟩)
              go_ret
              exact ⟨rfl, below_then HB0.out HB0.out.size (below_step hB11 hb12)⟩
        · have hd : (y1 == 0) = false := by simpa using hy
          go_upto_region 14 with (fail)
          refine abs_w (fun w' => Below W.heap.size W w' ∧ Kd.R k33 33 w' W.heap.size (fun _ => True) (.slice (some ⟨g, 0, none⟩) l.length cc) l) ⟨hB6.setCell hgW _, HBK.out⟩ ?_
          clear c4 c1 f4 f1 hB6 HR6 HBK hd
          rintro w7 ⟨hB7, hR7⟩
          obtain ⟨-, c1, -, f1⟩ := R_two hR7 HKL.out
          have HR7 := Lib.hid hR7
          clear hR7
          by_cases hki : k = i
          · have hd : ((k : Int) != (i : Int)) = false := by simp; omega
            go_upto_region 19 with (fail)
            have hB9 := hB7
            clear hB7 c1 f1 hd HR7
            refine abs_w (fun w' => Below W.heap.size W w') hB9 ?_
            clear hB9
            rintro w9 hB9
            go_region_held3 (fun w' => Below W.heap.size W w') (first | assumption | exact below_step (by assumption) (below_drew (Below.refl _ _)) | exact below_step (by assumption) hb1)
              (first | (go_at_call 11; refine (H11X.out _).mono ?_; rintro e w10 ⟨rfl, hb1⟩))
            refine abs_e (fun w' => Below W.heap.size W w') (by assumption) ?_
            clear hb1 hB9
            rintro w10 hB10
            go_wp2
            have z1 : IntKind.i64.wrap ((i : Int) + 1) = (i : Int) + 1 := IntWalk.i64_in _ (by omega)
            have z2 : (0 : Int) ≤ (i : Int) + 1 := by omega
            have z3 : ((i : Int) + 1).toNat = i + 1 := by omega
            have z4 : (i : Int) ≤ (i : Int) + 1 := by omega
            have z5 : i + 1 - i = 1 := by omega
            go_region_held3 (fun w' => Below W.heap.size W w') (first | assumption | exact below_step (by assumption) (below_drew (Below.refl _ _)) | exact below_step (by assumption) hb1)
              (first | (go_at_call 10; refine (H10X.out _ _ _ (HCI.out _ (by assumption))).mono ?_; rintro e w11 ⟨rfl, hb1⟩))
            refine abs_e (fun w' => Below W.heap.size W w') (by assumption) ?_
            clear hb1 hB10
            rintro w11 hB11
            clear z1 z2 z3 z4 z5
            obtain ⟨j0, j1⟩ := HJ.out
            obtain ⟨s0, s1⟩ := HSec.out
            go_wp2_with (go_at_call 9; refine (awake_any _).mono ?_; rintro e w12 ⟨rfl, hb12⟩)
            go_ret
            exact ⟨rfl, below_then HB0.out HB0.out.size (below_step hB11 hb12)⟩
          · have hd : ((k : Int) != (i : Int)) = true := by simp; omega
            by_cases hpf : (tk l k).f1 < 100000
            · have hd2 : decide ((tk l k).f1 < 100000) = true := by simpa using hpf
              obtain ⟨x2, h2, h2'⟩ := HG2.out hki hpf
              have hb2 := fun A c w hC => H10.out A c (l.set k { tk l k with f1 := (tk l k).f1 + 1 }) i w hC
              rw [h2, List.length_set] at hb2
              have HB2 := Lib.hid hb2
              have hd3 : decide (ri < x2) = false := by simp; omega
              clear hb2 h2 h2'
              go_upto_region 16 with (fail)
              refine abs_w (fun w' => Below W.heap.size W w' ∧ Kd.C k33 w' (some ⟨g, 0, none⟩) l.length (l.set k { tk l k with f1 := (tk l k).f1 + 1 })) ⟨hB7.setCell hgW _, by have h := (Kd.R_reads' (R_field HR7.out HKL.out 1 _ { tk l k with f1 := (tk l k).f1 + 1 } (by omega) rfl)).2.2; rwa [List.length_set] at h⟩ ?_
              clear c1 f1 hB7 HR7 hd hd2
              rintro w8 ⟨hB8, hC8⟩
              have HC8 := Lib.hid hC8
              clear hC8
              go_wp2_with fail
              refine (HB2.out (some ⟨g, 0, none⟩) cc _ HC8.out).mono ?_
              rintro e w8' ⟨rfl, hb8⟩
              have hB9 := below_step hB8 hb8
              clear hB8 hb8 HC8 HB2
              go_upto_region 19 with (fail)
              clear hd3
              refine abs_w (fun w' => Below W.heap.size W w') hB9 ?_
              clear hB9
              rintro w9 hB9
              go_region_held3 (fun w' => Below W.heap.size W w') (first | assumption | exact below_step (by assumption) (below_drew (Below.refl _ _)) | exact below_step (by assumption) hb1)
                (first | (go_at_call 11; refine (H11X.out _).mono ?_; rintro e w10 ⟨rfl, hb1⟩))
              refine abs_e (fun w' => Below W.heap.size W w') (by assumption) ?_
              clear hb1 hB9
              rintro w10 hB10
              go_wp2
              have z1 : IntKind.i64.wrap ((i : Int) + 1) = (i : Int) + 1 := IntWalk.i64_in _ (by omega)
              have z2 : (0 : Int) ≤ (i : Int) + 1 := by omega
              have z3 : ((i : Int) + 1).toNat = i + 1 := by omega
              have z4 : (i : Int) ≤ (i : Int) + 1 := by omega
              have z5 : i + 1 - i = 1 := by omega
              go_region_held3 (fun w' => Below W.heap.size W w') (first | assumption | exact below_step (by assumption) (below_drew (Below.refl _ _)) | exact below_step (by assumption) hb1)
                (first | (go_at_call 10; refine (H10X.out _ _ _ (HCI.out _ (by assumption))).mono ?_; rintro e w11 ⟨rfl, hb1⟩))
              refine abs_e (fun w' => Below W.heap.size W w') (by assumption) ?_
              clear hb1 hB10
              rintro w11 hB11
              clear z1 z2 z3 z4 z5
              obtain ⟨j0, j1⟩ := HJ.out
              obtain ⟨s0, s1⟩ := HSec.out
              go_wp2_with (go_at_call 9; refine (awake_any _).mono ?_; rintro e w12 ⟨rfl, hb12⟩)
              go_ret
              exact ⟨rfl, below_then HB0.out HB0.out.size (below_step hB11 hb12)⟩
            · have hd2 : decide ((tk l k).f1 < 100000) = false := by simpa using hpf
              go_upto_region 19 with (fail)
              have hB9 := hB7
              clear hB7 c1 f1 hd hd2 HR7
              refine abs_w (fun w' => Below W.heap.size W w') hB9 ?_
              clear hB9
              rintro w9 hB9
              go_region_held3 (fun w' => Below W.heap.size W w') (first | assumption | exact below_step (by assumption) (below_drew (Below.refl _ _)) | exact below_step (by assumption) hb1)
                (first | (go_at_call 11; refine (H11X.out _).mono ?_; rintro e w10 ⟨rfl, hb1⟩))
              refine abs_e (fun w' => Below W.heap.size W w') (by assumption) ?_
              clear hb1 hB9
              rintro w10 hB10
              go_wp2
              have z1 : IntKind.i64.wrap ((i : Int) + 1) = (i : Int) + 1 := IntWalk.i64_in _ (by omega)
              have z2 : (0 : Int) ≤ (i : Int) + 1 := by omega
              have z3 : ((i : Int) + 1).toNat = i + 1 := by omega
              have z4 : (i : Int) ≤ (i : Int) + 1 := by omega
              have z5 : i + 1 - i = 1 := by omega
              go_region_held3 (fun w' => Below W.heap.size W w') (first | assumption | exact below_step (by assumption) (below_drew (Below.refl _ _)) | exact below_step (by assumption) hb1)
                (first | (go_at_call 10; refine (H10X.out _ _ _ (HCI.out _ (by assumption))).mono ?_; rintro e w11 ⟨rfl, hb1⟩))
              refine abs_e (fun w' => Below W.heap.size W w') (by assumption) ?_
              clear hb1 hB10
              rintro w11 hB11
              clear z1 z2 z3 z4 z5
              obtain ⟨j0, j1⟩ := HJ.out
              obtain ⟨s0, s1⟩ := HSec.out
              go_wp2_with (go_at_call 9; refine (awake_any _).mono ?_; rintro e w12 ⟨rfl, hb12⟩)
              go_ret
              exact ⟨rfl, below_then HB0.out HB0.out.size (below_step hB11 hb12)⟩
      · go_upto_region 14 with (fail)
        refine abs_w (fun w' => Below W.heap.size W w' ∧ Kd.R k33 33 w' W.heap.size (fun _ => True) (.slice (some ⟨g, 0, none⟩) l.length cc) l) ⟨hB4, HR4.out⟩ ?_
        clear c4 c1 f4 f1 hB4 HR4
        rintro w7 ⟨hB7, hR7⟩
        obtain ⟨-, c1, -, f1⟩ := R_two hR7 HKL.out
        have HR7 := Lib.hid hR7
        clear hR7
        by_cases hki : k = i
        · have hd : ((k : Int) != (i : Int)) = false := by simp; omega
          go_upto_region 19 with (fail)
          have hB9 := hB7
          clear hB7 c1 f1 hd HR7
          refine abs_w (fun w' => Below W.heap.size W w') hB9 ?_
          clear hB9
          rintro w9 hB9
          go_region_held3 (fun w' => Below W.heap.size W w') (first | assumption | exact below_step (by assumption) (below_drew (Below.refl _ _)) | exact below_step (by assumption) hb1)
            (first | (go_at_call 11; refine (H11X.out _).mono ?_; rintro e w10 ⟨rfl, hb1⟩))
          refine abs_e (fun w' => Below W.heap.size W w') (by assumption) ?_
          clear hb1 hB9
          rintro w10 hB10
          go_wp2
          have z1 : IntKind.i64.wrap ((i : Int) + 1) = (i : Int) + 1 := IntWalk.i64_in _ (by omega)
          have z2 : (0 : Int) ≤ (i : Int) + 1 := by omega
          have z3 : ((i : Int) + 1).toNat = i + 1 := by omega
          have z4 : (i : Int) ≤ (i : Int) + 1 := by omega
          have z5 : i + 1 - i = 1 := by omega
          go_region_held3 (fun w' => Below W.heap.size W w') (first | assumption | exact below_step (by assumption) (below_drew (Below.refl _ _)) | exact below_step (by assumption) hb1)
            (first | (go_at_call 10; refine (H10X.out _ _ _ (HCI.out _ (by assumption))).mono ?_; rintro e w11 ⟨rfl, hb1⟩))
          refine abs_e (fun w' => Below W.heap.size W w') (by assumption) ?_
          clear hb1 hB10
          rintro w11 hB11
          clear z1 z2 z3 z4 z5
          obtain ⟨j0, j1⟩ := HJ.out
          obtain ⟨s0, s1⟩ := HSec.out
          go_wp2_with (go_at_call 9; refine (awake_any _).mono ?_; rintro e w12 ⟨rfl, hb12⟩)
          go_ret
          exact ⟨rfl, below_then HB0.out HB0.out.size (below_step hB11 hb12)⟩
        · have hd : ((k : Int) != (i : Int)) = true := by simp; omega
          by_cases hpf : (tk l k).f1 < 100000
          · have hd2 : decide ((tk l k).f1 < 100000) = true := by simpa using hpf
            obtain ⟨x2, h2, h2'⟩ := HG2.out hki hpf
            have hb2 := fun A c w hC => H10.out A c (l.set k { tk l k with f1 := (tk l k).f1 + 1 }) i w hC
            rw [h2, List.length_set] at hb2
            have HB2 := Lib.hid hb2
            have hd3 : decide (ri < x2) = false := by simp; omega
            clear hb2 h2 h2'
            go_upto_region 16 with (fail)
            refine abs_w (fun w' => Below W.heap.size W w' ∧ Kd.C k33 w' (some ⟨g, 0, none⟩) l.length (l.set k { tk l k with f1 := (tk l k).f1 + 1 })) ⟨hB7.setCell hgW _, by have h := (Kd.R_reads' (R_field HR7.out HKL.out 1 _ { tk l k with f1 := (tk l k).f1 + 1 } (by omega) rfl)).2.2; rwa [List.length_set] at h⟩ ?_
            clear c1 f1 hB7 HR7 hd hd2
            rintro w8 ⟨hB8, hC8⟩
            have HC8 := Lib.hid hC8
            clear hC8
            go_wp2_with fail
            refine (HB2.out (some ⟨g, 0, none⟩) cc _ HC8.out).mono ?_
            rintro e w8' ⟨rfl, hb8⟩
            have hB9 := below_step hB8 hb8
            clear hB8 hb8 HC8 HB2
            go_upto_region 19 with (fail)
            clear hd3
            refine abs_w (fun w' => Below W.heap.size W w') hB9 ?_
            clear hB9
            rintro w9 hB9
            go_region_held3 (fun w' => Below W.heap.size W w') (first | assumption | exact below_step (by assumption) (below_drew (Below.refl _ _)) | exact below_step (by assumption) hb1)
              (first | (go_at_call 11; refine (H11X.out _).mono ?_; rintro e w10 ⟨rfl, hb1⟩))
            refine abs_e (fun w' => Below W.heap.size W w') (by assumption) ?_
            clear hb1 hB9
            rintro w10 hB10
            go_wp2
            have z1 : IntKind.i64.wrap ((i : Int) + 1) = (i : Int) + 1 := IntWalk.i64_in _ (by omega)
            have z2 : (0 : Int) ≤ (i : Int) + 1 := by omega
            have z3 : ((i : Int) + 1).toNat = i + 1 := by omega
            have z4 : (i : Int) ≤ (i : Int) + 1 := by omega
            have z5 : i + 1 - i = 1 := by omega
            go_region_held3 (fun w' => Below W.heap.size W w') (first | assumption | exact below_step (by assumption) (below_drew (Below.refl _ _)) | exact below_step (by assumption) hb1)
              (first | (go_at_call 10; refine (H10X.out _ _ _ (HCI.out _ (by assumption))).mono ?_; rintro e w11 ⟨rfl, hb1⟩))
            refine abs_e (fun w' => Below W.heap.size W w') (by assumption) ?_
            clear hb1 hB10
            rintro w11 hB11
            clear z1 z2 z3 z4 z5
            obtain ⟨j0, j1⟩ := HJ.out
            obtain ⟨s0, s1⟩ := HSec.out
            go_wp2_with (go_at_call 9; refine (awake_any _).mono ?_; rintro e w12 ⟨rfl, hb12⟩)
            go_ret
            exact ⟨rfl, below_then HB0.out HB0.out.size (below_step hB11 hb12)⟩
          · have hd2 : decide ((tk l k).f1 < 100000) = false := by simpa using hpf
            go_upto_region 19 with (fail)
            have hB9 := hB7
            clear hB7 c1 f1 hd hd2 HR7
            refine abs_w (fun w' => Below W.heap.size W w') hB9 ?_
            clear hB9
            rintro w9 hB9
            go_region_held3 (fun w' => Below W.heap.size W w') (first | assumption | exact below_step (by assumption) (below_drew (Below.refl _ _)) | exact below_step (by assumption) hb1)
              (first | (go_at_call 11; refine (H11X.out _).mono ?_; rintro e w10 ⟨rfl, hb1⟩))
            refine abs_e (fun w' => Below W.heap.size W w') (by assumption) ?_
            clear hb1 hB9
            rintro w10 hB10
            go_wp2
            have z1 : IntKind.i64.wrap ((i : Int) + 1) = (i : Int) + 1 := IntWalk.i64_in _ (by omega)
            have z2 : (0 : Int) ≤ (i : Int) + 1 := by omega
            have z3 : ((i : Int) + 1).toNat = i + 1 := by omega
            have z4 : (i : Int) ≤ (i : Int) + 1 := by omega
            have z5 : i + 1 - i = 1 := by omega
            go_region_held3 (fun w' => Below W.heap.size W w') (first | assumption | exact below_step (by assumption) (below_drew (Below.refl _ _)) | exact below_step (by assumption) hb1)
              (first | (go_at_call 10; refine (H10X.out _ _ _ (HCI.out _ (by assumption))).mono ?_; rintro e w11 ⟨rfl, hb1⟩))
            refine abs_e (fun w' => Below W.heap.size W w') (by assumption) ?_
            clear hb1 hB10
            rintro w11 hB11
            clear z1 z2 z3 z4 z5
            obtain ⟨j0, j1⟩ := HJ.out
            obtain ⟨s0, s1⟩ := HSec.out
            go_wp2_with (go_at_call 9; refine (awake_any _).mono ?_; rintro e w12 ⟨rfl, hb12⟩)
            go_ret
            exact ⟨rfl, below_then HB0.out HB0.out.size (below_step hB11 hb12)⟩
  · have h1 : (chkI t l == 0) = false := by simpa using h0
    have h2 : (chkI t l != 0) = true := by simpa using h0
    clear h0
    go_wp2_with (go_at_call 9; refine (awake_any _).mono ?_; rintro e w2 ⟨rfl, hb2⟩)
    go_ret
    exact ⟨rfl, below_then HB0.out HB0.out.size (below_step hB1 hb2)⟩
end Go.Proofs.Ytmbfnhnemhojjaa
