/- The reference: a table's check, cost, the greatest operation. -/
import Derived.Test.YtmbfnhnemhojjaaB5
namespace Go.Proofs.Ytmbfnhnemhojjaa
set_option linter.unusedVariables false
set_option linter.unusedSimpArgs false
open Go.RowKit Go.Proofs.YtmbfnhnemhojjaaW.PrintWords Go.Proofs.YtmbfnhnemhojjaaW.PrintLast Go.Proofs.YtmbfnhnemhojjaaW.PrintMore PResponseCosts FLib
attribute [local go_sem ↓] hold_cells hold_from
attribute [local go_sem] below_alloc_T below_drew_T below_drewN_T run_box run_box2 run_box6

theorem okT_eq {t : Tab} (h : t.costs.length = 24) : okT t = ((inC t.sec && (decide (0 ≤ t.copy) && decide (t.copy ≤ 100))) && (List.range 24).all (fun j => inC (cAt t j))) := by
  unfold okT
  congr 1
  rw [Bool.eq_iff_iff, List.all_eq_true, List.all_eq_true]
  constructor
  · intro h1 j hj
    have hj := List.mem_range.1 hj
    refine h1 _ ?_
    unfold cAt
    rw [List.getD_eq_getElem?_getD, List.getElem?_eq_getElem (by omega)]
    exact List.getElem_mem _
  · intro h1 x hx
    obtain ⟨j, hj, rfl⟩ := List.getElem_of_mem hx
    have := h1 j (List.mem_range.2 (by omega))
    unfold cAt at this
    rw [List.getD_eq_getElem?_getD, List.getElem?_eq_getElem (by omega)] at this
    exact this

/-- The table's cells with the copy. -/
structure TabC' (cs : Array Value) (t : Tab) : Prop extends TabC cs t where
  copy : cs[1]? = some (.int .i64 t.copy)
theorem tabC' {t : Tab} (h : t.costs.length = 24) : TabC' (tabCells t).toArray t := ⟨tabC h, rfl⟩

set_option maxRecDepth 100000 in
set_option maxHeartbeats 1600000 in
theorem rtcheck_any (cs : Array Value) (t : Tab) (hl : t.costs.length = 24) (h : TabC' cs t) (w : World) :
    Calls Try.prog 40 #[.agg cs] w fun e w' => e = .returned (.int .i64 (if okT t = true then 0 else 34)) ∧ Below w.heap.size w w' := by
  obtain ⟨r, hr⟩ : ∃ r, (if okT t = true then (0 : Int) else 34) = r := ⟨_, rfl⟩
  rw [hr]
  have h0 := h.sec
  have h1 := h.copy
  have HC := Lib.hid h.cost
  have HR := Lib.hid hr
  have HL := Lib.hid hl
  have HE := Lib.hid (okT_eq hl)
  clear hl hr
  have bad : inC t.sec = false ∨ (decide (0 ≤ t.copy) && decide (t.copy ≤ 100)) = false → r = 34 := by
    intro h; rw [← HR.out]; unfold okT
    rcases h with h | h <;> simp [h]
  have BAD := Lib.hid bad
  clear bad
  by_cases a1 : t.sec < 1
  · go_enter Try.func40, Try.ntmps40
    go_wp2
    go_ret
    exact ⟨by rw [BAD.out (.inl (by simp [inC]; omega))]; rfl, below_alloc (Below.refl _ _) _⟩
  by_cases a2 : 1000 < t.sec
  · go_enter Try.func40, Try.ntmps40
    go_wp2
    go_ret
    exact ⟨by rw [BAD.out (.inl (by simp [inC]; omega))]; rfl, below_alloc (Below.refl _ _) _⟩
  by_cases a3 : t.copy < 0
  · go_enter Try.func40, Try.ntmps40
    go_wp2
    go_ret
    exact ⟨by rw [BAD.out (.inr (by simp; omega))]; rfl, below_alloc (Below.refl _ _) _⟩
  by_cases a4 : 100 < t.copy
  · go_enter Try.func40, Try.ntmps40
    go_wp2
    go_ret
    exact ⟨by rw [BAD.out (.inr (by simp; omega))]; rfl, below_alloc (Below.refl _ _) _⟩
  go_enter Try.func40, Try.ntmps40
  go_wp2
  refine abs_w (fun W => W.heap[w.heap.size]? = some (.cells cs 36 (0, 0)) ∧ Below w.heap.size w W) ⟨blk_new _ _, below_alloc (Below.refl _ _) _⟩ ?_
  rintro W ⟨hq0, hB⟩
  have HB := Lib.hid hB
  generalize w.heap.size = q at hq0 ⊢
  have HQ := Lib.hid hq0
  clear hq0 hB h0 h1 h
  go_loop [3] (fun i => ∃ k : Nat, k ≤ 24 ∧ i = .int .i64 k ∧ Hid ((List.range k).all (fun j => inC (cAt t j)) = true)) (fun i => 24 - (intOf i).toNat)
  case atStart => exact ⟨0, Nat.zero_le _, rfl, Lib.hid rfl⟩
  case round =>
    obtain ⟨k, hk, rfl, HA⟩ := hrel
    by_cases hlt : k < 24
    · have hx := (blk_cell HQ.out (2 + k)).trans (HC.out k hlt)
      have htk := Lib.hid (range_all_snoc (fun j => inC (cAt t j)) k)
      have hmem : inC (cAt t k) = false → r = 34 := by
        intro h
        rw [← HR.out, HE.out, range_all_false hlt h]
        simp
      have HM := Lib.hid hmem
      have HX := Lib.hid (show inC (cAt t k) = (decide (1 ≤ cAt t k) && decide (cAt t k ≤ 1000)) from rfl)
      generalize hxe : cAt t k = x at hx HM HX
      have HXE := Lib.hid hxe
      have hi0 : (0 : Int) ≤ (k : Int) := by omega
      have hi1 : (k : Int) < 24 := by omega
      clear hmem hxe
      by_cases b1 : x < 1
      · go_wp2
        go_ret
        exact ⟨by rw [HM.out (by rw [HX.out]; simp; omega)]; rfl, HB.out⟩
      by_cases b2 : 1000 < x
      · go_wp2
        go_ret
        exact ⟨by rw [HM.out (by rw [HX.out]; simp; omega)]; rfl, HB.out⟩
      go_wp2
      go_round
      case rel => exact ⟨k + 1, by omega, by go_num, Lib.hid (by rw [htk.out, HA.out, HXE.out, HX.out]; simp; omega)⟩
      case measure => simp [intOf]; omega
    · obtain rfl : k = 24 := by omega
      go_wp2
      go_ret
      refine ⟨?_, HB.out⟩
      have hr := HR.out
      rw [← hr, HE.out, HA.out, if_pos (by simp [inC]; omega)]
      rfl

set_option maxRecDepth 100000 in
theorem rcost_any (cs : Array Value) (t : Tab) (h : TabC cs t) (ht : TOk t) (x : S33) (h4 : 1 ≤ x.f4 ∧ x.f4 ≤ 1000) (h5 : 0 ≤ x.f5 ∧ x.f5 ≤ 1000) (w : World) :
    Calls Try.prog 42 #[.agg cs, tkV x] w fun e w' => e = .returned (.int .i64 (jobI t x)) ∧ Below w.heap.size w w' := by
  have k6 := h.cost 6 (by omega)
  have k7 := h.cost 7 (by omega)
  have k1 := h.cost 1 (by omega)
  have k23 := h.cost 23 (by omega)
  obtain ⟨b6, b6'⟩ := ht.cost 6 (by omega)
  obtain ⟨b7, b7'⟩ := ht.cost 7 (by omega)
  obtain ⟨b1, b1'⟩ := ht.cost 1 (by omega)
  obtain ⟨b23, b23'⟩ := ht.cost 23 (by omega)
  obtain ⟨b5, b5'⟩ := h5
  obtain ⟨b4, b4'⟩ := h4
  have HE := Lib.hid (show jobI t x = cAt t 1 + (if x.f5 = 0 then 0 else cAt t 6 + x.f5 + cAt t 7) + x.f4 + cAt t 23 from rfl)
  generalize cAt t 6 = c6 at k6 b6 b6' HE
  generalize cAt t 7 = c7 at k7 b7 b7' HE
  generalize cAt t 1 = c1 at k1 b1 b1' HE
  generalize cAt t 23 = c23 at k23 b23 b23' HE
  simp only [Nat.reduceAdd] at k6 k7 k1 k23
  clear h ht
  unfold tkV
  by_cases hz : x.f5 = 0
  · have hz' : ¬ 0 < x.f5 := by omega
    rw [HE.out, if_pos hz]
    clear hz
    go_enter Try.func42, Try.ntmps42
    go_wp2
    go_ret
    exact ⟨ret_int (by omega), below_alloc (below_alloc (Below.refl _ _) _) _⟩
  · have hz' : 0 < x.f5 := by omega
    rw [HE.out, if_neg hz]
    clear HE hz
    go_enter Try.func42, Try.ntmps42
    go_wp2
    go_ret
    exact ⟨ret_int (by omega), below_alloc (below_alloc (Below.refl _ _) _) _⟩
end Go.Proofs.Ytmbfnhnemhojjaa
