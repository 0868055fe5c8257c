/- Timers: TimersMany. -/
import Derived.Test.YtodgbpggkikbcaaMK
import Derived.Test.YtodgbpggkikbcaaMH
namespace Go.Proofs.Ytodgbpggkikbcaa
section
set_option linter.unusedVariables false
set_option linter.unusedSimpArgs false
open Go.RowKit Go.Maps Go.Sort Go.Lib Go.Shelf Go.Proofs.YtodgbpggkikbcaaW.PrintWords Go.Proofs.YtodgbpggkikbcaaW.PrintLast Go.Proofs.YtodgbpggkikbcaaW.PrintMore FLib
attribute [local go_sem] below_alloc_T below_drew_T below_drewN_T

/-- n timers of the owner 0. -/
structure Full (n : Nat) (L : Slots) : Prop where
  len : L.length = n
  all : ∀ o ∈ L, ∃ x : Nat × TT, o = some x ∧ x.2.own = 0
theorem Full.isS {n : Nat} {L : Slots} (h : Full n L) : ∀ o ∈ L, o.isSome = true := fun o ho => by
  obtain ⟨x, rfl, -⟩ := h.all o ho; rfl
theorem Full.snoc {n : Nat} {L : Slots} (h : Full n L) {x : Nat × TT} (hx : x.2.own = 0) : Full (n + 1) (L ++ [some x]) :=
  ⟨by simp [h.len], fun o ho => by
    rcases List.mem_append.1 ho with ho | ho
    · exact h.all o ho
    · exact ⟨x, List.mem_singleton.1 ho, hx⟩⟩
theorem Full.nil : Full 0 [] := ⟨rfl, by simp⟩
theorem many_cre {n : Nat} {L : Slots} (h : Full n L) {e0 e1 e2 e3 : Int} (hc : chkE e0 e1 e2 e3 = 0) : creC L 0 e0 e1 e2 e3 = (if 1000 ≤ n then 18 else 0) ∧ creI L 0 e0 e1 e2 e3 = (if 1000 ≤ n then 0 else (n : Int)) ∧ free L = n := by
  have h1 := cnt_all h.isS
  have h2 := free_full h.isS
  rw [h.len] at h1 h2
  have hC : creC L 0 e0 e1 e2 e3 = (if 1000 ≤ n then 18 else 0) := by
    unfold creC
    rw [hc, h1]
    simp
  refine ⟨hC, ?_, h2⟩
  unfold creI
  rw [hC, h2]
  split <;> simp
theorem many_del {L : Slots} (h : Full 1000 L) {k : Nat} (hk : k < 1000) : delL L (k : Int) = L.set k none ∧ (at' L (k : Int)).isSome = true := by
  have hl : k < L.length := by rw [h.len]; exact hk
  obtain ⟨x, hx, -⟩ := h.all _ (List.getElem_mem hl)
  have ha : at' L (k : Int) = some x := at_nat_some.2 (by rw [List.getElem?_eq_getElem hl, hx])
  unfold delL
  rw [ha]
  exact ⟨by simp, rfl⟩
theorem many_free {L : Slots} (h : Full 1000 L) {k : Nat} (hk : k < 1000) : free (L.set k none) = k := by
  have hl : k < L.length := by rw [h.len]; exact hk
  unfold free
  rw [List.findIdx_eq (by rw [List.length_set]; exact hl)]
  refine ⟨by rw [List.getElem_set_self]; rfl, fun j hj => ?_⟩
  rw [List.getElem_set_ne (by omega)]
  obtain ⟨x, hx, -⟩ := h.all _ (List.getElem_mem (show j < L.length by omega))
  rw [hx]; rfl
theorem many_cnt {L : Slots} (h : Full 1000 L) {k : Nat} (hk : k < 1000) : cnt (L.set k none) = 999 := by
  have hl : k < L.length := by rw [h.len]; exact hk
  have h1 := cnt_set hl none
  rw [(many_del h hk).2, cnt_all h.isS, h.len] at h1
  simp at h1
  omega
theorem many_put {L : Slots} (h : Full 1000 L) {k : Nat} (hk : k < 1000) (x : Nat × TT) : putAt (L.set k none) k x = L.set k (some x) := by
  unfold putAt
  rw [List.length_set, h.len, if_pos hk, List.set_set]
theorem many_drop1 {L : Slots} (h : Full 1000 L) {k : Nat} (hk : k < 1000) {x : Nat × TT} (hx : x.2.own = 1) : dropL (L.set k (some x)) 1 = L.set k none := by
  refine List.ext_getElem? fun j => ?_
  have hl : k < L.length := by rw [h.len]; exact hk
  rw [dropL_get]
  by_cases e : j = k
  · subst e
    rw [List.getElem?_set_self hl, List.getElem?_set_self hl]
    obtain ⟨b, t⟩ := x
    simp only at hx
    simp [dropO', isOwnL, hx]
  · rw [List.getElem?_set_ne (Ne.symm e), List.getElem?_set_ne (Ne.symm e)]
    cases hj : L[j]? with
    | none => rfl
    | some o =>
      obtain ⟨y, rfl, hy⟩ := h.all o (List.mem_of_getElem? hj)
      obtain ⟨b, t⟩ := y
      simp only at hy
      simp [dropO', isOwnL, hy]
theorem many_cnt1 {L : Slots} (h : Full 1000 L) {k : Nat} (hk : k < 1000) (x : Nat × TT) : cnt (L.set k (some x)) = 1000 := by
  have hl : k < L.length := by rw [h.len]; exact hk
  have h1 := cnt_set hl (some x)
  rw [(many_del h hk).2, cnt_all h.isS, h.len] at h1
  simp at h1
  omega
theorem many_drop0 {L : Slots} (h : Full 1000 L) {k : Nat} : cnt (dropL (L.set k none) 0) = 0 := by
  unfold cnt
  rw [List.countP_eq_zero]
  intro o ho
  unfold dropL at ho
  obtain ⟨o', ho', rfl⟩ := List.mem_map.1 ho
  rcases List.mem_or_eq_of_mem_set ho' with h1 | h1
  · obtain ⟨y, rfl, hy⟩ := h.all o' h1
    obtain ⟨b, t⟩ := y
    simp only at hy
    simp [dropO', isOwnL, hy]
  · rw [h1]; simp [dropO', isOwnL]
theorem many_cre1 {L : Slots} (h : Full 1000 L) {k : Nat} (hk : k < 1000) {e0 e1 e2 e3 : Int} (hc : chkE e0 e1 e2 e3 = 0) : creC (L.set k none) 1 e0 e1 e2 e3 = 0 ∧ creI (L.set k none) 1 e0 e1 e2 e3 = (k : Int) := by
  have hC : creC (L.set k none) 1 e0 e1 e2 e3 = 0 := by
    unfold creC
    rw [hc, many_cnt h hk]
    simp
  refine ⟨hC, ?_⟩
  unfold creI
  rw [hC, many_free h hk]
  simp

theorem OwnT.cre {w : World} {p mb : Nat} {clk : Int} {L : Slots} {W W' : World} {own e0 e1 e2 e3 e4 : Int} (h : OwnT w p mb clk L W) (hc : CrePost p mb clk L own e0 e1 e2 e3 e4 W W') (h0 : creC L own e0 e1 e2 e3 = 0) : ∃ g, OwnT w p mb clk (putAt L (free L) (g, newT own e0 e1 e2 e3 e4)) W' := by
  obtain ⟨g, hg, hT⟩ := hc.yes h0
  refine ⟨g, below_keeps h.low hc.keep h.own, hT, fun j hj => ?_⟩
  rcases hj with hj | hj | ⟨i, t, hj⟩
  · exact h.own j (.inl hj)
  · exact h.own j (.inr (.inl hj))
  · rcases put_get (free_le L) hj with ⟨-, e⟩ | ⟨-, e⟩
    · cases e; exact Nat.le_trans h.low.size hg
    · exact h.own j (.inr (.inr ⟨i, t, e⟩))
theorem OwnT.creNo {w : World} {p mb : Nat} {clk : Int} {L : Slots} {W W' : World} {own e0 e1 e2 e3 e4 : Int} (h : OwnT w p mb clk L W) (hc : CrePost p mb clk L own e0 e1 e2 e3 e4 W W') (h0 : creC L own e0 e1 e2 e3 ≠ 0) : OwnT w p mb clk L W' :=
  ⟨below_keeps h.low hc.keep h.own, hc.no h0, h.own⟩
theorem delL_own {L : Slots} {i : Int} {p mb k : Nat} (h : TOwn p mb (delL L i) k) : TOwn p mb L k := by
  unfold delL at h
  split at h
  · rcases h with h | h | ⟨j, t, h⟩
    · exact .inl h
    · exact .inr (.inl h)
    · refine .inr (.inr ⟨j, t, ?_⟩)
      by_cases e : j = i.toNat
      · subst e
        rw [List.getElem?_set] at h
        simp only [if_true] at h
        split at h <;> cases h
      · rwa [List.getElem?_set_ne (Ne.symm e)] at h
  · exact h
theorem OwnT.del {w : World} {p mb : Nat} {clk : Int} {L : Slots} {W W' : World} {i : Int} (h : OwnT w p mb clk L W) (hT : TS W' p mb clk (delL L i)) (hk : Keeps W W' (TOwn p mb L)) : OwnT w p mb clk (delL L i) W' :=
  ⟨below_keeps h.low hk h.own, hT, fun j hj => h.own j (delL_own hj)⟩
theorem OwnT.drop {w : World} {p mb : Nat} {clk : Int} {L : Slots} {W W' : World} {own : Int} (h : OwnT w p mb clk L W) (hT : TS W' p mb clk (dropL L own)) (hk : Keeps W W' (TOwn p mb L)) : OwnT w p mb clk (dropL L own) W' :=
  ⟨below_keeps h.low hk h.own, hT, fun j hj => h.own j (dropL_own hj)⟩

set_option maxRecDepth 100000 in
set_option maxHeartbeats 4000000 in
theorem many_law (x : Int) (hx0 : 0 ≤ x) (hx1 : x < 65536) (e0 e1 e2 e3 e4 : Int) (w : World) : Calls Try.prog 6 #[.int .u16 x, evV e0 e1 e2 e3 e4] w fun e w' => e = .returned (.bool true) ∧ Below w.heap.size w w' := by
  have HAW := Lib.hid (fun w => awake_any w)
  have HN := Lib.hid (fun w => new_any w)
  obtain ⟨wB, hWB⟩ : ∃ wB, w.alloc (.cells #[.int .i64 e0, .int .i64 e1, .int .i64 e2, .int .i64 e3, .int .i64 e4] 38) = wB := ⟨_, rfl⟩
  have hbx : wB.heap[w.heap.size]? = some (.cells #[.int .i64 e0, .int .i64 e1, .int .i64 e2, .int .i64 e3, .int .i64 e4] 38 (0, 0)) := by rw [← hWB]; exact blk_new w _
  have b0 := later_cell (v := .int .i64 e0) (blk_cell hbx 0)
  have b1 := later_cell (v := .int .i64 e1) (blk_cell hbx 1)
  have b2 := later_cell (v := .int .i64 e2) (blk_cell hbx 2)
  have b3 := later_cell (v := .int .i64 e3) (blk_cell hbx 3)
  have b4 := later_cell (v := .int .i64 e4) (blk_cell hbx 4)
  have HW := Lib.hid hWB
  have HB0 := Lib.hid (show Below w.heap.size w wB by rw [← hWB]; exact below_alloc (Below.refl _ _) _)
  have hlw : ∀ j, TOwn (wB.heap.size + 1) wB.heap.size [] j → wB.heap.size ≤ j := by
    rintro j (e | e | ⟨i, t, e⟩)
    · omega
    · omega
    · simp at e
  have HLW := Lib.hid hlw
  clear hWB hbx hlw
  by_cases hc : chkE e0 e1 e2 e3 = 0
  · have HC := Lib.hid hc
    have hm : ∃ kk : Nat, x % 1000 = (kk : Int) ∧ kk < 1000 := ⟨(x % 1000).toNat, by omega, by omega⟩
    obtain ⟨kk, hkk, hk1⟩ := hm
    have HKK := Lib.hid hkk
    have HCRE := Lib.hid (fun p mb L own w h => cre_any p mb 0 L own e0 e1 e2 e3 e4 w h)
    unfold evV at HCRE ⊢
    clear hc hkk
    go_enter Try.func6, Try.ntmps6
    go_wp2_with fail
    rw [HW.out]
    refine (HN.out _).mono ?_
    rintro e w1 ⟨rfl, hT, hB⟩
    obtain ⟨mb, hmb⟩ : ∃ q, wB.heap.size = q := ⟨_, rfl⟩
    obtain ⟨p, hp⟩ : ∃ q, wB.heap.size + 1 = q := ⟨_, rfl⟩
    have HO := Lib.hid (show OwnT wB p mb 0 [] w1 by rw [← hp, ← hmb]; exact ⟨hB, hT, HLW.out⟩)
    rw [hp]
    clear hT hp hmb
    go_wp2_with fail
    refine (HCRE.out p mb [] 0 w1 HO.out.set).mono ?_
    rintro e w2 ⟨rfl, hcre⟩
    obtain ⟨q1, q2, q3⟩ := many_cre Full.nil HC.out
    obtain ⟨g, hO2⟩ := HO.out.cre hcre (by rw [q1]; rfl)
    rw [q3, show putAt [] 0 (g, newT 0 e0 e1 e2 e3 e4) = [some (g, newT 0 e0 e1 e2 e3 e4)] from rfl] at hO2
    rw [q1, q2, if_neg (by decide), if_neg (by decide)]
    have HO2 := Lib.hid hO2
    have HF2 := Lib.hid (show Full 1 [some (g, newT 0 e0 e1 e2 e3 e4)] from ⟨rfl, by intro o ho; exact ⟨_, List.mem_singleton.1 ho, rfl⟩⟩)
    clear hcre q1 q2 q3 hO2 hB
    go_wp2
    go_loopw [8] (fun i wr => ∃ k : Nat, 1 ≤ k ∧ k ≤ 1000 ∧ i = .int .i64 k ∧ Hid (∃ L, OwnT wB p mb 0 L wr ∧ Full k L)) (fun i _ => 1000 - (RowKit.intOf i).toNat)
    case atStart => exact ⟨1, by omega, by omega, rfl, Lib.hid ⟨_, HO2.out, HF2.out⟩⟩
    case round =>
      obtain ⟨k, hk0, hk, rfl, hR⟩ := hrel
      obtain ⟨L, hO, hF⟩ := hR.out
      have HO3 := Lib.hid hO
      have HF := Lib.hid hF
      have hB := hO.low
      clear hO hF
      by_cases hlt : k < 1000
      · go_wp2_with fail
        refine (HCRE.out p mb L 0 wr HO3.out.set).mono ?_
        rintro e w3 ⟨rfl, hcre⟩
        obtain ⟨q1, q2, q3⟩ := many_cre HF.out HC.out
        have hC0 : creC L 0 e0 e1 e2 e3 = 0 := by rw [q1, if_neg (by omega)]
        obtain ⟨g3, hO4⟩ := HO3.out.cre hcre hC0
        rw [q3, ← HF.out.len, put_last] at hO4
        rw [hC0, q2, if_neg (by omega)]
        have HO4 := Lib.hid hO4
        clear hcre q1 q2 q3 hO4 hB hC0
        go_wp2
        go_roundw
        case rel => exact ⟨k + 1, by omega, by omega, by go_num, Lib.hid ⟨_, HO4.out, HF.out.snoc rfl⟩⟩
        case measure => simp [RowKit.intOf]; omega
      · obtain rfl : k = 1000 := by omega
        clear hlt hk0 hk
        go_wp2_with fail
        refine (HCRE.out p mb L 0 wr HO3.out.set).mono ?_
        rintro e w3 ⟨rfl, hcre⟩
        obtain ⟨q1, q2, q3⟩ := many_cre HF.out HC.out
        have hC0 : creC L 0 e0 e1 e2 e3 = 18 := by rw [q1, if_pos (by omega)]
        have hO4 := HO3.out.creNo hcre (by rw [hC0]; decide)
        rw [hC0, q2, if_pos (by omega)]
        have HO4 := Lib.hid hO4
        clear hcre q1 q2 q3 hO4 hB hC0
        go_wp2_with fail
        rw [HKK.out]
        refine (del_any p mb 0 L (kk : Int) (wfI (by omega)) w3 HO4.out.set).mono ?_
        rintro e w4 ⟨rfl, hT, hk⟩
        obtain ⟨q1, q2⟩ := many_del HF.out hk1
        have hO5 := HO4.out.del hT hk
        rw [q1] at hO5
        rw [q2]
        have HO5 := Lib.hid hO5
        have hB5 := hO5.low
        clear hT hk q1 q2 hO5
        simp only [if_true]
        go_wp2_with fail
        refine (HCRE.out p mb (L.set kk none) 1 w4 HO5.out.set).mono ?_
        rintro e w5 ⟨rfl, hcre⟩
        obtain ⟨q1, q2⟩ := many_cre1 HF.out hk1 HC.out
        obtain ⟨g5, hO6⟩ := HO5.out.cre hcre q1
        rw [many_free HF.out hk1, many_put HF.out hk1] at hO6
        rw [q1, q2]
        have HO6 := Lib.hid hO6
        clear hcre q1 q2 hO6 hB5
        go_wp2_with fail
        refine (drop_any p mb 0 _ 1 w5 HO6.out.set).mono ?_
        rintro e w6 ⟨rfl, hT, hk⟩
        have hO7 := HO6.out.drop hT hk
        rw [many_drop1 HF.out hk1 rfl] at hO7
        rw [many_drop1 HF.out hk1 rfl, many_cnt1 HF.out hk1, many_cnt HF.out hk1]
        have HO7 := Lib.hid hO7
        clear hT hk hO7
        go_wp2_with fail
        refine (drop_any p mb 0 _ 0 w6 HO7.out.set).mono ?_
        rintro e w7 ⟨rfl, hT, hk⟩
        have hO8 := HO7.out.drop hT hk
        rw [many_drop0 HF.out, many_cnt HF.out hk1]
        have HB8 := Lib.hid hO8.low
        clear hT hk hO8
        go_wp2_with fail
        refine (HAW.out _).mono ?_
        rintro e w8 ⟨rfl, hb⟩
        have HB9 := Lib.hid (below_step HB8.out hb)
        clear hb
        go_wp2
        go_ret
        exact ⟨rfl, below_step HB0.out HB9.out⟩
  · have HC := Lib.hid hc
    have HCRE := Lib.hid (fun p mb L own w h => cre_any p mb 0 L own e0 e1 e2 e3 e4 w h)
    have hC0 : creC [] 0 e0 e1 e2 e3 = chkE e0 e1 e2 e3 := by unfold creC; simp [hc]
    have hI0 : creI [] 0 e0 e1 e2 e3 = 0 := by unfold creI; rw [hC0, if_neg hc]
    have d1 : (chkE e0 e1 e2 e3 != 0) = true := by simpa using hc
    have HC0 := Lib.hid hC0
    have HI0 := Lib.hid hI0
    unfold evV at HCRE ⊢
    clear hc hC0 hI0
    go_enter Try.func6, Try.ntmps6
    go_wp2_with fail
    rw [HW.out]
    refine (HN.out _).mono ?_
    rintro e w1 ⟨rfl, hT, hB⟩
    obtain ⟨mb, hmb⟩ : ∃ q, wB.heap.size = q := ⟨_, rfl⟩
    obtain ⟨p, hp⟩ : ∃ q, wB.heap.size + 1 = q := ⟨_, rfl⟩
    have HO := Lib.hid (show OwnT wB p mb 0 [] w1 by rw [← hp, ← hmb]; exact ⟨hB, hT, HLW.out⟩)
    rw [hp]
    clear hT hp hmb
    go_wp2_with fail
    refine (HCRE.out p mb [] 0 w1 HO.out.set).mono ?_
    rintro e w2 ⟨rfl, hcre⟩
    have hO2 := HO.out.creNo hcre (by rw [HC0.out]; exact HC.out)
    rw [HC0.out, HI0.out]
    have HO2 := Lib.hid hO2
    clear hcre hO2 hB
    go_wp2_with fail
    refine (list_any p mb 0 [] w2 HO2.out.set).mono ?_
    rintro e w3 ⟨⟨u, rfl, hu⟩, hb⟩
    have HO3 := Lib.hid (HO2.out.call hb)
    have hf : u = .slice none 0 0 ∨ ∃ g c, u = .slice (some ⟨g, 0, none⟩) 0 c := by
      rcases hu.form with ⟨e, -⟩ | ⟨g, c, e⟩
      · exact .inl e
      · exact .inr ⟨g, c, e⟩
    clear hu hb
    rcases hf with rfl | ⟨g, c, rfl⟩
    all_goals
      go_wp2_with fail
      refine (HAW.out _).mono ?_
      rintro e w4 ⟨rfl, hb⟩
      have HB4 := Lib.hid (below_step HO3.out.low hb)
      clear hb
      go_wp2
      go_ret
      exact ⟨rfl, below_step HB0.out HB4.out⟩
end
end Go.Proofs.Ytodgbpggkikbcaa
