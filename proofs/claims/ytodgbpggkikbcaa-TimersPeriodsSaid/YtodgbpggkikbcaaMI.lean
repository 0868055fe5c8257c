/- Timers: TimersDeadlines. -/
import Derived.Test.YtodgbpggkikbcaaMH
import Derived.Laws.MakeOwn
import Derived.Deep.MidRow
namespace Go.Proofs.Ytodgbpggkikbcaa
section
set_option linter.unusedVariables false
set_option linter.unusedSimpArgs false
open Go.RowKit Go.Maps Go.Sort Go.Lib Go.Shelf Go.Proofs.YtodgbpggkikbcaaW.PrintWords Go.Proofs.YtodgbpggkikbcaaW.PrintLast Go.Proofs.YtodgbpggkikbcaaW.PrintMore FLib
attribute [local go_sem] below_alloc_T below_drew_T below_drewN_T

theorem flat_get {α β : Type} (f : α → List β) (m : Nat) (hm : ∀ x, (f x).length = m) : ∀ (l : List α) (i : Nat) (x : α), l[i]? = some x → ∀ j, j < m → (l.flatMap f)[i * m + j]? = (f x)[j]?
  | [], i, x, h, _, _ => by simp at h
  | a :: l, 0, x, h, j, hj => by
    obtain rfl : a = x := by simpa using h
    rw [List.flatMap_cons, List.getElem?_append_left (by rw [hm]; omega)]
    congr 1; omega
  | a :: l, i + 1, x, h, j, hj => by
    have e : (i + 1) * m + j = m + (i * m + j) := by rw [Nat.add_mul]; omega
    rw [List.flatMap_cons, List.getElem?_append_right (by rw [hm]; omega), hm, e, Nat.add_sub_cancel_left]
    exact flat_get f m hm l i x (by simpa using h) j hj
theorem fired_get {L : Slots} {now : Int} {D : List Nat} {k i : Nat} (h : D[k]? = some i) {j : Nat} (hj : j < 7) : (firedD L now D)[k * 7 + j]? = (firedC (i : Int) (tAt L i) now)[j]? :=
  flat_get (fun i : Nat => firedC (i : Int) (tAt L i) now) 7 (fun _ => rfl) D k i h j hj
/-- A row of timers that fire. -/
structure FRow (W : World) (v : Value) (L : Slots) (now : Int) (D : List Nat) : Prop where
  nil : D.length = 0 → v = .slice none 0 0 ∨ ∃ g c, v = .slice (some ⟨g, 0, none⟩) 0 c
  row : 0 < D.length → ∃ g c, v = .slice (some ⟨g, 0, none⟩) D.length c ∧ ∀ (k i : Nat), D[k]? = some i → ∀ j : Nat, j < 7 → W.cell? ⟨g, k * 7 + j, none⟩ = (firedC (i : Int) (tAt L i) now)[j]?
theorem FRow.of {W : World} {base : Nat} {v : Value} {L : Slots} {now : Int} {D : List Nat} (h : W.ownsRow base 40 7 v D.length (firedD L now D)) : FRow W v L now D := by
  refine ⟨fun hz => ?_, fun hp => ?_⟩
  · rcases own_form h with e | ⟨g, c, e⟩
    · exact .inl e
    · exact .inr ⟨g, c, e.trans (by rw [hz])⟩
  · rcases own_form h with e | ⟨g, c, rfl⟩
    · rcases h.2 with ⟨-, h2⟩ | ⟨g, cap, cur, h1, -⟩
      · omega
      · rw [e] at h1; cases h1
    · refine ⟨g, c, rfl, fun k i hk j hj => ?_⟩
      have hlt := (List.getElem?_eq_some_iff.1 hk).1
      have e := fired_get (L := L) (now := now) hk hj
      obtain ⟨u, hu⟩ : ∃ u, (firedC (i : Int) (tAt L i) now)[j]? = some u := ⟨_, List.getElem?_eq_getElem hj⟩
      rw [hu] at e ⊢
      exact fired_cell h _ _ e

theorem info30 : (Try.prog.info? 30).map (fun i => (i.zero, i.size, i.bytes)) = some (some (.agg #[.int .i64 0, .int .i64 0, .int .i64 0]), 3, 24) := by kernel_rfl
/-- The specifications of the first i timers have been written down. -/
structure DueR (W : World) (g n : Nat) (L : Slots) (i : Nat) : Prop where
  blk : ∃ cur : Array Value, W.heap[g]? = some (.cells cur 30 (0, 0)) ∧ cur.size = n * 3 ∧ ∀ (m b : Nat) (t : TT), m < i → m < n → L[m]? = some (some (b, t)) → cur.toList[m * 3]? = some (.int .i64 t.fst) ∧ cur.toList[m * 3 + 1]? = some (.int .i64 t.ivl) ∧ cur.toList[m * 3 + 2]? = some (.int .i64 t.tol)
theorem DueR.below {W W' : World} {g n : Nat} {L : Slots} {i : Nat} (h : DueR W g n L i) (hb : Below W.heap.size W W') : DueR W' g n L i := by
  obtain ⟨cur, h1, h2⟩ := h.blk
  exact ⟨cur, blk_below h1 hb, h2⟩
theorem DueR.keep {W W' : World} {g n : Nat} {L : Slots} {i : Nat} {F : Nat → Prop} (h : DueR W g n L i) (hk : Keeps W W' F) (hg : ¬ F g) : DueR W' g n L i := by
  obtain ⟨cur, h1, h2⟩ := h.blk
  exact ⟨cur, hk.blk h1 hg, h2⟩
theorem DueR.lt {W : World} {g n : Nat} {L : Slots} {i : Nat} (h : DueR W g n L i) : g < W.heap.size := by
  obtain ⟨cur, h1, h2⟩ := h.blk
  exact blk_lt h1
theorem DueR.step {W : World} {g n : Nat} {L : Slots} {i b : Nat} {t : TT} (h : DueR W g n L i) (hi : i < n) (hit : L[i]? = some (some (b, t))) : DueR (W.setCells g (i * 3) [.int .i64 t.fst, .int .i64 t.ivl, .int .i64 t.tol]) g n L (i + 1) := by
  obtain ⟨cur, h1, h2, h3⟩ := h.blk
  obtain ⟨cur', e1, e2, e3⟩ := setCells_row [.int .i64 t.fst, .int .i64 t.ivl, .int .i64 t.tol] (i * 3) W cur h1 (by rw [h2]; simp; omega)
  have hl : (cur.toList.take (i * 3)).length = i * 3 := by rw [List.length_take, Array.length_toList, h2]; omega
  refine ⟨cur', e1, e2.trans h2, fun m b' t' hm hmn hmt => ?_⟩
  rw [e3]
  by_cases e : m = i
  · subst e
    rw [hit] at hmt
    simp only [Option.some.injEq, Prod.mk.injEq] at hmt
    obtain ⟨rfl, rfl⟩ := hmt
    have hx : ∀ j, j < 3 → (cur.toList.take (m * 3) ++ [.int .i64 t.fst, .int .i64 t.ivl, .int .i64 t.tol] ++ cur.toList.drop (m * 3 + 3))[m * 3 + j]? = ([.int .i64 t.fst, .int .i64 t.ivl, .int .i64 t.tol] : List Value)[j]? := fun j hj => by
      rw [List.append_assoc, List.getElem?_append_right (by omega), hl, Nat.add_sub_cancel_left, List.getElem?_append_left (by simpa using hj)]
    exact ⟨hx 0 (by omega), hx 1 (by omega), hx 2 (by omega)⟩
  · obtain ⟨k0, k1, k2⟩ := h3 m b' t' (by omega) hmn hmt
    have hx : ∀ j, j < 3 → (cur.toList.take (i * 3) ++ [.int .i64 t.fst, .int .i64 t.ivl, .int .i64 t.tol] ++ cur.toList.drop (i * 3 + 3))[m * 3 + j]? = cur.toList[m * 3 + j]? := fun j hj => by
      rw [List.append_assoc, List.getElem?_append_left (by omega), List.getElem?_take, if_pos (by omega)]
    exact ⟨(hx 0 (by omega)).trans k0, (hx 1 (by omega)).trans k1, (hx 2 (by omega)).trans k2⟩
theorem DueR.cell {W : World} {g n : Nat} {L : Slots} {m b : Nat} {t : TT} (h : DueR W g n L n) (hm : m < n) (hit : L[m]? = some (some (b, t))) : W.cell? ⟨g, m * 3, none⟩ = some (.int .i64 t.fst) ∧ W.cell? ⟨g, m * 3 + 1, none⟩ = some (.int .i64 t.ivl) ∧ W.cell? ⟨g, m * 3 + 2, none⟩ = some (.int .i64 t.tol) := by
  obtain ⟨cur, h1, h2, h3⟩ := h.blk
  obtain ⟨k0, k1, k2⟩ := h3 m b t hm hm hit
  refine ⟨?_, ?_, ?_⟩ <;> (rw [blk_cell h1, ← Array.getElem?_toList]; assumption)
theorem DueR.there {W : World} {g n : Nat} {L : Slots} {i m : Nat} (h : DueR W g n L i) (hm : m < n) : W.there g (m * 3) 3 := by
  obtain ⟨cur, h1, h2, h3⟩ := h.blk
  intro j hj
  exact ⟨by rw [blk_cell h1, Array.getElem?_eq_getElem (by omega)]; rfl, blk_frozen h1 _⟩
theorem OwnT.set' {w : World} {p mb : Nat} {clk : Int} {L : Slots} {W : World} (h : OwnT w p mb clk L W) {g : Nat} (hg : ¬ TOwn p mb L g) (hw : w.heap.size ≤ g) (o : Nat) (vs : List Value) : OwnT w p mb clk L (W.setCells g o vs) := by
  obtain ⟨e1, e2, e3, e4⟩ := setCells_same g vs o W
  have hk : Keeps W (W.setCells g o vs) (fun k => k = g) := ⟨e1, e2, e3, by rw [e4]; exact Nat.le_refl _, fun k _ hk => setCells_far vs o k hk⟩
  exact ⟨below_keeps h.low hk (fun j hj => by rw [hj]; exact hw), h.set.keep hk (fun k hk ho => hg (hk ▸ ho)), h.own⟩

theorem dueL_sub (L : Slots) (now : Int) : (dueL L now).length ≤ L.length := by
  have h1 := List.length_filter_le (fun i => decide (0 < fstAt L i)) (ord L)
  have h2 := ord_len L
  have h3 := ids_len L
  have h4 : (dueL L now).length ≤ (arm L).length := by unfold dueL; exact (List.takeWhile_sublist _).length_le
  unfold arm at h4
  omega
/-- What holds of a timer that fires at the expiry time. -/
theorem dead_plain {L : Slots} (hL : LOk L) {clk : Int} (hl : Late L clk) (hc : 0 ≤ clk) (hn : (nextV L).2 = true) (hm : (nextV L).1 ≤ 1099511627776) : okT (nextV L).1 = true ∧ clk ≤ (nextV L).1 ∧ expD L clk (nextV L).1 = dueL L (nextV L).1 ∧ 0 < (dueL L (nextV L).1).length ∧
    ∀ i ∈ dueL L (nextV L).1, ∃ b t, L[i]? = some (some (b, t)) ∧ 0 < t.fst ∧ t.fst ≤ (nextV L).1 ∧ (nextV L).1 ≤ t.fst + t.tol := by
  have h1 := late_next hL hl hn
  obtain ⟨⟨i, hi, e⟩, hmin⟩ := next_some hn
  have ho : okT (nextV L).1 = true := okT_iff.2 ⟨by omega, hm⟩
  refine ⟨ho, by omega, ?_, ?_, fun j hj => ?_⟩
  · unfold expD expG
    rw [if_pos (exp_ok ho (by omega)), hn]
    simp
  · obtain ⟨b, t, hit, e1, e2, hp⟩ := arm_get2 hi
    have := (hL i b t hit).t0
    exact List.length_pos_of_mem (mem_due.2 ⟨hi, by omega⟩)
  · obtain ⟨ha, hf⟩ := mem_due.1 hj
    obtain ⟨b, t, hit, e1, e2, hp⟩ := arm_get2 ha
    have := hmin j ha
    exact ⟨b, t, hit, hp, by omega, by omega⟩
end
section
set_option linter.unusedVariables false
set_option linter.unusedSimpArgs false
open Go.RowKit Go.Maps Go.Sort Go.Lib Go.Shelf Go.Proofs.YtodgbpggkikbcaaW.PrintWords Go.Proofs.YtodgbpggkikbcaaW.PrintLast Go.Proofs.YtodgbpggkikbcaaW.PrintMore FLib
attribute [local go_sem] below_alloc_T below_drew_T below_drewN_T

/-- Ahead of an expiry. -/
structure DeI (w : World) (p mb n : Nat) (clk : Int) (L : Slots) (W : World) : Prop where
  set : OwnT w p mb clk L W
  ok : LOk L
  late : Late L clk
  clk0 : 0 ≤ clk
  len : L.length = n
  all : ∀ i, i < n → ∃ b t, L[i]? = some (some (b, t))

set_option maxRecDepth 100000 in
set_option maxHeartbeats 2000000 in
theorem dead_law (A : Option Addr) (n cap : Nat) (S : List Spc) (w : World) (h : SpecR w A n S) :
    Calls Try.prog 3 #[.slice A n cap] w fun e w' => e = .returned (.bool true) ∧ Below w.heap.size w w' := by
  have HAR := Lib.hid (armed_any A n cap S w h)
  have HAW := Lib.hid (fun w => awake_any w)
  have hm := h.max
  have HL := Lib.hid h.len
  unfold maxLen at hm
  clear h
  by_cases hS : okS S
  · have HS := Lib.hid hS
    cases d1 : decide ((12 : Int) < (n : Int))
    · have HN := Lib.hid (show n ≤ 12 by have := of_decide_eq_false d1; omega)
      obtain ⟨i0, hi0, hz0, hz1, hz2⟩ := info_parts info30
      have hmk : ∀ W : World, (Instr.makeSlice 22 (.int .i64 (n : Int)) (.int .i64 (n : Int))).run Try.prog W = .ok (.slice (some ⟨W.heap.size, 0, none⟩) n n) (W.alloc (.cells (madeCells #[.int .i64 0, .int .i64 0, .int .i64 0] (n * 3)) 30)) := fun W => by
        have := run_make (P := Try.prog) (w := W) 22 30 i0 _ Try.underlying22 hi0 hz0 .i64 .i64 (n : Int) (n : Int) (by omega) (Int.le_refl _) (by rw [hz2]; have := HN.out; omega) (by have := HN.out; omega)
        rw [hz1, Int.toNat_natCast] at this
        exact this
      have HCS := Lib.hid (size_madeCells #[.int .i64 0, .int .i64 0, .int .i64 0] (n * 3))
      generalize madeCells #[.int .i64 0, .int .i64 0, .int .i64 0] (n * 3) = mk at hmk HCS
      clear hS hi0 hz0 hz1 hz2
      go_enter Try.func3, Try.ntmps3
      go_wp2_with fail
      refine HAR.out.mono ?_
      rintro e w1 hp
      obtain ⟨p, mb, L0, rfl, hI⟩ := hp.yes HS.out
      have HD := Lib.hid (show DeI w p mb n 0 L0 w1 from ⟨hI.own', hI.arm.tok HS.out.2, fun i b t hi hp => hp, Int.le_refl _, by rw [hI.arm.len, HL.out], fun i hi => by
        obtain ⟨b, hb⟩ := hI.arm.get (List.getElem?_eq_getElem (by rw [HL.out]; exact hi))
        exact ⟨b, _, hb⟩⟩)
      clear hp hI
      go_wp2
      go_loopw [27] (fun i wr => ∃ j : Nat, j ≤ 30 ∧ i = .int .i64 j ∧ Hid (∃ clk L, DeI w p mb n clk L wr)) (fun i _ => 30 - (RowKit.intOf i).toNat)
      case atStart => exact ⟨0, by omega, rfl, Lib.hid ⟨0, L0, HD.out⟩⟩
      case round =>
        obtain ⟨wo, rfl⟩ : ∃ wo : World, wo = wr := ⟨_, rfl⟩
        obtain ⟨j, hj, rfl, hR⟩ := hrel
        obtain ⟨clk, L, hD⟩ := hR.out
        have HI := Lib.hid hD
        clear hD
        by_cases hlt : j < 30
        · go_wp2_with fail
          refine (next_any p mb clk L HI.out.ok wo HI.out.set.set).mono ?_
          rintro e w2 ⟨rfl, hb2⟩
          have HO2 := Lib.hid (HI.out.set.call hb2)
          clear hb2
          have HPL := Lib.hid (dead_plain HI.out.ok HI.out.late HI.out.clk0)
          generalize nextV L = nv at HPL ⊢
          obtain ⟨n1, n2⟩ := nv
          simp only at HPL
          have hx : (n2 = false) ∨ (n2 = true ∧ decide (1099511627776 < n1) = true) ∨ (n2 = true ∧ decide (1099511627776 < n1) = false) := by
            cases n2 with
            | false => exact .inl rfl
            | true => cases h : decide (1099511627776 < n1) with
              | true => exact .inr (.inl ⟨rfl, rfl⟩)
              | false => exact .inr (.inr ⟨rfl, rfl⟩)
          rcases hx with rfl | ⟨rfl, d2⟩ | ⟨rfl, d2⟩
          · go_wp2_with fail
            refine (HAW.out _).mono ?_
            rintro e w3 ⟨rfl, hb3⟩
            have HB3 := Lib.hid (below_step HO2.out.low hb3)
            clear hb3
            go_wp2
            go_ret
            exact ⟨rfl, HB3.out⟩
          · go_wp2_with fail
            refine (HAW.out _).mono ?_
            rintro e w3 ⟨rfl, hb3⟩
            have HB3 := Lib.hid (below_step HO2.out.low hb3)
            clear hb3
            go_wp2
            go_ret
            exact ⟨rfl, HB3.out⟩
          · have hle := of_decide_eq_false d2
            have HP2 := Lib.hid (HPL.out rfl (by omega))
            clear HPL hle
            go_wp2
            obtain ⟨g, hg⟩ : ∃ g, w2.heap.size = g := ⟨_, rfl⟩
            have HNG := Lib.hid (show ¬ TOwn p mb L g from fun ho => by have := HO2.out.set.own_lt (k := g) ho; omega)
            have HGW := Lib.hid (show w.heap.size ≤ g by have := HO2.out.low.size; omega)
            have HD0 := Lib.hid (show DueR (w2.alloc (.cells mk 30)) g n L 0 from ⟨mk, by rw [← hg]; exact blk_new _ _, HCS.out, fun m b t hm => absurd hm (by omega)⟩)
            have HO0 := Lib.hid (HO2.out.call (below_alloc (Below.refl _ (w2)) (.cells mk 30)))
            rw [hg]
            clear hg
            go_loopw [45] (fun i wr => ∃ m : Nat, m ≤ n ∧ i = .int .i64 m ∧ Hid (OwnT w p mb clk L wr ∧ DueR wr g n L m)) (fun i _ => n - (RowKit.intOf i).toNat)
            case atStart => exact ⟨0, Nat.zero_le _, rfl, Lib.hid ⟨HO0.out, HD0.out⟩⟩
            case round =>
              obtain ⟨m, hm2, rfl, hR2⟩ := hrel
              by_cases hlt2 : m < n
              · obtain ⟨b, t, hit⟩ := HI.out.all m hlt2
                have hat : at' L (m : Int) = some (b, t) := at_nat_some.2 hit
                have HAT := Lib.hid hat
                have HIT := Lib.hid hit
                have hm0 : (0 : Int) ≤ (m : Int) := by omega
                have hm1 : (m : Int) < (n : Int) := by omega
                clear hat hit
                go_wp2_with fail
                refine (get_any p mb clk L (m : Int) (WalkArith.wf_i64 (by omega)) wr hR2.out.1.set).mono ?_
                rintro e w4 ⟨rfl, hb4⟩
                rw [HAT.out]
                simp only [specV, Option.isSome_some, if_true]
                have HR4 := Lib.hid (And.intro (hR2.out.1.call hb4) (hR2.out.2.below hb4))
                have HLT2 := Lib.hid hlt2
                clear hb4
                go_wp2_with (refine gate_ (.store 30 (.tmp 56) (.tmp 54)) rfl ?_; refine wpList_store_mid rfl 30 (.tmp 56) (.tmp 54) rfl g (m * 3) #[.int .i64 t.fst, .int .i64 t.ivl, .int .i64 t.tol] (by rfl) (by rfl) (HR4.out.2.there HLT2.out) (by kernel_rfl) (by kernel_rfl) ?_)
                go_roundw
                case rel => exact ⟨m + 1, by omega, by go_num, Lib.hid ⟨HR4.out.1.set' HNG.out HGW.out _ _, HR4.out.2.step HLT2.out HIT.out⟩⟩
                case measure => simp [RowKit.intOf]; omega
              · obtain rfl : m = n := by omega
                clear hlt2 hm2
                go_wp2_with fail
                refine (exp_any p mb clk L HI.out.ok n1 wr hR2.out.1.set).mono ?_
                intro e w4 hp
                have HO4 := Lib.hid (hR2.out.1.exp hp)
                have HD4 := Lib.hid (hR2.out.2.keep hp.keep HNG.out)
                obtain ⟨v, rfl, hv⟩ := hp.res
                rw [HP2.out.2.2.1] at HO4 hv
                have hC : expC clk n1 = n1 := by unfold expC; rw [if_pos (exp_ok HP2.out.1 HP2.out.2.1)]
                rw [hC] at HO4
                rw [exp_ok HP2.out.1 HP2.out.2.1]
                have hF := FRow.of hv
                obtain ⟨gf, cf, rfl, hcell⟩ := hF.row HP2.out.2.2.2.1
                have HC := Lib.hid hcell
                have HM := Lib.hid HP2.out.2.2.2.2
                have hpos := HP2.out.2.2.2.1
                have HN1 := Lib.hid HP2.out.1
                have hlen : (dueL L n1).length ≤ 12 := by
                  have h1 := (dueL_sub L n1)
                  have := HI.out.len; have := HN.out; omega
                clear hp hv hC hF hcell
                generalize hDD : dueL L n1 = D at *
                have HDD := Lib.hid hDD
                clear hDD
                have d3 : decide (D.length = 0) = false := by simp; intro e; rw [e] at hpos; simp at hpos
                have d4 : (D.length == 0) = false := by simp; intro e; rw [e] at hpos; simp at hpos
                have d5 : (((D.length : Nat) : Int) == 0) = false := by simp; intro e; rw [e] at hpos; simp at hpos
                have HS4 := Lib.hid (Below.refl w4.heap.size w4)
                clear hpos
                have HDL := Lib.hid hlen
                clear hlen
                go_wp2
                go_loopw [73] (fun i wr => ∃ k : Nat, k ≤ D.length ∧ i = .int .i64 k ∧ Hid (Below w4.heap.size w4 wr)) (fun i _ => D.length - (RowKit.intOf i).toNat)
                case atStart => exact ⟨0, Nat.zero_le _, rfl, HS4⟩
                case round =>
                  obtain ⟨k, hk, rfl, hR3⟩ := hrel
                  clear d3 d4 d5
                  by_cases hlt3 : k < D.length
                  · obtain ⟨i, hi⟩ : ∃ i, D[k]? = some i := ⟨_, List.getElem?_eq_getElem hlt3⟩
                    obtain ⟨b, t, hit, hp1, hp2, hp3⟩ := HM.out i (List.mem_of_getElem? hi)
                    have hta := tAt_of hit
                    have ha := fun j (hj : j < 7) => HC.out k i hi j hj
                    rw [hta] at ha
                    have hilt : i < m := by have := (List.getElem?_eq_some_iff.1 hit).1; have := HI.out.len; omega
                    obtain ⟨u0, u1, u2⟩ := HD4.out.cell hilt hit
                    have tok := HI.out.ok _ _ _ hit
                    have v0 : wr.cell? ⟨gf, k * 7, none⟩ = some (.int .i64 (i : Int)) := pw_cell_below hR3.out (ha 0 (by omega))
                    have v1 : wr.cell? ⟨gf, k * 7 + 1, none⟩ = some (.int .i64 t.e0) := pw_cell_below hR3.out (ha 1 (by omega))
                    have v2 : wr.cell? ⟨gf, k * 7 + 2, none⟩ = some (.int .i64 t.e1) := pw_cell_below hR3.out (ha 2 (by omega))
                    have v3 : wr.cell? ⟨gf, k * 7 + 3, none⟩ = some (.int .i64 t.e2) := pw_cell_below hR3.out (ha 3 (by omega))
                    have v4 : wr.cell? ⟨gf, k * 7 + 4, none⟩ = some (.int .i64 t.e3) := pw_cell_below hR3.out (ha 4 (by omega))
                    have v5 : wr.cell? ⟨gf, k * 7 + 5, none⟩ = some (.int .i64 t.e4) := pw_cell_below hR3.out (ha 5 (by omega))
                    have v6 : wr.cell? ⟨gf, k * 7 + 6, none⟩ = some (.int .i64 (overs t n1)) := pw_cell_below hR3.out (ha 6 (by omega))
                    have y0 := pw_cell_below hR3.out u0
                    have y1 := pw_cell_below hR3.out u1
                    have y2 := pw_cell_below hR3.out u2
                    have z0 := later_cell y0
                    have z1 := later_cell y1
                    have z2 := later_cell y2
                    have hs3 := Below.refl wr.heap.size wr
                    have hi0 : (0 : Int) ≤ (i : Int) := by omega
                    have hi1 : (i : Int) < (m : Int) := by omega
                    have hk0 : (0 : Int) ≤ (k : Int) := by omega
                    have hk1 : (k : Int) < (D.length : Int) := by omega
                    have d6 : (t.fst == 0) = false := by simp; omega
                    have d7 : decide (n1 < t.fst) = false := decide_eq_false (by omega)
                    have d8 : decide (t.fst + t.tol < n1) = false := decide_eq_false (by omega)
                    have b0 := tok.f0
                    have b1 := tok.f1
                    have b2 := tok.t0
                    have b3 := tok.t1
                    have hdl : (D.length : Int) ≤ 12 := by have := HDL.out; omega
                    clear ha hta hit hi u0 u1 u2 y0 y1 y2 tok hp1 hp2 hp3 hilt
                    go_wp2
                    go_roundw
                    case rel => exact ⟨k + 1, by omega, by go_num, Lib.hid (below_step hR3.out (below_alloc (below_alloc (Below.refl _ _) _) _))⟩
                    case measure => simp [RowKit.intOf]; omega
                  · obtain rfl : k = D.length := by omega
                    clear hlt3 hk
                    go_wp2
                    go_roundw
                    case rel =>
                      refine ⟨j + 1, by omega, by go_num, Lib.hid ⟨n1, fireD L n1 D, ?_⟩⟩
                      have ho := okT_iff.1 HN1.out
                      have e := HDD.out
                      refine ⟨HO4.out.call hR3.out, by rw [← e]; exact HI.out.ok.fire ho.2, by rw [← e]; exact late_fire HI.out.ok ho.2, ho.1, by rw [fireD_len]; exact HI.out.len, fun i hi => ?_⟩
                      obtain ⟨b, t, hit⟩ := HI.out.all i hi
                      by_cases hd : i ∈ D
                      · exact ⟨b, _, fireD_in hd hit⟩
                      · exact ⟨b, _, by rw [fireD_not hd]; exact hit⟩
                    case measure => simp [RowKit.intOf]; omega
        · obtain rfl : j = 30 := by omega
          go_wp2_with fail
          refine (HAW.out _).mono ?_
          rintro e w3 ⟨rfl, hb3⟩
          have HB3 := Lib.hid (below_step HI.out.set.low hb3)
          clear hb3
          go_wp2
          go_ret
          exact ⟨rfl, HB3.out⟩
    · clear hS
      go_enter Try.func3, Try.ntmps3
      go_wp2_with fail
      refine HAR.out.mono ?_
      rintro e w1 hp
      obtain ⟨p, mb, L, rfl, hI⟩ := hp.yes HS.out
      have HB1 := Lib.hid hI.low
      clear hp hI
      go_wp2_with fail
      refine (HAW.out _).mono ?_
      rintro e w2 ⟨rfl, hb2⟩
      have HB2 := Lib.hid (below_step HB1.out hb2)
      clear hb2
      go_wp2
      go_ret
      exact ⟨rfl, HB2.out⟩
  · have HS := Lib.hid hS
    clear hS
    cases d1 : decide ((12 : Int) < (n : Int))
    all_goals
      go_enter Try.func3, Try.ntmps3
      go_wp2_with fail
      refine HAR.out.mono ?_
      rintro e w1 hp
      obtain ⟨rfl, hb1⟩ := hp.no HS.out
      have HB1 := Lib.hid hb1
      clear hp hb1
      go_wp2_with fail
      refine (HAW.out _).mono ?_
      rintro e w2 ⟨rfl, hb2⟩
      have HB2 := Lib.hid (below_step HB1.out hb2)
      clear hb2
      go_wp2
      go_ret
      exact ⟨rfl, HB2.out⟩
end
end Go.Proofs.Ytodgbpggkikbcaa
