/- Timers: TimersPeriods. -/
import Derived.Test.YtodgbpggkikbcaaMI
namespace Go.Proofs.Ytodgbpggkikbcaa
section
set_option linter.unusedVariables false
set_option linter.unusedSimpArgs false
open Go.RowKit Go.Maps Go.Sort Go.Lib Go.Shelf Go.Proofs.YtodgbpggkikbcaaW.PrintWords Go.Proofs.YtodgbpggkikbcaaW.PrintLast Go.Proofs.YtodgbpggkikbcaaW.PrintMore FLib

/-- How many periods have begun. -/
def cntP (F I last : Int) : Int := if F ≤ last then (last - F) / I + 1 else 0
def nxtP (F I n : Int) : Int := if F + n * I ≤ 1099511627776 then F + n * I else 0
theorem cnt_nonneg {F I last : Int} (hI : 0 < I) : 0 ≤ cntP F I last := by
  unfold cntP
  split
  · have := Int.ediv_nonneg (a := last - F) (b := I) (by omega) (by omega); omega
  · omega
theorem cnt_le_last {F I last : Int} (hI : 0 < I) (hF : 0 < F) (h : last ≤ 1099511627776) : cntP F I last ≤ 1099511627776 := by
  unfold cntP
  split
  · have := Int.ediv_le_self (a := last - F) I (by omega); omega
  · omega
/-- The periods that have begun start no later. -/
theorem cnt_mul {F I last : Int} (hI : 0 < I) (h : F ≤ last) : (cntP F I last - 1) * I ≤ last - F := by
  unfold cntP
  rw [if_pos h]
  have := Int.ediv_mul_le (last - F) (b := I) (by omega)
  rw [Int.add_sub_cancel]; exact this
theorem per_same {F I last now n : Int} (hI : 0 < I) (hn : n = cntP F I last) (hl : last ≤ now) (h : now < F + n * I) : cntP F I now = n := by
  by_cases h1 : F ≤ last
  · have h2 := cnt_mul hI h1
    rw [← hn] at h2
    unfold cntP
    rw [if_pos (by omega)]
    have h3 : (now - F) / I = n - 1 := by
      have a : n - 1 ≤ (now - F) / I := (Int.le_ediv_iff_mul_le hI).2 (by omega)
      have b : (now - F) / I < n := Int.ediv_lt_of_lt_mul hI (by omega)
      omega
    omega
  · have h0 : n = 0 := by rw [hn]; unfold cntP; rw [if_neg h1]
    subst h0
    unfold cntP
    rw [if_neg (by omega)]
theorem per_fire {F I now n : Int} (hI : 0 < I) (hn : 0 ≤ n) (h : F + n * I ≤ now) : cntP F I now = n + (1 + (now - (F + n * I)) / I) := by
  have h0 : 0 ≤ n * I := Int.mul_nonneg hn (by omega)
  unfold cntP
  rw [if_pos (by omega)]
  have e : now - F = (now - (F + n * I)) + n * I := by omega
  rw [e, Int.add_mul_ediv_right _ _ (by omega)]
  omega

/-- The one timer, behind some expiries. -/
structure PerI (F I : Int) (b : Nat) (t0 : TT) (clk last n : Int) (L : Slots) : Prop where
  sh : L = [some (b, { t0 with fst := nxtP F I n })]
  cnt : n = cntP F I last
  clk : (last = -1 ∧ clk = 0) ∨ (last = clk ∧ 0 ≤ clk ∧ clk ≤ 1099511627776)
theorem one_at (b : Nat) (t : TT) : at' [some (b, t)] ((0 : Nat) : Int) = some (b, t) := rfl
theorem one_arm (b : Nat) (t : TT) : arm [some (b, t)] = if 0 < t.fst then [0] else [] := by
  have hi : ids [some (b, t)] = [0] := by rw [ids_all (by intro o ho; simp at ho; rw [ho]; rfl)]; rfl
  unfold Ytodgbpggkikbcaa.arm
  rw [ord_of (by rw [hi]; simp), hi]
  have : fstAt [some (b, t)] 0 = t.fst := rfl
  rw [List.filter_cons, this]
  by_cases h : 0 < t.fst <;> simp [h]
theorem one_next (b : Nat) (t : TT) : nextV [some (b, t)] = if 0 < t.fst then (t.fst + t.tol, true) else (0, false) := by
  unfold nextV
  rw [one_arm]
  by_cases h : 0 < t.fst
  · rw [if_pos h, if_pos h]; rfl
  · rw [if_neg h, if_neg h]; rfl
theorem one_due (b : Nat) (t : TT) (now : Int) : dueL [some (b, t)] now = if 0 < t.fst ∧ t.fst ≤ now then [0] else [] := by
  rw [due_eq, one_arm]
  by_cases h : 0 < t.fst
  · rw [if_pos h]
    have : fstAt [some (b, t)] 0 = t.fst := rfl
    rw [List.filter_cons, this]
    by_cases h2 : t.fst ≤ now <;> simp [h, h2]
  · rw [if_neg h, if_neg (fun h' => h h'.1)]; rfl
theorem one_exp {b : Nat} {t : TT} (ht : t.tol = 0) {clk now : Int} (he : expE clk now = 0) : expD [some (b, t)] clk now = if 0 < t.fst ∧ t.fst ≤ now then [0] else [] := by
  unfold expD expG
  rw [if_pos he, one_next, one_due]
  by_cases h : 0 < t.fst
  · rw [if_pos h, ht]
    by_cases h2 : t.fst ≤ now
    · simp [h, h2]
    · simp [h2]
  · rw [if_neg h]; simp [h]

/-- One expiry more. -/
theorem per_step {F I : Int} {b : Nat} {t0 : TT} (hI : 0 < I) (hF : 0 < F) (hF1 : F ≤ 1099511627776) (hi : t0.ivl = I) (ht : t0.tol = 0) {clk last n : Int} {L : Slots} (h : PerI F I b t0 clk last n L) {now : Int} (he : expE clk now = 0) :
    (expD L clk now = [] ∧ PerI F I b t0 now now n (fireD L now [])) ∨
    (expD L clk now = [0] ∧ (∃ t, tAt L 0 = t ∧ 0 ≤ overs t now ∧ overs t now ≤ 1099511627776 ∧ PerI F I b t0 now now (n + (1 + overs t now)) (fireD L now [0]))) := by
  obtain ⟨hsh, hcnt, hclk⟩ := h
  have hnow : 0 ≤ now ∧ now ≤ 1099511627776 ∧ clk ≤ now := by
    unfold expE at he
    split at he
    · rename_i ho
      have := okT_iff.1 ho
      split at he
      · cases he
      · omega
    · cases he
  have hlast : last ≤ now := by omega
  have hn0 : 0 ≤ n := by rw [hcnt]; exact cnt_nonneg hI
  have hnI : 0 ≤ n * I := Int.mul_nonneg hn0 (by omega)
  have hD : expD L clk now = if 0 < nxtP F I n ∧ nxtP F I n ≤ now then [0] else [] := by
    rw [hsh]; exact one_exp (t := { t0 with fst := nxtP F I n }) ht he
  by_cases hc : 0 < nxtP F I n ∧ nxtP F I n ≤ now
  · right
    rw [hD, if_pos hc]
    have hf : nxtP F I n = F + n * I := by
      unfold nxtP at hc ⊢
      split
      · rfl
      · rename_i hx; rw [if_neg hx] at hc; omega
    have hta : tAt L 0 = { t0 with fst := nxtP F I n } := by rw [hsh]; rfl
    refine ⟨rfl, _, hta, ?_⟩
    have hov : overs { t0 with fst := nxtP F I n } now = (now - (F + n * I)) / I := by
      unfold overs
      simp only [hi]
      rw [if_neg (by omega), hf]
    have hp := per_fire hI hn0 (F := F) (now := now) (by omega)
    have ho0 : 0 ≤ (now - (F + n * I)) / I := Int.ediv_nonneg (by omega) (by omega)
    have ho1 : (now - (F + n * I)) / I ≤ now - (F + n * I) := Int.ediv_le_self _ (by omega)
    rw [hov]
    refine ⟨ho0, by omega, ?_, hp.symm, .inr ⟨rfl, hnow.1, hnow.2.1⟩⟩
    rw [hsh]
    have e : fireD [some (b, { t0 with fst := nxtP F I n })] now [0] = [some (b, fireT { t0 with fst := nxtP F I n } now)] := rfl
    rw [e]
    have e2 : nextF { t0 with fst := nxtP F I n } now = nxtP F I (n + (1 + (now - (F + n * I)) / I)) := by
      unfold nextF
      rw [hov]
      simp only [hi]
      rw [if_neg (by omega), hf]
      have e3 : F + n * I + ((now - (F + n * I)) / I + 1) * I = F + (n + (1 + (now - (F + n * I)) / I)) * I := by
        rw [Int.add_mul n, Int.add_comm 1]; omega
      rw [e3]
      unfold nxtP
      generalize F + (n + (1 + (now - (F + n * I)) / I)) * I = x
      split <;> split <;> omega
    unfold fireT
    rw [e2]
  · left
    rw [hD, if_neg hc]
    refine ⟨rfl, ?_, ?_, .inr ⟨rfl, hnow.1, hnow.2.1⟩⟩
    · rw [fireD_nil]; exact hsh
    · refine (per_same hI hcnt hlast ?_).symm
      unfold nxtP at hc
      split at hc
      · have : 0 < F + n * I := by omega
        have hc2 : ¬ (F + n * I ≤ now) := fun h => hc ⟨this, h⟩
        omega
      · omega
end
section
set_option linter.unusedVariables false
set_option linter.unusedSimpArgs false
open Go.RowKit Go.Maps Go.Sort Go.Lib Go.Shelf Go.Proofs.YtodgbpggkikbcaaW.PrintWords Go.Proofs.YtodgbpggkikbcaaW.PrintLast Go.Proofs.YtodgbpggkikbcaaW.PrintMore FLib
attribute [local go_sem] below_alloc_T below_drew_T below_drewN_T

/-- A slice of numbers. -/
structure IntR (W : World) (A : Option Addr) (n : Nat) (zs : List Int) : Prop where
  len : zs.length = n
  max : n ≤ maxLen
  cell : ∀ (i : Nat) (z : Int), zs[i]? = some z → ∃ a, A = some a ∧ W.cell? (a.add i) = some (.int .i64 z)
theorem IntR.below {W W' : World} {A : Option Addr} {n : Nat} {zs : List Int} (h : IntR W A n zs) (hb : Below W.heap.size W W') : IntR W' A n zs :=
  ⟨h.len, h.max, fun i z hz => by
    obtain ⟨a, h0, h1⟩ := h.cell i z hz
    exact ⟨a, h0, pw_cell_below hb h1⟩⟩
theorem nxtP_ok {F I n : Int} (hF : 0 < F) (hI : 0 < I) (hn : 0 ≤ n) : 0 ≤ nxtP F I n ∧ nxtP F I n ≤ 1099511627776 := by
  have := Int.mul_nonneg hn (show 0 ≤ I by omega)
  unfold nxtP
  split <;> omega
theorem PerI.ok {F I : Int} {b : Nat} {t0 : TT} {clk last n : Int} {L : Slots} (h : PerI F I b t0 clk last n L) (hF : 0 < F) (hI : 0 < I) (ht : TOk t0) : LOk L := by
  rw [h.sh]
  intro i b' t' hi
  have hn : 0 ≤ n := by rw [h.cnt]; exact cnt_nonneg hI
  obtain ⟨f0, f1⟩ := nxtP_ok (n := n) hF hI hn
  cases i with
  | zero =>
    simp only [List.getElem?_cons_zero, Option.some.injEq, Prod.mk.injEq] at hi
    rw [← hi.2]
    exact ⟨f0, f1, ht.i0, ht.i1, ht.t0, ht.t1⟩
  | succ i => simp at hi
theorem per_start {F I : Int} {b : Nat} (hF : 0 < F) (hF1 : F ≤ 1099511627776) : PerI F I b (mkT 0 (F, I, 0)) 0 (-1) 0 [some (b, mkT 0 (F, I, 0))] := by
  refine ⟨?_, ?_, .inl ⟨rfl, rfl⟩⟩
  · unfold nxtP
    rw [Int.zero_mul, Int.add_zero, if_pos hF1]; rfl
  · unfold cntP; rw [if_neg (by omega)]

set_option maxRecDepth 100000 in
set_option maxHeartbeats 4000000 in
theorem per_law (F I T : Int) (A : Option Addr) (n cap : Nat) (zs : List Int) (w : World) (h : IntR w A n zs) :
    Calls Try.prog 5 #[.agg #[.int .i64 F, .int .i64 I, .int .i64 T], .slice A n cap] w fun e w' => e = .returned (.bool true) ∧ Below w.heap.size w w' := by
  have HAW := Lib.hid (fun w => awake_any w)
  have HIR := Lib.hid h
  have hm := h.max
  unfold maxLen at hm
  clear h
  have hd : (T != 0) = true ∨ ((T != 0) = false ∧ decide (I ≤ 0) = true) ∨ ((T != 0) = false ∧ decide (I ≤ 0) = false ∧ decide ((30 : Int) < (n : Int)) = true) ∨ ((T != 0) = false ∧ decide (I ≤ 0) = false ∧ decide ((30 : Int) < (n : Int)) = false) := by
    cases (T != 0) <;> cases decide (I ≤ 0) <;> cases decide ((30 : Int) < (n : Int)) <;> simp
  rcases hd with d1 | ⟨d1, d2⟩ | ⟨d1, d2, d3⟩ | ⟨d1, d2, d3⟩
  case inr.inr.inr =>
    have hT : T = 0 := by simpa using d1
    subst hT
    have hI : 0 < I := by have := of_decide_eq_false d2; omega
    have HI := Lib.hid hI
    have HN := Lib.hid (show n ≤ 30 by have := of_decide_eq_false d3; omega)
    have HAR := Lib.hid (fun A S w h => armed_any A 1 1 S w h)
    clear hI d1
    have d1 : ((0 : Int) != 0) = false := rfl
    go_enter Try.func5, Try.ntmps5
    go_wp2_with fail
    obtain ⟨w2, hw2⟩ : ∃ w2, (w.alloc (.cells #[.int .i64 F, .int .i64 I, .int .i64 0] 30)).alloc (.cells #[.int .i64 F, .int .i64 I, .int .i64 0] 30) = w2 := ⟨_, rfl⟩
    have hsp : SpecR w2 (some ⟨w.heap.size + 1, 0, none⟩) 1 [(F, I, 0)] := by
      have hb : w2.heap[w.heap.size + 1]? = some (.cells #[.int .i64 F, .int .i64 I, .int .i64 0] 30 (0, 0)) := by
        rw [← hw2]; simpa using blk_new (w.alloc (.cells #[.int .i64 F, .int .i64 I, .int .i64 0] 30)) (.cells #[.int .i64 F, .int .i64 I, .int .i64 0] 30)
      refine ⟨rfl, by unfold maxLen; omega, fun i s hs => ⟨_, rfl, ?_⟩⟩
      cases i with
      | zero =>
        simp only [List.getElem?_cons_zero, Option.some.injEq] at hs
        subst hs
        exact ⟨blk_cell hb 0, blk_cell hb 1, blk_cell hb 2⟩
      | succ i => simp at hs
    have HB2 := Lib.hid (show Below w.heap.size w w2 by rw [← hw2]; exact below_alloc (below_alloc (Below.refl _ _) _) _)
    have hbx : w2.heap[w.heap.size]? = some (.cells #[.int .i64 F, .int .i64 I, .int .i64 0] 30 (0, 0)) := by rw [← hw2]; exact blk_alloc (blk_new w _) _
    have x0 := later_cell (v := .int .i64 F) (blk_cell hbx 0)
    have x1 := later_cell (v := .int .i64 I) (blk_cell hbx 1)
    rw [hw2]
    clear hw2 hbx
    refine (HAR.out _ _ _ hsp).mono ?_
    intro e w3 hp
    clear hsp HAR
    by_cases hS : okS [(F, I, 0)]
    · obtain ⟨p, mb, L, rfl, hA⟩ := hp.yes hS
      have HA := Lib.hid hA
      have HOK := Lib.hid (show specOk F I 0 = true from hS.2 (F, I, 0) (List.mem_cons_self ..))
      have c0 := x0 w3 hA.low
      clear hp hA hS
      by_cases hF : F = 0
      · have d4 : (F == 0) = true := by simpa using hF
        clear hF
        go_wp2_with fail
        refine (HAW.out _).mono ?_
        rintro e w4 ⟨rfl, hb4⟩
        have HB4 := Lib.hid (below_step (HB2.out.trans (HA.out.low.mono HB2.out.size)) hb4)
        clear hb4
        go_wp2
        go_ret
        exact ⟨rfl, HB4.out⟩
      · have d4 : (F == 0) = false := by simpa using hF
        obtain ⟨⟨f0, f1⟩, ⟨i0, i1⟩, -⟩ := specOk_iff.1 HOK.out
        have hF0 : 0 < F := by omega
        obtain ⟨b, hb⟩ : ∃ b, L = [some (b, mkT 0 (F, I, 0))] := by
          obtain ⟨bs, h1, h2⟩ := HA.out.arm
          match bs, h1 with
          | [b], _ => exact ⟨b, h2⟩
        have HP0 := Lib.hid (show PerI F I b (mkT 0 (F, I, 0)) 0 (-1) 0 L by rw [hb]; exact per_start hF0 f1)
        have HF := Lib.hid (And.intro hF0 f1)
        have HO0 := Lib.hid HA.out.own'
        have HTK := Lib.hid (show TOk (mkT 0 (F, I, 0)) from tok_of (s := (F, I, 0)) HOK.out)
        clear hF hb f0 i0
        go_wp2
        go_loopw [7, 8, 46] (fun vn vl i wr => ∃ (j : Nat) (m last : Int), j ≤ n ∧ i = .int .i64 j ∧ vn = .int .i64 m ∧ vl = .int .i64 last ∧ Hid (∃ clk L, OwnT w2 p mb clk L wr ∧ PerI F I b (mkT 0 (F, I, 0)) clk last m L)) (fun _ _ i _ => n - (RowKit.intOf i).toNat)
        case atStart => exact ⟨0, 0, -1, Nat.zero_le _, rfl, rfl, rfl, Lib.hid ⟨0, L, HO0.out, HP0.out⟩⟩
        case round =>
          obtain ⟨wo, rfl⟩ : ∃ wo : World, wo = wr := ⟨_, rfl⟩
          obtain ⟨j, m, last, hj, rfl, rfl, rfl, hR⟩ := hrel
          obtain ⟨clk, L1, hO, hP⟩ := hR.out
          have HO := Lib.hid hO
          have HP := Lib.hid hP
          have hm0 : 0 ≤ m := by rw [hP.cnt]; exact cnt_nonneg HI.out
          have hlast : last ≤ 1099511627776 := by rcases hP.clk with h | h <;> omega
          have hlast0 : -1 ≤ last := by rcases hP.clk with h | h <;> omega
          have hm1 : m ≤ 1099511627776 := by rw [hP.cnt]; exact cnt_le_last HI.out HF.out.1 hlast
          clear hO hP
          by_cases hlt : j < n
          · obtain ⟨z, hz⟩ : ∃ z, zs[j]? = some z := ⟨_, List.getElem?_eq_getElem (by rw [HIR.out.len]; exact hlt)⟩
            obtain ⟨a, rfl, ca⟩ := (HIR.out.below (HB2.out.trans (HO.out.low.mono HB2.out.size))).cell j z hz
            have hlt' : (j : Int) < (n : Int) := by omega
            have hj0 : (0 : Int) ≤ (j : Int) := by omega
            clear hz
            go_wp2_with fail
            refine (exp_any p mb clk L1 (HP.out.ok HF.out.1 HI.out HTK.out) z wo HO.out.set).mono ?_
            intro e w5 hp
            have HO5 := Lib.hid (HO.out.exp hp)
            obtain ⟨v, rfl, hv⟩ := hp.res
            clear hp ca
            by_cases he : expE clk z = 0
            · have HST := Lib.hid (per_step HI.out HF.out.1 HF.out.2 rfl rfl HP.out he)
              have hC : expC clk z = z := by unfold expC; rw [if_pos he]
              rw [hC] at HO5
              rw [he]
              rcases HST.out with ⟨hD, hP2⟩ | ⟨hD, t, hta, ho0, ho1, hP2⟩
              · rw [hD] at HO5 hv
                have HP2 := Lib.hid hP2
                have hvf := own_form hv
                clear he hC hD hv hP2 HST
                rcases hvf with rfl | ⟨gf, cf, rfl⟩
                all_goals
                  go_wp2
                  refine wp_loop_rounds 1 ?_
                  rw [rounds_succ]
                  go_wp2
                  go_roundw
                  case rel => exact ⟨j + 1, m, z, by omega, by go_num, rfl, rfl, Lib.hid ⟨z, _, HO5.out, HP2.out⟩⟩
                  case measure => simp [RowKit.intOf]; omega
              · rw [hD] at HO5 hv
                have HP2 := Lib.hid hP2
                have hF5 := FRow.of hv
                obtain ⟨gf, cf, rfl, hcell⟩ := hF5.row (by simp)
                have hc := fun q (hq : q < 7) => hcell 0 0 rfl q hq
                rw [hta] at hc
                have v0 : w5.cell? ⟨gf, 0, none⟩ = some (.int .i64 ((0 : Nat) : Int)) := hc 0 (by omega)
                have v1 : w5.cell? ⟨gf, 1, none⟩ = some (.int .i64 t.e0) := hc 1 (by omega)
                have v2 : w5.cell? ⟨gf, 2, none⟩ = some (.int .i64 t.e1) := hc 2 (by omega)
                have v3 : w5.cell? ⟨gf, 3, none⟩ = some (.int .i64 t.e2) := hc 3 (by omega)
                have v4 : w5.cell? ⟨gf, 4, none⟩ = some (.int .i64 t.e3) := hc 4 (by omega)
                have v5 : w5.cell? ⟨gf, 5, none⟩ = some (.int .i64 t.e4) := hc 5 (by omega)
                have v6 : w5.cell? ⟨gf, 6, none⟩ = some (.int .i64 (overs t z)) := hc 6 (by omega)
                generalize overs t z = ov at *
                simp only [List.length_cons, List.length_nil, Nat.zero_add]
                clear he hC hD hv hP2 HST hF5 hcell hc hta
                go_wp2
                refine wp_loop_rounds 2 ?_
                rw [rounds_succ]
                go_wp2
                try rw [rounds_succ]
                go_wp2
                go_roundw
                case rel => exact ⟨j + 1, m + (1 + ov), z, by omega, by go_num, rfl, rfl, Lib.hid ⟨z, _, HO5.out.call (below_alloc (Below.refl _ _) _), HP2.out⟩⟩
                case measure => simp [RowKit.intOf]; omega
            · have hD : expD L1 clk z = [] := by unfold expD; rw [if_neg he]
              have hC : expC clk z = clk := by unfold expC; rw [if_neg he]
              rw [hD, hC, fireD_nil] at HO5
              rw [hD] at hv
              have hvf := own_form hv
              have d5 : (expE clk z != 0) = true := by simpa using he
              clear he hD hC hv
              generalize expE clk z = ez at d5 ⊢
              rcases hvf with rfl | ⟨gf, cf, rfl⟩
              all_goals
                go_wp2
                go_roundw
                case rel => exact ⟨j + 1, m, last, by omega, by go_num, rfl, rfl, Lib.hid ⟨clk, L1, HO5.out, HP.out⟩⟩
                case measure => simp [RowKit.intOf]; omega
          · obtain rfl : j = n := by omega
            clear hlt hj
            have c0' := x0 wo HO.out.low
            have c1' := x1 wo HO.out.low
            have HCN := Lib.hid HP.out.cnt
            have hI := HI.out
            have hF0 := HF.out.1
            have hF1 := HF.out.2
            clear x0 x1 c0
            cases d6 : decide (F ≤ last)
            · have d7 : (m == 0) = true := by have := HCN.out; unfold cntP at this; rw [if_neg (of_decide_eq_false d6)] at this; simpa using this
              go_wp2_with fail
              refine (HAW.out _).mono ?_
              rintro e w4 ⟨rfl, hb4⟩
              have HB4 := Lib.hid (below_step (HB2.out.trans (HO.out.low.mono HB2.out.size)) hb4)
              clear hb4
              go_wp2
              go_ret
              exact ⟨rfl, HB4.out⟩
            · have hle := of_decide_eq_true d6
              have hdv0 : 0 ≤ (last - F) / I := Int.ediv_nonneg (by omega) (by omega)
              have hdv1 : (last - F) / I ≤ last - F := Int.ediv_le_self _ (by omega)
              have d7 : (m == (last - F) / I + 1) = true := by have := HCN.out; unfold cntP at this; rw [if_pos hle] at this; simpa using this
              go_wp2_with fail
              refine (HAW.out _).mono ?_
              rintro e w4 ⟨rfl, hb4⟩
              have HB4 := Lib.hid (below_step (HB2.out.trans (HO.out.low.mono HB2.out.size)) hb4)
              clear hb4
              go_wp2
              go_ret
              exact ⟨rfl, HB4.out⟩
    · obtain ⟨rfl, hb3⟩ := hp.no hS
      have HB3 := Lib.hid (HB2.out.trans (hb3.mono HB2.out.size))
      clear hp hS hb3
      go_wp2_with fail
      refine (HAW.out _).mono ?_
      rintro e w4 ⟨rfl, hb4⟩
      have HB4 := Lib.hid (below_step HB3.out hb4)
      clear hb4
      go_wp2
      go_ret
      exact ⟨rfl, HB4.out⟩
  all_goals
    go_enter Try.func5, Try.ntmps5
    go_wp2_with fail
    refine (HAW.out _).mono ?_
    rintro e w1 ⟨rfl, hb1⟩
    have HB1 := Lib.hid (below_step (below_alloc (Below.refl _ _) _) hb1)
    clear hb1
    go_wp2
    go_ret
    exact ⟨rfl, HB1.out⟩
end
end Go.Proofs.Ytodgbpggkikbcaa
