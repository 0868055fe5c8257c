/- Timers: plain laws; TimersLeft. -/
import Derived.Test.YtodgbpggkikbcaaMG
namespace Go.Proofs.Ytodgbpggkikbcaa
section
set_option linter.unusedVariables false
set_option linter.unusedSimpArgs false
open Go.RowKit Go.Maps Go.Sort Go.Lib Go.Shelf Go.Proofs.YtodgbpggkikbcaaW.PrintWords Go.Proofs.YtodgbpggkikbcaaW.PrintLast Go.Proofs.YtodgbpggkikbcaaW.PrintMore FLib

theorem next_spec (L : Slots) : ∀ k, k ≤ (arm L).length → ((nextS L k).2 = true ↔ 0 < k) ∧ (0 < k → (∃ i ∈ (arm L).take k, (nextS L k).1 = fstAt L i + tolAt L i) ∧ ∀ j ∈ (arm L).take k, (nextS L k).1 ≤ fstAt L j + tolAt L j)
  | 0, _ => ⟨by simp [nextS], fun h => absurd h (by omega)⟩
  | k + 1, hk => by
    obtain ⟨h1, h2⟩ := next_spec L k (by omega)
    obtain ⟨i, hi⟩ : ∃ i, (arm L)[k]? = some i := ⟨_, List.getElem?_eq_getElem (by omega)⟩
    rw [nextS_succ hi, arm_take_succ hi]
    unfold stepN
    by_cases hc : (!(nextS L k).2 || decide (fstAt L i + tolAt L i < (nextS L k).1)) = true
    · rw [if_pos hc]
      refine ⟨by simp, fun _ => ⟨⟨i, by simp, rfl⟩, fun j hj => ?_⟩⟩
      rcases List.mem_append.1 hj with hj | hj
      · have hk0 : 0 < k := by
          rcases Nat.eq_zero_or_pos k with e | e
          · subst e; simp at hj
          · exact e
        have := (h2 hk0).2 j hj
        rw [(h1.2 hk0)] at hc
        simp at hc
        show fstAt L i + tolAt L i ≤ _
        omega
      · rw [List.mem_singleton.1 hj]; exact Int.le_refl _
    · rw [if_neg hc]
      simp only [Bool.or_eq_true, Bool.not_eq_true', decide_eq_true_eq, not_or, Bool.not_eq_false] at hc
      have hk0 := h1.1 hc.1
      obtain ⟨⟨i0, m0, e0⟩, hm⟩ := h2 hk0
      refine ⟨by simp [hc.1], fun _ => ⟨⟨i0, List.mem_append_left _ m0, e0⟩, fun j hj => ?_⟩⟩
      rcases List.mem_append.1 hj with hj | hj
      · exact hm j hj
      · rw [List.mem_singleton.1 hj]; omega
theorem next_some {L : Slots} (h : (nextV L).2 = true) : (∃ i ∈ arm L, (nextV L).1 = fstAt L i + tolAt L i) ∧ ∀ j ∈ arm L, (nextV L).1 ≤ fstAt L j + tolAt L j := by
  have := next_spec L (arm L).length (Nat.le_refl _)
  rw [nextS_all, List.take_length] at this
  exact this.2 (this.1.1 h)
theorem next_any_arm {L : Slots} {i : Nat} (h : i ∈ arm L) : (nextV L).2 = true := by
  have := next_spec L (arm L).length (Nat.le_refl _)
  rw [nextS_all] at this
  exact this.1.2 (List.length_pos_of_mem h)
theorem takeWhile_filter {α : Type} (p : α → Bool) : ∀ (l : List α), l.Pairwise (fun a b => p b = true → p a = true) → l.takeWhile p = l.filter p
  | [], _ => rfl
  | x :: l, h => by
    rw [List.pairwise_cons] at h
    rw [List.takeWhile_cons, List.filter_cons]
    split
    · rw [takeWhile_filter p l h.2]
    · rename_i hx
      symm
      rw [List.filter_eq_nil_iff]
      exact fun y hy hp => hx (h.1 y hy hp)
theorem arm_sorted (L : Slots) : (arm L).Pairwise (fun a b => leT L a b = true) := (ord_sorted L).filter _
theorem due_eq (L : Slots) (now : Int) : dueL L now = (arm L).filter (fun i => decide (fstAt L i ≤ now)) := by
  unfold dueL
  refine takeWhile_filter _ _ ((arm_sorted L).imp (fun {a b} hab hb => ?_))
  rw [leT_iff] at hab
  simp only [decide_eq_true_eq] at hb ⊢
  omega
theorem mem_due {L : Slots} {now : Int} {i : Nat} : i ∈ dueL L now ↔ i ∈ arm L ∧ fstAt L i ≤ now := by
  rw [due_eq, List.mem_filter, decide_eq_true_eq]

/-- All timers' numbers are ticks. -/
def LOk (L : Slots) : Prop := ∀ (i b : Nat) (t : TT), L[i]? = some (some (b, t)) → TOk t
/-- Whatever is armed is due later. -/
def Late (L : Slots) (clk : Int) : Prop := ∀ (i b : Nat) (t : TT), L[i]? = some (some (b, t)) → 0 < t.fst → clk < t.fst
theorem arm_iff {L : Slots} {i b : Nat} {t : TT} (h : L[i]? = some (some (b, t))) : i ∈ arm L ↔ 0 < t.fst := by
  rw [mem_arm, fst_of h]
  exact ⟨fun h => h.2, fun h2 => ⟨isT_iff.2 ⟨b, t, h⟩, h2⟩⟩
theorem arm_get2 {L : Slots} {i : Nat} (h : i ∈ arm L) : ∃ b t, L[i]? = some (some (b, t)) ∧ fstAt L i = t.fst ∧ tolAt L i = t.tol ∧ 0 < t.fst := by
  obtain ⟨h1, h2⟩ := mem_arm.1 h
  obtain ⟨b, t, hit⟩ := isT_iff.1 h1
  rw [fst_of hit] at h2
  exact ⟨b, t, hit, fst_of hit, by unfold tolAt; rw [at_nat_some.2 hit], h2⟩
theorem nextF_late {t : TT} (ht : TOk t) {now : Int} (h0 : t.fst ≤ now) (h1 : now ≤ 1099511627776) : nextF t now = 0 ∨ now < nextF t now := by
  unfold nextF
  split
  · exact .inl rfl
  · rename_i hz
    split
    · exact .inl rfl
    · right
      unfold overs
      rw [if_neg hz]
      have p : 0 < t.ivl := by have := ht.i0; omega
      have := Int.lt_ediv_add_one_mul_self (now - t.fst) p
      omega
theorem fire_back {L : Slots} {now : Int} {D : List Nat} {i b : Nat} {t' : TT} (h : (fireD L now D)[i]? = some (some (b, t'))) : ∃ t, L[i]? = some (some (b, t)) ∧ t' = if i ∈ D then fireT t now else t := by
  rw [fireD_get] at h
  cases hi : L[i]? with
  | none => rw [hi] at h; cases h
  | some o =>
    rw [hi] at h
    cases o with
    | none => simp at h
    | some x =>
      obtain ⟨b0, t0⟩ := x
      refine ⟨t0, ?_, ?_⟩
      · simp only [Option.map_some, Option.some.injEq] at h
        split at h <;> (injection h with h; injection h with h1 h2; rw [h1])
      · simp only [Option.map_some, Option.some.injEq] at h
        split at h <;> (rename_i hd; injection h with h; injection h with h1 h2; simp [hd, h2])
theorem LOk.fire {L : Slots} (h : LOk L) {now : Int} (h1 : now ≤ 1099511627776) : LOk (fireD L now (dueL L now)) := fun i b t' hi => by
  obtain ⟨t, ht, rfl⟩ := fire_back hi
  split
  · rename_i hd
    have := (mem_due.1 hd).2
    rw [fst_of ht] at this
    exact fireT_ok (h _ _ _ ht) this h1
  · exact h _ _ _ ht
theorem late_fire {L : Slots} (h : LOk L) {now : Int} (h1 : now ≤ 1099511627776) : Late (fireD L now (dueL L now)) now := fun i b t' hi hp => by
  obtain ⟨t, ht, rfl⟩ := fire_back hi
  split at hp
  · rename_i hd
    rw [if_pos hd]
    have hd2 := (mem_due.1 hd).2
    rw [fst_of ht] at hd2
    rcases nextF_late (h _ _ _ ht) hd2 h1 with e | e
    · have : (fireT t now).fst = nextF t now := rfl
      rw [this, e] at hp; omega
    · exact e
  · rename_i hd
    rw [if_neg hd]
    have : i ∈ arm L := (arm_iff ht).2 hp
    rcases Int.lt_or_le now t.fst with h2 | h2
    · exact h2
    · exact absurd (mem_due.2 ⟨this, by rw [fst_of ht]; exact h2⟩) hd
theorem late_next {L : Slots} (h : LOk L) {clk : Int} (hl : Late L clk) (hn : (nextV L).2 = true) : clk < (nextV L).1 := by
  obtain ⟨⟨i, hi, e⟩, -⟩ := next_some hn
  obtain ⟨b, t, hit, e1, e2, hp⟩ := arm_get2 hi
  have := hl i b t hit hp
  have := (h i b t hit).t0
  omega
theorem exp_all (L : Slots) (clk now : Int) : expD L clk now = [] ∨ expD L clk now = dueL L now := by
  unfold expD
  split
  · split
    · exact .inr rfl
    · exact .inl rfl
  · exact .inl rfl
theorem LOk.exp {L : Slots} (h : LOk L) (clk now : Int) : LOk (fireD L now (expD L clk now)) := by
  unfold expD
  split
  · rename_i he
    split
    · refine h.fire ?_
      unfold expE at he
      split at he
      · rename_i ho; simp [okT] at ho; exact ho.2
      · cases he
    · rw [fireD_nil]; exact h
  · rw [fireD_nil]; exact h
end
section
set_option linter.unusedVariables false
set_option linter.unusedSimpArgs false
open Go.RowKit Go.Maps Go.Sort Go.Lib Go.Shelf Go.Proofs.YtodgbpggkikbcaaW.PrintWords Go.Proofs.YtodgbpggkikbcaaW.PrintLast Go.Proofs.YtodgbpggkikbcaaW.PrintMore FLib
attribute [local go_sem] below_alloc_T below_drew_T below_drewN_T

/-- A set in blocks of the call's own. -/
structure OwnT (w : World) (p mb : Nat) (clk : Int) (L : Slots) (W : World) : Prop where
  low : Below w.heap.size w W
  set : TS W p mb clk L
  own : ∀ j, TOwn p mb L j → w.heap.size ≤ j
theorem ArI.own' {own : Int} {w : World} {p mb : Nat} {S : List Spc} {L : Slots} {W : World} (h : ArI own w p mb S L W) : OwnT w p mb 0 L W := ⟨h.low, h.set, h.own⟩
theorem OwnT.call {w : World} {p mb : Nat} {clk : Int} {L : Slots} {W W' : World} (h : OwnT w p mb clk L W) (hb : Below W.heap.size W W') : OwnT w p mb clk L W' :=
  ⟨below_step h.low hb, h.set.below hb, h.own⟩
theorem OwnT.exp {w : World} {p mb : Nat} {clk : Int} {L : Slots} {W W' : World} {now : Int} {e : Ending} (h : OwnT w p mb clk L W) (hp : ExpPost p mb clk L now W e W') : OwnT w p mb (expC clk now) (fireD L now (expD L clk now)) W' :=
  ⟨below_keeps h.low hp.keep h.own, hp.set, fun j hj => h.own j (own_fire.1 hj)⟩

theorem exp_ok {clk now : Int} (h : okT now = true) (hc : clk ≤ now) : expE clk now = 0 := by
  unfold expE; rw [if_pos h, if_neg (by omega)]
theorem exp_bad {clk now : Int} (h : okT now = false) : expE clk now = 34 := by unfold expE; rw [if_neg (by rw [h]; decide)]
theorem okT_iff {n : Int} : okT n = true ↔ 0 ≤ n ∧ n ≤ 1099511627776 := by simp [okT]
theorem left_next {L : Slots} (h : LOk L) {now : Int} (ho : okT now = true) {clk : Int} (hc : clk ≤ now) : expG (fireD L now (expD L clk now)) now = false := by
  have h1 := (okT_iff.1 ho).2
  unfold expD
  rw [if_pos (exp_ok ho hc)]
  cases hg : expG L now with
  | true =>
    rw [if_pos rfl]
    unfold expG
    cases hn : (nextV (fireD L now (dueL L now))).2 with
    | false => rfl
    | true =>
      have := late_next (h.fire h1) (late_fire h h1) hn
      simp; omega
  | false => simp only [Bool.false_eq_true, if_false]; rw [fireD_nil]; exact hg
theorem left_late {L : Slots} (h : LOk L) {now : Int} (ho : okT now = true) {clk : Int} (hk : 0 < (expD L clk now).length) : Late (fireD L now (expD L clk now)) now := by
  rcases exp_all L clk now with e | e
  · rw [e] at hk; simp at hk
  · rw [e]; exact late_fire h (okT_iff.1 ho).2
theorem exp_none_D {L : Slots} {clk now : Int} (h : expG L now = false) : expD L clk now = [] := by
  unfold expD; rw [h]; split <;> rfl

set_option maxRecDepth 100000 in
set_option maxHeartbeats 2000000 in
theorem left_law (A : Option Addr) (n cap : Nat) (S : List Spc) (now : Int) (w : World) (h : SpecR w A n S) :
    Calls Try.prog 4 #[.slice A n cap, .int .i64 now] w fun e w' => e = .returned (.bool true) ∧ Below w.heap.size w w' := by
  have HAR := Lib.hid (armed_any A n cap S w h)
  have HAW := Lib.hid (fun w => awake_any w)
  have hm := h.max
  have HL := Lib.hid h.len
  unfold maxLen at hm
  clear h
  by_cases hS : okS S
  · have HS := Lib.hid hS
    cases d1 : decide ((12 : Int) < (n : Int))
    · have HN := Lib.hid (show n ≤ 12 by have := of_decide_eq_false d1; omega)
      clear hS
      go_enter Try.func4, Try.ntmps4
      go_wp2_with fail
      refine HAR.out.mono ?_
      rintro e w1 hp
      obtain ⟨p, mb, L, rfl, hI⟩ := hp.yes HS.out
      have HO := Lib.hid hI.own'
      have HLK := Lib.hid (show LOk L from hI.arm.tok HS.out.2)
      have HLL := Lib.hid (show L.length = n by rw [hI.arm.len, HL.out])
      have HALL := Lib.hid hI.arm
      clear hp hI
      go_wp2_with fail
      refine (exp_any p mb 0 L HLK.out now w1 HO.out.set).mono ?_
      intro e w2 hp
      have HO2 := Lib.hid (HO.out.exp hp)
      obtain ⟨v, rfl, hv⟩ := hp.res
      clear hp
      cases ho : okT now
      · have HB := Lib.hid ho
        rw [exp_bad ho]
        clear hv
        have hd : decide (now < 0) = true ∨ (decide (now < 0) = false ∧ decide (1099511627776 < now) = true) := by
          unfold okT at ho
          by_cases h0 : now < 0
          · exact .inl (decide_eq_true h0)
          · refine .inr ⟨decide_eq_false h0, ?_⟩
            simp only [Bool.and_eq_false_iff, decide_eq_false_iff_not] at ho
            exact decide_eq_true (by omega)
        clear ho
        rcases hd with d2 | ⟨d2, d3⟩
        all_goals
          go_wp2_with fail
          refine (HAW.out _).mono ?_
          rintro e w3 ⟨rfl, hb3⟩
          have HB3 := Lib.hid (below_step HO2.out.low hb3)
          clear hb3
          go_wp2
          go_ret
          exact ⟨rfl, HB3.out⟩
      · have HOK := Lib.hid ho
        have h0n := (okT_iff.1 ho).1
        rw [exp_ok ho h0n]
        have HG := Lib.hid (left_next HLK.out ho h0n)
        have HLT := Lib.hid (fun hk => left_late (clk := 0) HLK.out ho hk)
        have hC : expC 0 now = now := by unfold expC; rw [if_pos (exp_ok ho h0n)]
        rw [hC] at HO2
        have HLK2 := Lib.hid (HLK.out.exp 0 now)
        have hL2 : (fireD L now (expD L 0 now)).length = n := by rw [fireD_len, HLL.out]
        have HLL2 := Lib.hid hL2
        have HALL2 := Lib.hid (fun i (hi : i < n) => show ∃ b t, (fireD L now (expD L 0 now))[i]? = some (some (b, t)) from by
          obtain ⟨b, hb⟩ := HALL.out.get (List.getElem?_eq_getElem (by rw [HL.out]; exact hi))
          by_cases hd : i ∈ expD L 0 now
          · exact ⟨b, _, fireD_in hd hb⟩
          · exact ⟨b, _, by rw [fireD_not hd]; exact hb⟩)
        have hvf := own_form hv
        have hvl : v = .slice none 0 0 → (expD L 0 now).length = 0 := fun e => by
          rcases hv.2 with ⟨-, h2⟩ | ⟨g, c, cur, h1, -⟩
          · exact h2
          · rw [h1] at e; cases e
        have HVL := Lib.hid hvl
        clear ho h0n hC hL2 hv hvl
        generalize fireD L now (expD L 0 now) = L2 at *
        generalize (expD L 0 now).length = k at *
        go_wp2_with fail
        refine (next_any p mb now L2 HLK2.out w2 HO2.out.set).mono ?_
        rintro e w3 ⟨rfl, hb3⟩
        have HO3 := Lib.hid (HO2.out.call hb3)
        clear hb3
        have HG2 := Lib.hid (show ((nextV L2).2 && decide ((nextV L2).1 ≤ now)) = false from HG.out)
        generalize nextV L2 = nv at HG2 ⊢
        obtain ⟨n1, n2⟩ := nv
        simp only at HG2
        have HEND := Lib.hid (fun w' (h' : TS w' p mb now L2) => exp_any p mb now L2 HLK2.out now w' h')
        have hwf : (Lit.int .i64 (n : Int)).wf = true := WalkArith.wf_i64 (by omega)
        have hx : (n2 = false) ∨ (n2 = true ∧ decide (n1 ≤ now) = false) := by
          have := HG2.out
          cases n2 with
          | false => exact .inl rfl
          | true => exact .inr ⟨rfl, by simpa using this⟩
        clear hwf
        have hvk : (v = .slice none 0 0 ∧ k = 0) ∨ ∃ g c, v = .slice (some ⟨g, 0, none⟩) k c := hvf.imp (fun e => ⟨e, HVL.out e⟩) id
        clear hvf
        rcases hvk with ⟨rfl, -⟩ | ⟨gv, cv, rfl⟩ <;> rcases hx with rfl | ⟨rfl, d2⟩
        all_goals
          go_wp2
          go_loopw [58] (fun i wr => ∃ j : Nat, j ≤ n ∧ i = .int .i64 j ∧ Hid (OwnT w p mb now L2 wr)) (fun i _ => n - (RowKit.intOf i).toNat)
          case atStart => exact ⟨0, Nat.zero_le _, rfl, HO3⟩
          case round =>
            obtain ⟨j, hj, rfl, hR⟩ := hrel
            by_cases hlt : j < n
            · obtain ⟨b, t, hit⟩ := HALL2.out j hlt
              have hat : at' L2 (j : Int) = some (b, t) := at_nat_some.2 hit
              have HT := Lib.hid (HLK2.out _ _ _ hit)
              have HLT2 := Lib.hid (fun hk => HLT.out hk _ _ _ hit)
              have HAT := Lib.hid hat
              clear hit hat
              go_wp2_with fail
              refine (get_any p mb now L2 (j : Int) (WalkArith.wf_i64 (by omega)) wr hR.out.set).mono ?_
              rintro e w4 ⟨rfl, hb4⟩
              rw [HAT.out]
              simp only [specV, Option.isSome_some, if_true]
              have HR4 := Lib.hid (hR.out.call hb4)
              clear hb4
              by_cases hk0 : 0 < k
              · have d3 : decide (0 < k) = true := by simpa using hk0
                cases d4 : (t.fst != 0)
                · clear hk0
                  go_wp2
                  go_roundw
                  case rel => exact ⟨j + 1, by omega, by go_num, Lib.hid (HR4.out.call (below_alloc (Below.refl _ _) _))⟩
                  case measure => simp [RowKit.intOf]; omega
                · have d5 : decide (t.fst ≤ now) = false := decide_eq_false (by
                    have h1 := HLT2.out hk0
                    have h2 := HT.out.f0
                    have h3 : t.fst ≠ 0 := by simpa using d4
                    have := h1 (by omega)
                    omega)
                  clear hk0
                  go_wp2
                  go_roundw
                  case rel => exact ⟨j + 1, by omega, by go_num, Lib.hid (HR4.out.call (below_alloc (Below.refl _ _) _))⟩
                  case measure => simp [RowKit.intOf]; omega
              · have d3 : decide (0 < k) = false := by simpa using hk0
                clear hk0
                go_wp2
                go_roundw
                case rel => exact ⟨j + 1, by omega, by go_num, Lib.hid (HR4.out.call (below_alloc (Below.refl _ _) _))⟩
                case measure => simp [RowKit.intOf]; omega
            · obtain rfl : j = n := by omega
              clear hlt hj
              go_wp2_with fail
              refine (HEND.out wr hR.out.set).mono ?_
              intro e w4 hp
              have HO4 := Lib.hid (hR.out.exp hp)
              obtain ⟨v4, rfl, hv4⟩ := hp.res
              rw [exp_none_D HG.out, List.length_nil] at hv4
              rw [exp_ok HOK.out (Int.le_refl now)]
              have hf4 := own_form hv4
              clear hp hv4
              rcases hf4 with rfl | ⟨g4, c4, rfl⟩
              all_goals
                go_wp2_with fail
                refine (HAW.out _).mono ?_
                rintro e w5 ⟨rfl, hb5⟩
                have HB5 := Lib.hid (below_step HO4.out.low hb5)
                clear hb5
                go_wp2
                go_ret
                exact ⟨rfl, HB5.out⟩
    · clear hS
      go_enter Try.func4, Try.ntmps4
      go_wp2_with fail
      refine HAR.out.mono ?_
      rintro e w1 hp
      obtain ⟨p, mb, L, rfl, hI⟩ := hp.yes HS.out
      have HB1 := Lib.hid hI.low
      clear hp hI
      go_wp2_with fail
      refine (HAW.out _).mono ?_
      rintro e w2 ⟨rfl, hb2⟩
      have HB2 := Lib.hid (below_step HB1.out hb2)
      clear hb2
      go_wp2
      go_ret
      exact ⟨rfl, HB2.out⟩
  · have HS := Lib.hid hS
    clear hS
    cases d1 : decide ((12 : Int) < (n : Int))
    all_goals
      go_enter Try.func4, Try.ntmps4
      go_wp2_with fail
      refine HAR.out.mono ?_
      rintro e w1 hp
      obtain ⟨rfl, hb1⟩ := hp.no HS.out
      have HB1 := Lib.hid hb1
      clear hp hb1
      go_wp2_with fail
      refine (HAW.out _).mono ?_
      rintro e w2 ⟨rfl, hb2⟩
      have HB2 := Lib.hid (below_step HB1.out hb2)
      clear hb2
      go_wp2
      go_ret
      exact ⟨rfl, HB2.out⟩
end
end Go.Proofs.Ytodgbpggkikbcaa
