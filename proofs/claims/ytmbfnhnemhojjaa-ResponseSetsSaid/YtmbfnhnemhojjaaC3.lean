/- The reference: right, Check, demand. -/
import Derived.Test.YtmbfnhnemhojjaaC2
namespace Go.Proofs.Ytmbfnhnemhojjaa
set_option linter.unusedVariables false
set_option linter.unusedSimpArgs false
open Go.RowKit Go.Proofs.YtmbfnhnemhojjaaW.PrintWords Go.Proofs.YtmbfnhnemhojjaaW.PrintLast Go.Proofs.YtmbfnhnemhojjaaW.PrintMore PResponseCosts FLib
attribute [local go_sem ↓] hold_cells hold_from
attribute [local go_sem] below_alloc_T below_drew_T below_drewN_T run_box run_box2 run_box6

set_option maxRecDepth 100000 in
set_option maxHeartbeats 1600000 in
theorem right_eq (x : S33) (b : Bool) (hb : rightB x = b) (w : World) : Calls Try.prog 41 #[tkV x] w fun e w' => e = .returned (.bool b) ∧ Below w.heap.size w w' := by
  have HB := Lib.hid hb
  rw [rightB_eq] at HB
  clear hb
  unfold tkV
  rcases chain (decide (1 ≤ x.f1)) (decide (x.f1 ≤ 100000)) (decide (1 ≤ x.f2)) (decide (x.f2 ≤ x.f1)) (decide (0 ≤ x.f3)) (decide (x.f3 ≤ 99999)) (decide (1 ≤ x.f4)) (decide (x.f4 ≤ 1000)) (decide (0 ≤ x.f5)) with h | ⟨h1, h⟩ | ⟨h1, h2, h⟩ | ⟨h1, h2, h3, h⟩ | ⟨h1, h2, h3, h4, h⟩ | ⟨h1, h2, h3, h4, h5, h⟩ | ⟨h1, h2, h3, h4, h5, h6, h⟩ | ⟨h1, h2, h3, h4, h5, h6, h7, h⟩ | ⟨h1, h2, h3, h4, h5, h6, h7, h8, h⟩ | ⟨h1, h2, h3, h4, h5, h6, h7, h8, h⟩
  all_goals
    go_enter Try.func41, Try.ntmps41
    go_wp2
    go_ret
    refine ⟨?_, below_alloc (Below.refl _ _) _⟩
    have hb := HB.out
    simp only [*, Bool.true_and, Bool.and_true, Bool.false_and, Bool.and_false] at hb
    rw [← hb]
    rfl


set_option maxRecDepth 100000 in
set_option maxHeartbeats 1000000 in
theorem rcheck_any (cs : Array Value) (t : Tab) (ht : t.costs.length = 24) (h : TabC' cs t) (A : Option Addr) (c : Nat) (l : List S33) (w : World) (hC : Kd.C k33 w A l.length l) :
    Calls Try.prog 16 #[.agg cs, .slice A l.length c] w fun e w' => e = .returned (.int .i64 (chkI t l)) ∧ Below w.heap.size w w' := by
  have HT := Lib.hid (rtcheck_any cs t ht h)
  have HC := Lib.hid hC
  have hsz := h.size
  have HE := Lib.hid (show chkI t l = if okT t = true then (if cntI l = 0 then (if l.any (fun x => !okTk x) = true then 34 else 0) else cntI l) else 34 from rfl)
  have HN := Lib.hid (show cntI l = if l.length = 0 then 9 else if 12 < l.length then 18 else 0 from rfl)
  clear ht h hC
  go_enter Try.func16, Try.ntmps16
  go_wp2_with fail
  refine (HT.out _).mono ?_
  rintro e w1 ⟨rfl, hb1⟩
  have HB := Lib.hid (below_then (below_alloc (Below.refl w.heap.size w) (.cells cs 36)) (by simp) hb1)
  clear hb1
  cases ho : okT t with
  | false =>
    rw [ho, if_neg (by decide)] at HE
    rw [if_neg (by decide)]
    clear ho
    go_wp2
    go_ret
    exact ⟨by rw [HE.out]; rfl, HB.out⟩
  | true =>
    rw [ho, if_pos rfl] at HE
    rw [if_pos rfl]
    clear ho
    by_cases h0 : l.length = 0
    · rw [if_pos h0] at HN
      have hb : ((l.length : Int) == 0) = true := by simp [h0]
      rw [HN.out, if_neg (by decide)] at HE
      rw [h0]
      clear h0 hb
      go_wp2
      go_ret
      exact ⟨by rw [HE.out]; rfl, HB.out⟩
    by_cases h12 : 12 < l.length
    · rw [if_neg h0, if_pos h12] at HN
      have h1 : (12 : Int) < (l.length : Int) := by omega
      have h2 : ¬ (l.length : Int) = 0 := by omega
      rw [HN.out, if_neg (by decide)] at HE
      clear h0 h12
      go_wp2
      go_ret
      exact ⟨by rw [HE.out]; rfl, HB.out⟩
    rw [if_neg h0, if_neg h12] at HN
    rw [HN.out, if_pos rfl] at HE
    have h1 : ¬ (12 : Int) < (l.length : Int) := by omega
    have h2 : ¬ (l.length : Int) = 0 := by omega
    have hlen : (l.length : Int) ≤ 12 := by omega
    have HCW := Lib.hid (Kd.C_below HC.out HB.out)
    clear h0 h12
    have d1 : ((l.length : Int) == 0) = false := by simpa using h2
    have d2 : decide ((12 : Int) < (l.length : Int)) = false := by simpa using h1
    go_wp2
    clear h1 h2 d1 d2
    go_loopw [5] (fun i wr => ∃ k : Nat, k ≤ l.length ∧ i = .int .i64 k ∧ Hid ((l.take k).any (fun x => !okTk x) = false) ∧ Below w1.heap.size w1 wr) (fun i _ => l.length - (intOf i).toNat)
    case atStart => exact ⟨0, Nat.zero_le _, rfl, Lib.hid rfl, Below.refl _ _⟩
    case round =>
      obtain ⟨k, hk, rfl, HNN, hBr⟩ := hrel
      by_cases hlt : k < l.length
      · obtain ⟨ad, rfl, lr, lk, -⟩ := task_cells HCW.out k hlt
        have HTS := Lib.hid (any_take_snoc hlt (fun x => !okTk x))
        have HMem := Lib.hid (tk_mem hlt)
        have hi0 : (0 : Int) ≤ (k : Int) := by omega
        have hi1 : (k : Int) < (l.length : Int) := by omega
        generalize tk l k = x at lk lr HTS HMem
        obtain ⟨b, hb⟩ : ∃ b, rightB x = b := ⟨_, rfl⟩
        have HR := Lib.hid (right_eq x b hb)
        have HO : Hid (okTk x = (decide (1 ≤ x.f0) && decide (x.f0 ≤ 255) && b)) := Lib.hid (by unfold okTk; rw [hb])
        have HBAD : Hid (okTk x = false → chkI t l = 34) := Lib.hid (fun h => by rw [HE.out, if_pos (List.any_eq_true.2 ⟨x, HMem.out, by simp [h]⟩)])
        unfold tkV at HR
        clear hb
        by_cases h1 : x.f0 < 1
        · go_wp2
          go_ret
          exact ⟨by rw [HBAD.out (by rw [HO.out]; simp; omega)]; rfl, below_step HB.out hBr⟩
        by_cases h2 : 255 < x.f0
        · go_wp2
          go_ret
          exact ⟨by rw [HBAD.out (by rw [HO.out]; simp; omega)]; rfl, below_step HB.out hBr⟩
        cases b with
        | false =>
          go_wp2_with (go_at_call 41; refine (HR.out _).mono ?_; rintro e w2 ⟨rfl, hb2⟩)
          go_ret
          exact ⟨by rw [HBAD.out (by rw [HO.out]; simp)]; rfl, below_step HB.out (below_step hBr hb2)⟩
        | true =>
          go_wp2_with (go_at_call 41; refine (HR.out _).mono ?_; rintro e w2 ⟨rfl, hb2⟩)
          go_roundw
          case rel => exact ⟨k + 1, by omega, by go_num, Lib.hid (by rw [HTS.out, HNN.out, HO.out]; simp; omega), below_step hBr hb2⟩
          case measure => simp [intOf]; omega
      · obtain rfl : k = l.length := by omega
        go_wp2
        go_ret
        refine ⟨?_, below_step HB.out hBr⟩
        have := HNN.out
        rw [List.take_length] at this
        rw [HE.out, this]
        rfl
end Go.Proofs.Ytmbfnhnemhojjaa
