/- ResponseSets: short. -/
import Derived.Test.YtmbfnhnemhojjaaE1
namespace Go.Proofs.Ytmbfnhnemhojjaa
set_option linter.unusedVariables false
set_option linter.unusedSimpArgs false
open Go.RowKit Go.Proofs.YtmbfnhnemhojjaaW.PrintWords Go.Proofs.YtmbfnhnemhojjaaW.PrintLast Go.Proofs.YtmbfnhnemhojjaaW.PrintMore PResponseCosts FLib
attribute [local go_sem ↓] hold_cells hold_from
attribute [local go_sem] below_alloc_T below_drew_T below_drewN_T run_box run_box2 run_box6

def shortB (l : List S33) : Bool := l.all (fun x => decide (x.f1 ≤ 1000)) && decide (l.length ≤ 20)
theorem short_no {l : List S33} {k : Nat} (hk : k < l.length) (h : 1000 < (tk l k).f1) : shortB l = false := by
  unfold shortB
  rw [Bool.and_eq_false_iff]
  left
  rw [List.all_eq_false]
  exact ⟨_, tk_mem hk, by simpa using h⟩
theorem short_len {l : List S33} (h : ∀ j, j < l.length → (tk l j).f1 ≤ 1000) : shortB l = decide ((l.length : Int) ≤ 20) := by
  unfold shortB
  have h1 : l.all (fun x => decide (x.f1 ≤ 1000)) = true := by
    rw [List.all_eq_true]
    intro x hx
    obtain ⟨j, hj, rfl⟩ := List.getElem_of_mem hx
    have e := tk_get hj
    rw [List.getElem?_eq_getElem hj] at e
    injection e with e
    have := h j hj
    simp [e, this]
  rw [h1, Bool.true_and]
  by_cases h2 : l.length ≤ 20 <;> simp <;> omega
set_option maxRecDepth 100000 in
set_option maxHeartbeats 400000 in
theorem short_any (A : Option Addr) (n c : Nat) (l : List S33) (w : World) (hC : Kd.C k33 w A n l) :
    Calls Try.prog 24 #[.slice A n c] w fun e w' => e = .returned (.bool (shortB l)) ∧ Below w.heap.size w w' := by
  obtain rfl := Kd.C_len hC
  have hle := hC.2.1
  have HC := Lib.hid hC
  clear hC
  go_enter Try.func24, Try.ntmps24
  go_wp2
  go_loopw [3] (fun i wr => ∃ k : Nat, k ≤ l.length ∧ i = .int .i64 k ∧ Hid (∀ j, j < k → (tk l j).f1 ≤ 1000) ∧ Below w.heap.size w wr) (fun i _ => l.length - (intOf i).toNat)
  case atStart => exact ⟨0, Nat.zero_le _, rfl, Lib.hid (fun j hj => by omega), Below.refl _ _⟩
  case round =>
    obtain ⟨k, hk, rfl, HE, hB⟩ := hrel
    by_cases hlt : k < l.length
    · obtain ⟨ad, rfl, -, -, l1, -, -⟩ := task_cells HC.out k hlt
      have hi0 : (0 : Int) ≤ (k : Int) := by omega
      have hi1 : (k : Int) < (l.length : Int) := by omega
      by_cases hq : 1000 < (tk l k).f1
      · have HN := Lib.hid (short_no hlt hq)
        have d1 : decide (1000 < (tk l k).f1) = true := by simpa using hq
        clear hq
        generalize tk l k = x at l1 d1
        go_wp2
        go_ret
        exact ⟨by rw [HN.out]; rfl, hB⟩
      · have HO := Lib.hid (show (tk l k).f1 ≤ 1000 by omega)
        have d1 : decide (1000 < (tk l k).f1) = false := by simpa using hq
        clear hq
        obtain ⟨x, hx⟩ : ∃ x, tk l k = x := ⟨_, rfl⟩
        have HX := Lib.hid hx
        rw [hx] at l1 d1 HO
        clear hx
        go_wp2
        go_roundw
        case rel => exact ⟨k + 1, by omega, by go_num, Lib.hid (fun j hj => by
          by_cases e : j = k
          · subst e; rw [HX.out]; exact HO.out
          · exact HE.out j (by omega)), hB⟩
        case measure => simp [intOf]; omega
    · obtain rfl : k = l.length := by omega
      have HL := Lib.hid (short_len HE.out)
      go_wp2
      go_ret
      exact ⟨by rw [HL.out]; first | rfl | (congr 2; simp), hB⟩
end Go.Proofs.Ytmbfnhnemhojjaa
