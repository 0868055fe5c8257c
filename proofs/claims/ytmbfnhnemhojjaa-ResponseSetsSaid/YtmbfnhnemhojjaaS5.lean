/- ResponseSets: the comparison that Order sorts by, and Order's closure. -/
import Derived.Test.YtmbfnhnemhojjaaS3
namespace Go.Proofs.Ytmbfnhnemhojjaa
set_option linter.unusedVariables false
set_option linter.unusedSimpArgs false
open Go.RowKit Go.Proofs.YtmbfnhnemhojjaaW.PrintWords Go.Proofs.YtmbfnhnemhojjaaW.PrintLast Go.Proofs.YtmbfnhnemhojjaaW.PrintMore PResponseCosts FLib
attribute [local go_sem ↓] hold_cells hold_from
attribute [local go_sem] below_alloc_T below_drew_T below_drewN_T run_box run_box2 run_box6

theorem nan_eq (x : Int) (w : World) : Calls Try.prog 60 #[.int .i64 x] w fun e w' => e = .returned (.bool false) ∧ w = w' := by
  go_enter Try.func60, Try.ntmps60
  go_wp2
  go_ret
  exact ⟨rfl, rfl⟩
def cmpI (x y : Int) : Int := if x < y then -1 else if y < x then 1 else 0
theorem cmp_eq (x y : Int) (w : World) : Calls Try.prog 52 #[.int .i64 x, .int .i64 y] w fun e w' => e = .returned (.int .i64 (cmpI x y)) ∧ w = w' := by
  have HX := Lib.hid (fun w => nan_eq x w)
  have HY := Lib.hid (fun w => nan_eq y w)
  have HE := Lib.hid (show cmpI x y = if x < y then -1 else if y < x then 1 else 0 from rfl)
  by_cases h1 : x < y
  · rw [if_pos h1] at HE
    have d1 : decide (x < y) = true := by simpa using h1
    clear h1
    go_enter Try.func52, Try.ntmps52
    go_wp2_with fail
    refine (HX.out _).mono ?_
    rintro e w1 ⟨rfl, rfl⟩
    go_wp2_with fail
    refine (HY.out _).mono ?_
    rintro e w1 ⟨rfl, rfl⟩
    go_wp2
    go_ret
    exact ⟨by rw [HE.out]; rfl, rfl⟩
  · rw [if_neg h1] at HE
    have d1 : decide (x < y) = false := by simpa using h1
    clear h1
    by_cases h2 : y < x
    · rw [if_pos h2] at HE
      have d2 : decide (y < x) = true := by simpa using h2
      clear h2
      go_enter Try.func52, Try.ntmps52
      go_wp2_with fail
      refine (HX.out _).mono ?_
      rintro e w1 ⟨rfl, rfl⟩
      go_wp2_with fail
      refine (HY.out _).mono ?_
      rintro e w1 ⟨rfl, rfl⟩
      go_wp2
      go_ret
      exact ⟨by rw [HE.out]; rfl, rfl⟩
    · rw [if_neg h2] at HE
      have d2 : decide (y < x) = false := by simpa using h2
      clear h2
      go_enter Try.func52, Try.ntmps52
      go_wp2_with fail
      refine (HX.out _).mono ?_
      rintro e w1 ⟨rfl, rfl⟩
      go_wp2_with fail
      refine (HY.out _).mono ?_
      rintro e w1 ⟨rfl, rfl⟩
      go_wp2
      go_ret
      exact ⟨by rw [HE.out]; rfl, rfl⟩
set_option maxRecDepth 100000 in
/-- Order's comparison: it reads and draws. -/
theorem ord_eq (g gr n c : Nat) (l : List S33) (i j : Nat) (hi : i < n) (hj : j < n) (w : World) (hg : w.cell? ⟨g, 0, none⟩ = some (.slice (some ⟨gr, 0, none⟩) n c)) (hC : Kd.C k33 w (some ⟨gr, 0, none⟩) n l) :
    Calls Try.prog 51 #[.int .i64 i, .int .i64 j, .pointer (some ⟨g, 0, none⟩)] w fun e w' => e = .returned (.int .i64 (cmpI (tk l i).f2 (tk l j).f2)) ∧ ∃ q, w' = w.drewN q := by
  have HX := Lib.hid cmp_eq
  obtain ⟨a1, e1, -, -, -, p1, -⟩ := task_cells hC i hi
  injection e1 with e1
  subst e1
  obtain ⟨a2, e2, -, -, -, p2, -⟩ := task_cells hC j hj
  injection e2 with e2
  subst e2
  have q1 := p1 w (Below.refl _ _)
  have q2 := p2 w (Below.refl _ _)
  have hi0 : (0 : Int) ≤ (i : Int) := by omega
  have hi1 : (i : Int) < (n : Int) := by omega
  have hj0 : (0 : Int) ≤ (j : Int) := by omega
  have hj1 : (j : Int) < (n : Int) := by omega
  generalize (tk l i).f2 = x at q1 p1 ⊢
  generalize (tk l j).f2 = y at q2 p2 ⊢
  rw [add_plain] at q1 q2
  clear p1 p2
  go_enter Try.func51, Try.ntmps51
  go_wp2
  go_quiet (refine Calls.quiet_of_same ((HX.out _ _ _).mono fun e w' h => ⟨h.1, h.2.symm⟩))
  go_wp2
  go_ret
  exact ⟨rfl, _, rfl⟩
end Go.Proofs.Ytmbfnhnemhojjaa
