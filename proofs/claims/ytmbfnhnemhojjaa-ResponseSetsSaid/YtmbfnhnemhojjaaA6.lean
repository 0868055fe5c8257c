/- The least fixpoint of a demand, in plain numbers. -/
import Derived.Test.YtmbfnhnemhojjaaA5
namespace Go.Proofs.Ytmbfnhnemhojjaa
set_option linter.unusedVariables false
set_option linter.unusedSimpArgs false
open Go.RowKit Go.Proofs.YtmbfnhnemhojjaaW.PrintWords Go.Proofs.YtmbfnhnemhojjaaW.PrintLast Go.Proofs.YtmbfnhnemhojjaaW.PrintMore PResponseCosts FLib

theorem foldl_mono {β : Type} (f g : Int → β → Int) (h : ∀ a b x, a ≤ b → f a x ≤ g b x) (l : List β) : ∀ a b, a ≤ b → l.foldl f a ≤ l.foldl g b := by
  induction l with
  | nil => intro a b hab; exact hab
  | cons x l ih => intro a b hab; exact ih _ _ (h _ _ _ hab)
theorem foldl_mono_mem {β : Type} (f g : Int → β → Int) (l : List β) (h : ∀ a b, ∀ x ∈ l, a ≤ b → f a x ≤ g b x) : ∀ a b, a ≤ b → l.foldl f a ≤ l.foldl g b := by
  induction l with
  | nil => intro a b hab; exact hab
  | cons x l ih => intro a b hab; exact ih (fun a b y hy => h a b y (List.mem_cons_of_mem _ hy)) _ _ (h _ _ x (List.mem_cons_self ..) hab)
theorem term_mono {t : Tab} (ht : TOk t) {x : S33} (hx : TkOk x) {r s : Int} (h : r ≤ s) : term t x r ≤ term t x s := by
  have hj := job_le ht hx
  have hg := great_le ht
  have h1 := hx.f1
  unfold term
  refine Int.mul_le_mul_of_nonneg_right ?_ (by omega)
  have := Int.ediv_le_ediv (show (0 : Int) < x.f1 by omega) (show r + x.f1 - 1 ≤ s + x.f1 - 1 by omega)
  omega
theorem term_nonneg {t : Tab} (ht : TOk t) {x : S33} (hx : TkOk x) {r : Int} (h : 0 ≤ r) : 0 ≤ term t x r := by
  have hj := job_le ht hx
  have hg := great_le ht
  have h1 := hx.f1
  unfold term
  have := Int.ediv_nonneg (show 0 ≤ r + x.f1 - 1 by omega) (show 0 ≤ x.f1 by omega)
  exact Int.mul_nonneg (by omega) (by omega)
theorem dem_mono {t : Tab} (ht : TOk t) {l : List S33} (hl : ∀ x ∈ l, TkOk x) (i : Nat) (base : Int) {r s : Int} (h : r ≤ s) : demI t l i base r ≤ demI t l i base s := by
  unfold demI
  refine foldl_mono_mem _ _ _ (fun a b j hj hab => ?_) _ _ (Int.le_refl _)
  have := term_mono ht (hl _ (tk_mem (List.mem_range.1 hj))) h
  unfold demF
  split <;> omega
theorem dem_base {t : Tab} (ht : TOk t) {l : List S33} (hl : ∀ x ∈ l, TkOk x) (i : Nat) (base : Int) {r : Int} (h : 0 ≤ r) : base ≤ demI t l i base r := by
  unfold demI
  have : (List.range l.length).foldl (fun n (_ : Nat) => n) base ≤ (List.range l.length).foldl (demF t l i r) base := by
    refine foldl_mono_mem _ _ _ (fun a b j hj hab => ?_) _ _ (Int.le_refl _)
    have := term_nonneg ht (hl _ (tk_mem (List.mem_range.1 hj))) h
    unfold demF
    split <;> omega
  have e : ∀ (k : List Nat), k.foldl (fun n (_ : Nat) => n) base = base := fun k => by induction k with | nil => rfl | cons _ _ ih => exact ih
  rwa [e] at this

/-- The least fixpoint from 0 on, if it is at most a limit. -/
def bndO (D : Int → Int) (lim : Nat) : Option Nat := (List.range (lim + 1)).find? (fun v => D (v : Int) == (v : Int))
theorem bndO_some {D : Int → Int} {lim : Nat} {v : Nat} : bndO D lim = some v ↔ v ≤ lim ∧ D v = v ∧ ∀ z : Nat, z < v → D z ≠ z := by
  unfold bndO
  rw [List.find?_range_eq_some]
  simp only [List.mem_range, beq_iff_eq]
  constructor
  · rintro ⟨h1, h2, h3⟩
    exact ⟨by omega, h1, fun z hz => by simpa using h3 z hz⟩
  · rintro ⟨h1, h2, h3⟩
    exact ⟨h2, by omega, fun z hz => by simpa using h3 z hz⟩
theorem bndO_none {D : Int → Int} {lim : Nat} : bndO D lim = none ↔ ∀ z : Nat, z ≤ lim → D z ≠ z := by
  unfold bndO
  rw [List.find?_eq_none]
  simp only [List.mem_range, beq_iff_eq]
  exact ⟨fun h z hz => h z (by omega), fun h z hz => h z (by omega)⟩
/-- What the search stands on: x is at most each fixpoint. -/
structure Under (D : Int → Int) (x : Int) : Prop where
  nn : 0 ≤ x
  up : x ≤ D x
  fix : ∀ z : Nat, D z = z → x ≤ z
theorem Under.step {D : Int → Int} {x : Int} (h : Under D x) (mono : ∀ r s : Int, r ≤ s → D r ≤ D s) : Under D (D x) :=
  ⟨Int.le_trans h.nn h.up, mono _ _ h.up, fun z hz => by have := mono _ _ (h.fix z hz); omega⟩
theorem Under.start {D : Int → Int} {x : Int} (h0 : 0 ≤ x) (h : ∀ r : Int, 0 ≤ r → x ≤ D r) : Under D x := ⟨h0, h x h0, fun z hz => by have := h z (by omega); omega⟩
theorem Under.found {D : Int → Int} {x : Int} (h : Under D x) {lim : Nat} (hl : x ≤ lim) (hd : D x = x) : bndO D lim = some x.toNat := by
  have h0 := h.nn
  rw [bndO_some]
  refine ⟨by omega, ?_, fun z hz he => ?_⟩
  · rw [Int.toNat_of_nonneg h0]; exact hd
  · have := h.fix z he; omega
theorem Under.past {D : Int → Int} {x : Int} (h : Under D x) {lim : Nat} (hl : (lim : Int) < x) : bndO D lim = none := by
  rw [bndO_none]
  intro z hz he
  have := h.fix z he
  omega
/-- Below a point that is not risen from there is a fixpoint. -/
theorem fix_below {D : Int → Int} (mono : ∀ r s : Int, r ≤ s → D r ≤ D s) (nn : ∀ r : Int, 0 ≤ r → 0 ≤ D r) (z : Nat) (h : D z ≤ z) : ∃ v : Nat, v ≤ z ∧ D v = v := by
  induction z using Nat.strongRecOn with
  | _ z ih =>
    by_cases he : D z = z
    · exact ⟨z, Nat.le_refl _, he⟩
    · have h0 := nn z (by omega)
      obtain ⟨y, hy⟩ := Int.eq_ofNat_of_zero_le h0
      have hlt : y < z := by omega
      have h1 : D (y : Int) ≤ (y : Int) := by
        have := mono (y : Int) z (by omega)
        omega
      obtain ⟨v, hv, hd⟩ := ih y hlt h1
      exact ⟨v, by omega, hd⟩
theorem bndO_lim {D : Int → Int} {lim big : Nat} (h : lim ≤ big) : bndO D lim = (bndO D big).bind fun v => if v ≤ lim then some v else none := by
  cases hb : bndO D big with
  | none =>
    rw [bndO_none] at hb
    simp only [Option.bind_none]
    rw [bndO_none]
    exact fun z hz => hb z (by omega)
  | some v =>
    rw [bndO_some] at hb
    obtain ⟨h1, h2, h3⟩ := hb
    simp only [Option.bind_some]
    split
    · rw [bndO_some]; exact ⟨by omega, h2, h3⟩
    · rw [bndO_none]; exact fun z hz => h3 z (by omega)
end Go.Proofs.Ytmbfnhnemhojjaa
