/- ResponseGrows in plain numbers: how bounds turn with the tasks. -/
import Derived.Test.YtmbfnhnemhojjaaE1
namespace Go.Proofs.Ytmbfnhnemhojjaa
set_option linter.unusedVariables false
set_option linter.unusedSimpArgs false
set_option linter.unusedVariables false
set_option linter.unusedSimpArgs false
open Go.RowKit Go.Proofs.YtmbfnhnemhojjaaW.PrintWords Go.Proofs.YtmbfnhnemhojjaaW.PrintLast Go.Proofs.YtmbfnhnemhojjaaW.PrintMore PResponseCosts FLib

theorem tk_set {l : List S33} {k : Nat} (hk : k < l.length) (y : S33) (j : Nat) : tk (l.set k y) j = if j = k then y else tk l j := by
  unfold tk
  rw [List.getD_eq_getElem?_getD, List.getElem?_set]
  by_cases h : k = j
  · subst h; simp [hk]
  · rw [if_neg h, if_neg (Ne.symm h), List.getD_eq_getElem?_getD]
theorem blockI_congr {t : Tab} {l l' : List S33} (hlen : l.length = l'.length) (h : ∀ j, j < l.length → (tk l j).f0 = (tk l' j).f0 ∧ (tk l j).f5 = (tk l' j).f5) {i : Nat} (hi : i < l.length) : blockI t l i = blockI t l' i := by
  have e : ∀ (a : List S33), (a.foldl (blockF t (tk l i).f0) t.sec) = (List.range a.length).foldl (fun n j => blockF t (tk l i).f0 n (tk a j)) t.sec := by
    intro a
    have : ∀ k, k ≤ a.length → (a.take k).foldl (blockF t (tk l i).f0) t.sec = (List.range k).foldl (fun n j => blockF t (tk l i).f0 n (tk a j)) t.sec := by
      intro k
      induction k with
      | zero => intro _; rfl
      | succ k ih =>
        intro hk
        rw [take_foldl _ _ _ _ _ (tk_get (show k < a.length by omega)), range_foldl, ih (by omega)]
    have h := this a.length (Nat.le_refl _)
    rwa [List.take_length] at h
  unfold blockI
  rw [← (h i hi).1, e l, e l', hlen]
  have : ∀ k, k ≤ l'.length → (List.range k).foldl (fun n j => blockF t (tk l i).f0 n (tk l j)) t.sec = (List.range k).foldl (fun n j => blockF t (tk l i).f0 n (tk l' j)) t.sec := by
    intro k
    induction k with
    | zero => intro _; rfl
    | succ k ih =>
      intro hk
      rw [range_foldl, range_foldl, ih (by omega)]
      obtain ⟨h0, h5⟩ := h k (by omega)
      unfold blockF critI
      rw [h0, h5]
  exact this _ (Nat.le_refl _)
theorem job_congr {t : Tab} {x y : S33} (h5 : x.f5 = y.f5) (h4 : x.f4 ≤ y.f4) : jobI t x ≤ jobI t y := by
  unfold jobI critI
  rw [h5]
  omega
theorem term_grow {t : Tab} (ht : TOk t) {x y : S33} (hx : TkOk x) (h5 : x.f5 = y.f5) (h4 : x.f4 ≤ y.f4) (h1 : x.f1 = y.f1) {r : Int} (hr : 0 ≤ r) : term t x r ≤ term t y r := by
  have hj := job_congr (t := t) h5 h4
  have hg := great_le ht
  unfold term
  rw [← h1]
  have h := hx.f1
  have := Int.ediv_nonneg (show 0 ≤ r + x.f1 - 1 by omega) (show 0 ≤ x.f1 by omega)
  exact Int.mul_le_mul_of_nonneg_left (by omega) (by omega)
theorem ceil_le {r p : Int} (hr : 0 ≤ r) (hp : 1 ≤ p) : (r + (p + 1) - 1) / (p + 1) ≤ (r + p - 1) / p := by
  obtain ⟨q, hq⟩ : ∃ q, (r + p - 1) / p = q := ⟨_, rfl⟩
  rw [hq]
  have h1 : r + p - 1 < (q + 1) * p := by rw [← hq]; exact Int.lt_ediv_add_one_mul_self _ (by omega)
  have hq0 : 0 ≤ q := by rw [← hq]; exact Int.ediv_nonneg (by omega) (by omega)
  have h2 : (q + 1) * p = q * p + p := by rw [Int.add_mul, Int.one_mul]
  have h3 : (q + 1) * (p + 1) = q * p + q + p + 1 := by rw [Int.mul_add, Int.mul_one, Int.add_mul, Int.one_mul]; omega
  have h4 : r + (p + 1) - 1 < (q + 1) * (p + 1) := by omega
  have h5 := Int.ediv_lt_of_lt_mul (show (0 : Int) < p + 1 by omega) h4
  omega
theorem term_period {t : Tab} (ht : TOk t) {x y : S33} (hx : TkOk x) (h5 : y.f5 = x.f5) (h4 : y.f4 = x.f4) (h1 : y.f1 = x.f1 + 1) {r : Int} (hr : 0 ≤ r) : term t y r ≤ term t x r := by
  have hj : jobI t y = jobI t x := by unfold jobI critI; rw [h5, h4]
  have hg := great_le ht
  have hj2 := job_le ht hx
  unfold term
  rw [hj, h1]
  have := ceil_le hr hx.f1.1
  exact Int.mul_le_mul_of_nonneg_right (by omega) (by omega)
/-- The demand grows with the terms. -/
theorem dem_terms {t : Tab} {l l' : List S33} (hlen : l.length = l'.length) (i : Nat) {b b' r : Int} (hb : b ≤ b') (h0 : ∀ j, j < l.length → (tk l j).f0 = (tk l' j).f0) (hi : i < l.length)
    (h : ∀ j, j < l.length → j ≠ i → term t (tk l j) r ≤ term t (tk l' j) r) : demI t l i b r ≤ demI t l' i b' r := by
  unfold demI
  rw [← hlen]
  refine foldl_mono_mem _ _ _ (fun a c j hj hac => ?_) _ _ hb
  have hj := List.mem_range.1 hj
  have e : hpB l i j = hpB l' i j := by unfold hpB; rw [h0 j hj, h0 i hi]
  unfold demF
  rw [← e]
  cases hh : hpB l i j with
  | false => simpa using hac
  | true =>
    have hne : j ≠ i := by unfold hpB at hh; simp at hh; exact hh.1
    have := h j hj hne
    simp only [if_true]
    omega
theorem set_ok {l : List S33} (hl : ∀ x ∈ l, TkOk x) {k : Nat} {y : S33} (hy : TkOk y) : ∀ x ∈ l.set k y, TkOk x := by
  intro x hx
  rcases List.mem_or_eq_of_mem_set hx with h | h
  · exact hl x h
  · exact h ▸ hy
theorem chk_of_set {t : Tab} {l : List S33} (h1 : okT t = true) (h : ∀ x ∈ l, TkOk x) (hp : 0 < l.length) (h12 : l.length ≤ 12) : chkI t l = 0 := by
  have hc : cntI l = 0 := by unfold cntI; rw [if_neg (by omega), if_neg (by omega)]
  have ha : l.any (fun x => !okTk x) = false := by
    rw [List.any_eq_false]
    intro x hx
    rw [okTk_iff.2 (h x hx)]
    decide
  unfold chkI
  rw [if_pos h1, if_pos hc, ha]
  rfl
theorem chk_okT {t : Tab} {l : List S33} (h : chkI t l = 0) : okT t = true := by
  unfold chkI at h
  cases ho : okT t with
  | true => rfl
  | false => rw [ho] at h; simp at h

/-- With more work no bound gets less. -/
theorem more_work {t : Tab} {l : List S33} (hs : Set t l) {i k : Nat} (hi : i < l.length) (hk : k < l.length) (hs' : Set t (l.set k { tk l k with f4 := (tk l k).f4 + 1 })) {r s : Nat} (hr : bndN t l i = some r)
    (hq : bndN t (l.set k { tk l k with f4 := (tk l k).f4 + 1 }) i = some s) : r ≤ s := by
  unfold bndN at hr hq
  rw [bndO_some] at hr hq
  obtain ⟨hr1, hr2, hr3⟩ := hr
  obtain ⟨hq1, hq2, hq3⟩ := hq
  have hx := hs.tasks _ (tk_mem hk)
  have hf : ∀ j, (tk l j).f0 = (tk (l.set k { tk l k with f4 := (tk l k).f4 + 1 }) j).f0 ∧ (tk l j).f5 = (tk (l.set k { tk l k with f4 := (tk l k).f4 + 1 }) j).f5 ∧ (tk l j).f4 ≤ (tk (l.set k { tk l k with f4 := (tk l k).f4 + 1 }) j).f4 ∧ (tk l j).f1 = (tk (l.set k { tk l k with f4 := (tk l k).f4 + 1 }) j).f1 := by
    intro j
    rw [tk_set hk]
    by_cases h : j = k
    · subst h; rw [if_pos rfl]; exact ⟨rfl, rfl, by show (tk l j).f4 ≤ (tk l j).f4 + 1; omega, rfl⟩
    · rw [if_neg h]; exact ⟨rfl, rfl, Int.le_refl _, rfl⟩
  have hlen : l.length = (l.set k { tk l k with f4 := (tk l k).f4 + 1 }).length := by simp
  have hbase : baseI t l i ≤ baseI t (l.set k { tk l k with f4 := (tk l k).f4 + 1 }) i := by
    unfold baseI
    rw [blockI_congr hlen (fun j _ => ⟨(hf j).1, (hf j).2.1⟩) hi]
    have := job_congr (t := t) (hf i).2.1 (hf i).2.2.1
    omega
  have hd : demI t l i (baseI t l i) s ≤ s := by
    rw [← hq2]
    rw [hq2]
    refine Int.le_trans (dem_terms hlen i hbase (fun j _ => (hf j).1) hi (fun j hj _ => ?_)) (Int.le_of_eq hq2)
    exact term_grow hs.tab (hs.tasks _ (tk_mem hj)) (hf j).2.1 (hf j).2.2.1 (hf j).2.2.2 (by omega)
  have hb := base_le hs.tab hs.tasks hs.le hi
  obtain ⟨v, hv, hvd⟩ := fix_below (D := demI t l i (baseI t l i)) (fun r s h => dem_mono hs.tab hs.tasks i _ h) (fun r h => by have := dem_base hs.tab hs.tasks i (baseI t l i) h; omega) s hd
  rcases Nat.lt_or_ge v r with h | h
  · exact absurd hvd (hr3 v h)
  · omega

/-- With a longer period of another task no bound gets greater. -/
theorem longer {t : Tab} {l : List S33} (hs : Set t l) {i k : Nat} (hi : i < l.length) (hk : k < l.length) (hne : k ≠ i) (hp : (tk l k).f1 < 100000) {r : Nat} (hr : bndN t l i = some r) :
    Set t (l.set k { tk l k with f1 := (tk l k).f1 + 1 }) ∧ ∃ s, bndN t (l.set k { tk l k with f1 := (tk l k).f1 + 1 }) i = some s ∧ s ≤ r := by
  unfold bndN at hr ⊢
  rw [bndO_some] at hr
  obtain ⟨hr1, hr2, hr3⟩ := hr
  have hx := hs.tasks _ (tk_mem hk)
  have hy : TkOk { tk l k with f1 := (tk l k).f1 + 1 } := ⟨hx.f0, ⟨by show 1 ≤ (tk l k).f1 + 1; have := hx.f1; omega, by show (tk l k).f1 + 1 ≤ 100000; omega⟩, ⟨hx.f2.1, by show (tk l k).f2 ≤ (tk l k).f1 + 1; have := hx.f2; omega⟩, hx.f3, hx.f4, hx.f5⟩
  have hs' : Set t (l.set k { tk l k with f1 := (tk l k).f1 + 1 }) := ⟨hs.tab, set_ok hs.tasks hy, by rw [List.length_set]; exact hs.pos, by rw [List.length_set]; exact hs.le⟩
  refine ⟨hs', ?_⟩
  have hf : ∀ j, (tk (l.set k { tk l k with f1 := (tk l k).f1 + 1 }) j).f0 = (tk l j).f0 ∧ (tk (l.set k { tk l k with f1 := (tk l k).f1 + 1 }) j).f5 = (tk l j).f5 ∧ (tk (l.set k { tk l k with f1 := (tk l k).f1 + 1 }) j).f4 = (tk l j).f4 := by
    intro j
    rw [tk_set hk]
    by_cases h : j = k
    · subst h; rw [if_pos rfl]; exact ⟨rfl, rfl, rfl⟩
    · rw [if_neg h]; exact ⟨rfl, rfl, rfl⟩
  have hlen : (l.set k { tk l k with f1 := (tk l k).f1 + 1 }).length = l.length := by simp
  have hi' : i < (l.set k { tk l k with f1 := (tk l k).f1 + 1 }).length := by omega
  have hbase : baseI t (l.set k { tk l k with f1 := (tk l k).f1 + 1 }) i = baseI t l i := by
    unfold baseI
    rw [blockI_congr hlen (fun j _ => ⟨(hf j).1, (hf j).2.1⟩) hi']
    have hj : jobI t (tk (l.set k { tk l k with f1 := (tk l k).f1 + 1 }) i) = jobI t (tk l i) := by unfold jobI critI; rw [(hf i).2.1, (hf i).2.2]
    rw [hj]
  rw [hbase]
  have hd : demI t (l.set k { tk l k with f1 := (tk l k).f1 + 1 }) i (baseI t l i) r ≤ r := by
    refine Int.le_trans (dem_terms hlen i (Int.le_refl _) (fun j _ => (hf j).1) hi' (fun j hj _ => ?_)) (Int.le_of_eq hr2)
    by_cases h : j = k
    · subst h
      refine term_period hs.tab (hs.tasks _ (tk_mem hk)) (hf j).2.1 (hf j).2.2 ?_ (by omega)
      rw [tk_set hk, if_pos rfl]
    · rw [tk_set hk, if_neg h]
      exact Int.le_refl _
  have hb := base_le hs.tab hs.tasks hs.le hi
  obtain ⟨v, hv, hvd⟩ := fix_below (D := demI t (l.set k { tk l k with f1 := (tk l k).f1 + 1 }) i (baseI t l i)) (fun r s h => dem_mono hs'.tab hs'.tasks i _ h) (fun r h => by have := dem_base hs'.tab hs'.tasks i (baseI t l i) h; omega) r hd
  cases hc : bndO (demI t (l.set k { tk l k with f1 := (tk l k).f1 + 1 }) i (baseI t l i)) 1000000 with
  | none =>
    rw [bndO_none] at hc
    exact absurd hvd (hc v (by omega))
  | some s =>
    rw [bndO_some] at hc
    refine ⟨s, rfl, ?_⟩
    rcases Nat.lt_or_ge v s with h | h
    · exact absurd hvd (hc.2.2 v h)
    · omega

/-- The bound of a task alone. -/
theorem alone {t : Tab} (ht : TOk t) {x : S33} (hx : TkOk x) : bndN t [x] 0 = some (jobI t x + t.sec).toNat := by
  have hb : baseI t [x] 0 = jobI t x + t.sec := by
    unfold baseI blockI
    show jobI t x + List.foldl (blockF t x.f0) t.sec [x] = _
    simp [blockF]
  have hd : ∀ r, demI t [x] 0 (jobI t x + t.sec) r = jobI t x + t.sec := by
    intro r
    unfold demI
    show List.foldl (demF t [x] 0 r) _ [0] = _
    simp [demF, hpB]
  have hj := job_le ht hx
  have hsec := ht.sec
  unfold bndN
  rw [hb, bndO_some]
  refine ⟨by omega, by rw [hd]; omega, fun z hz => by rw [hd]; omega⟩
end Go.Proofs.Ytmbfnhnemhojjaa
