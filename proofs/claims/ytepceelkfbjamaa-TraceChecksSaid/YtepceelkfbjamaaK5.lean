/- TraceChecks: The profile, plain. -/
import Derived.Test.YtepceelkfbjamaaK4
namespace Go.Proofs.Ytepceelkfbjamaa
section
set_option linter.unusedVariables false
set_option linter.unusedSimpArgs false
open Go.RowKit Go.Proofs.YtepceelkfbjamaaW.PrintWords Go.Proofs.YtepceelkfbjamaaW.PrintLast Go.Proofs.YtepceelkfbjamaaW.PrintMore PTraceFilters FLib

/-! Tables -/
def tab (n : Nat) (f : Nat → Int) : List Int := (List.range n).map f
theorem tab_len (n : Nat) (f : Nat → Int) : (tab n f).length = n := by unfold tab; rw [List.length_map, List.length_range]
theorem tab_get {n i : Nat} {f : Nat → Int} (h : i < n) : (tab n f)[i]? = some (f i) := by
  unfold tab
  rw [List.getElem?_map, List.getElem?_range h]; rfl
theorem tab_getD {n i : Nat} {f : Nat → Int} (h : i < n) : (tab n f).getD i 0 = f i := by
  rw [List.getD_eq_getElem?_getD, tab_get h]; rfl
theorem tab_congr {n : Nat} {f g : Nat → Int} (h : ∀ k, k < n → f k = g k) : tab n f = tab n g := by
  unfold tab
  exact List.map_congr_left (fun k hk => h k (List.mem_range.1 hk))
theorem tab_set {n i : Nat} {f f' : Nat → Int} {v : Int} (hi : f' i = v) (h : ∀ k, k < n → k ≠ i → f' k = f k) : (tab n f).set i v = tab n f' := by
  apply List.ext_getElem?
  intro k
  by_cases hk : k < n
  · rw [tab_get hk]
    by_cases e : i = k
    · subst e
      rw [List.getElem?_set_self (by rw [tab_len]; exact hk), hi]
    · rw [List.getElem?_set_ne e, tab_get hk, h k hk (fun h => e h.symm)]
  · rw [List.getElem?_eq_none (by rw [List.length_set, tab_len]; omega), List.getElem?_eq_none (by rw [tab_len]; omega)]
theorem rep_tab (n : Nat) (v : Int) : List.replicate n v = tab n (fun _ => v) := by
  apply List.ext_getElem?
  intro k
  by_cases hk : k < n
  · rw [tab_get hk, List.getElem?_replicate, if_pos hk]
  · rw [List.getElem?_eq_none (by rw [List.length_replicate]; omega), List.getElem?_eq_none (by rw [tab_len]; omega)]
def sumP (f : Nat → Int) : Nat → Int
  | 0 => 0
  | p + 1 => sumP f p + f p
theorem sum_congr {f g : Nat → Int} : ∀ {p : Nat}, (∀ i, i < p → f i = g i) → sumP f p = sumP g p
  | 0, _ => rfl
  | p + 1, h => by unfold sumP; rw [sum_congr (fun i hi => h i (by omega)), h p (by omega)]
theorem sum_one {f g : Nat → Int} {i : Nat} {d : Int} : ∀ {p : Nat}, i < p → g i = f i + d → (∀ j, j < p → j ≠ i → g j = f j) → sumP g p = sumP f p + d
  | 0, h, _, _ => by omega
  | p + 1, h, hi, ho => by
    unfold sumP
    by_cases e : i = p
    · subst e
      rw [sum_congr (fun j hj => ho j (by omega) (by omega)), hi]; omega
    · rw [sum_one (by omega) hi (fun j hj => ho j (by omega)), ho p (by omega) (fun h => e h.symm)]; omega
theorem sum_le {f : Nat → Int} {b : Int} : ∀ {p : Nat}, (∀ i, i < p → 0 ≤ f i ∧ f i ≤ b) → 0 ≤ sumP f p ∧ sumP f p ≤ p * b
  | 0, _ => by simp [sumP]
  | p + 1, h => by
    have h1 := sum_le (p := p) (fun i hi => h i (by omega))
    have h2 := h p (by omega)
    unfold sumP
    have : ((p + 1 : Nat) : Int) * b = p * b + b := by rw [Int.natCast_add, Int.add_mul]; simp
    omega
theorem sum_add {f g : Nat → Int} : ∀ (p : Nat), sumP (fun i => f i + g i) p = sumP f p + sumP g p
  | 0 => rfl
  | p + 1 => by unfold sumP; rw [sum_add p]; omega

/-! The folds of one thread -/
def mx2 (x y : Int) : Int := if x < y then y else x
def rst (p t : Int) (x : Int × Int × Int) (e : S47) : Int × Int × Int := if e.f1 = 0 ∧ e.f2 = p then (if x.2.2 = t then x.1 + (e.f0 - x.2.1) else x.1, e.f0, e.f3) else x
def ranS (p t : Int) (l : List S47) : Int × Int × Int := l.foldl (rst p t) (0, 0, -1)
def lst (t : Int) (x : List Int × Int × Int) (e : S47) : List Int × Int × Int :=
  (if e.f1 = 0 then x.1.set e.f2.toNat e.f3 else x.1,
   if e.f3 = t ∧ e.f1 = 0 ∧ x.2.2 ≠ -1 then mx2 x.2.1 (e.f0 - x.2.2) else x.2.1,
   if e.f3 = t ∧ e.f1 = 3 then (if x.1.contains t = true then -1 else e.f0) else if e.f3 = t ∧ e.f1 = 0 then -1 else x.2.2)
def latS (p : Nat) (t : Int) (l : List S47) : List Int × Int × Int := l.foldl (lst t) (List.replicate p (-1), 0, -1)
def cntS (k t : Int) (l : List S47) : Int := l.foldl (fun n e => if e.f3 = t ∧ e.f1 = k then n + 1 else n) 0
def stS (p n : Nat) (l : List S47) : St := l.foldl stp (s0 p n)
theorem ran_snoc (p t : Int) (l : List S47) (e : S47) : ranS p t (l ++ [e]) = rst p t (ranS p t l) e := by unfold ranS; rw [List.foldl_append]; rfl
theorem lat_snoc (p : Nat) (t : Int) (l : List S47) (e : S47) : latS p t (l ++ [e]) = lst t (latS p t l) e := by unfold latS; rw [List.foldl_append]; rfl
theorem cnt_snoc (k t : Int) (l : List S47) (e : S47) : cntS k t (l ++ [e]) = if e.f3 = t ∧ e.f1 = k then cntS k t l + 1 else cntS k t l := by unfold cntS; rw [List.foldl_append]; rfl
theorem st_snoc (p n : Nat) (l : List S47) (e : S47) : stS p n (l ++ [e]) = stp (stS p n l) e := by unfold stS; rw [List.foldl_append]; rfl
theorem take_ev {l : List S47} {k : Nat} (h : k < l.length) : l.take (k + 1) = l.take k ++ [ev l k] := by
  rw [List.take_add_one, ev_get h]; rfl
/-- Each event is without a violation. -/
def Val (p n : Nat) (l : List S47) : Prop := ∀ k, k < l.length → Fine (stS p n (l.take k)) (ev l k)
theorem chk_val {s : St} : ∀ {l : List S47} {i : Nat}, chkF s i l = (-1, 0) → ∀ k, k < l.length → vio ((l.take k).foldl stp s) (ev l k) = 0
  | [], _, _, k, hk => by simp at hk
  | e :: l, i, h, k, hk => by
    unfold chkF at h
    split at h
    · rename_i h0
      cases k with
      | zero => exact h0
      | succ k => exact chk_val (l := l) h k (by simpa using hk)
    · injection h with h1 h2
      omega
theorem val_of {p n : Nat} {l : List S47} {i : Nat} (h : chkF (s0 p n) i l = (-1, 0)) : Val p n l := fun k hk => vio_fine (chk_val h k hk)

/-- What holds of the state and the folds behind the first k events. -/
structure Good (p n : Nat) (l : List S47) (k : Nat) : Prop where
  rl : (stS p n (l.take k)).runs.length = p
  bl : (stS p n (l.take k)).blk.length = n
  el : (stS p n (l.take k)).ended.length = n
  tm : 0 ≤ (stS p n (l.take k)).time
  on : ∀ (i : Nat) (t : Int), i < p → (ranS i t (l.take k)).2.2 = getI (stS p n (l.take k)).runs i
  ot : ∀ i : Nat, i < p → getI (stS p n (l.take k)).runs i = -1 ∨ (0 ≤ getI (stS p n (l.take k)).runs i ∧ getI (stS p n (l.take k)).runs i < n)
  fr : ∀ (i : Nat) (t : Int), i < p → 0 ≤ (ranS i t (l.take k)).2.1 ∧ (ranS i t (l.take k)).2.1 ≤ (stS p n (l.take k)).time
  fe : ∀ (i : Nat) (t u : Int), i < p → (ranS i t (l.take k)).2.1 = (ranS i u (l.take k)).2.1
  nn : ∀ (i : Nat) (t : Int), i < p → 0 ≤ (ranS i t (l.take k)).1 ∧ (ranS i t (l.take k)).1 ≤ (ranS i t (l.take k)).2.1
  lr : ∀ t : Int, (latS p t (l.take k)).1 = (stS p n (l.take k)).runs
  lm : ∀ t : Int, 0 ≤ (latS p t (l.take k)).2.1 ∧ (latS p t (l.take k)).2.1 ≤ (stS p n (l.take k)).time
  ls : ∀ t : Int, (latS p t (l.take k)).2.2 = -1 ∨ (0 ≤ (latS p t (l.take k)).2.2 ∧ (latS p t (l.take k)).2.2 ≤ (stS p n (l.take k)).time)
theorem getI_set {l : List Int} {i j : Nat} (hi : i < l.length) (v : Int) : getI (l.set i v) (j : Int) = if i = j then v else getI l (j : Int) := by
  rw [getI_nat, getI_nat, List.getD_eq_getElem?_getD, List.getD_eq_getElem?_getD]
  by_cases e : i = j
  · subst e; rw [List.getElem?_set_self hi, if_pos rfl]; rfl
  · rw [List.getElem?_set_ne e, if_neg e]
theorem getI_rep {p i : Nat} (h : i < p) : getI (List.replicate p (-1)) (i : Int) = -1 := by
  rw [getI_nat, List.getD_eq_getElem?_getD, List.getElem?_replicate, if_pos h]; rfl
theorem stp_runs (s : St) (e : S47) : (stp s e).runs = if e.f1 = 0 then s.runs.set e.f2.toNat e.f3 else s.runs := by
  unfold stp
  repeat' split
  all_goals first | rfl | contradiction | omega
theorem good (p n : Nat) (l : List S47) (hv : Val p n l) : ∀ k, k ≤ l.length → Good p n l k
  | 0, _ => by
    have h0 : stS p n (l.take 0) = s0 p n := rfl
    refine ⟨?_, ?_, ?_, ?_, ?_, ?_, ?_, ?_, ?_, ?_, ?_, ?_⟩
    all_goals first
      | (rw [h0]; simp [s0]; done)
      | (intro i t hi; rw [h0]; show (-1 : Int) = getI (List.replicate p (-1)) i; rw [getI_rep hi])
      | (intro i hi; left; rw [h0]; exact getI_rep hi)
      | (intro i t hi; rw [h0]; exact ⟨Int.le_refl _, Int.le_refl _⟩)
      | (intro i t u hi; rfl)
      | (intro i t hi; exact ⟨Int.le_refl _, Int.le_refl _⟩)
      | (intro t; rfl)
      | (intro t; exact ⟨Int.le_refl _, Int.le_refl _⟩)
      | (intro t; left; rfl)
  | k + 1, hk => by
    have g := good p n l hv k (by omega)
    have hf := hv k (by omega)
    have hs := stp_len (stS p n (l.take k)) (ev l k)
    have htk := take_ev (l := l) (k := k) (by omega)
    have est : stS p n (l.take (k + 1)) = stp (stS p n (l.take k)) (ev l k) := by rw [htk, st_snoc]
    have hT := hf.time
    have hru : (stS p n (l.take (k + 1))).runs = if (ev l k).f1 = 0 then (stS p n (l.take k)).runs.set (ev l k).f2.toNat (ev l k).f3 else (stS p n (l.take k)).runs := by rw [est, stp_runs]
    have htm : (stS p n (l.take (k + 1))).time = (ev l k).f0 := by rw [est]; exact hs.2.2.2
    have hran : ∀ (i : Nat) (t : Int), ranS i t (l.take (k + 1)) = rst i t (ranS i t (l.take k)) (ev l k) := fun i t => by rw [htk, ran_snoc]
    have hlat : ∀ t : Int, latS p t (l.take (k + 1)) = lst t (latS p t (l.take k)) (ev l k) := fun t => by rw [htk, lat_snoc]
    have hgr : ∀ i : Nat, i < p → getI (stS p n (l.take (k + 1))).runs i = if (ev l k).f1 = 0 ∧ (ev l k).f2 = i then (ev l k).f3 else getI (stS p n (l.take k)).runs i := by
      intro i hi
      rw [hru]
      by_cases h0 : (ev l k).f1 = 0
      · rw [if_pos h0]
        obtain ⟨hp0, hp1⟩ := hf.proc h0
        rw [getI_set (by omega)]
        by_cases e : (ev l k).f2 = i
        · rw [if_pos (by omega), if_pos ⟨h0, e⟩]
        · rw [if_neg (by omega), if_neg (fun h => e h.2)]
      · rw [if_neg h0, if_neg (fun h => h0 h.1)]
    refine ⟨by rw [est, hs.1]; exact g.rl, by rw [est, hs.2.1]; exact g.bl, by rw [est, hs.2.2.1]; exact g.el, ?_, ?_, ?_, ?_, ?_, ?_, ?_, ?_, ?_⟩
    · rw [htm]; have := g.tm; omega
    · intro i t hi
      rw [hran, hgr i hi, rst]
      by_cases h : (ev l k).f1 = 0 ∧ (ev l k).f2 = i
      · rw [if_pos h, if_pos h]
      · rw [if_neg h, if_neg h]; exact g.on i t hi
    · intro i hi
      rw [hgr i hi]
      by_cases h : (ev l k).f1 = 0 ∧ (ev l k).f2 = i
      · rw [if_pos h]
        have := hf.thr (by omega)
        rw [g.bl] at this
        omega
      · rw [if_neg h]; exact g.ot i hi
    · intro i t hi
      have h1 := g.fr i t hi
      have h2 := g.tm
      rw [hran, htm, rst]
      split
      · exact ⟨by show 0 ≤ (ev l k).f0; omega, Int.le_refl _⟩
      · omega
    · intro i t u hi
      rw [hran, hran, rst, rst]
      by_cases h : (ev l k).f1 = 0 ∧ (ev l k).f2 = i
      · rw [if_pos h, if_pos h]
      · rw [if_neg h, if_neg h]; exact g.fe i t u hi
    · intro i t hi
      have h1 := g.fr i t hi
      have h2 := g.nn i t hi
      rw [hran, rst]
      by_cases h : (ev l k).f1 = 0 ∧ (ev l k).f2 = i
      · rw [if_pos h]
        dsimp only
        split <;> omega
      · rw [if_neg h]; exact h2
    · intro t
      rw [hlat, hru, lst]
      dsimp only
      rw [g.lr t]
    · intro t
      have h1 := g.lm t
      have h2 := g.ls t
      have h3 := g.tm
      rw [hlat, htm, lst]
      dsimp only
      unfold mx2
      repeat' split
      all_goals omega
    · intro t
      have h2 := g.ls t
      have h3 := g.tm
      rw [hlat, htm, lst]
      dsimp only
      repeat' split
      all_goals omega
end
section
set_option linter.unusedVariables false
set_option linter.unusedSimpArgs false
open Go.RowKit Go.Proofs.YtepceelkfbjamaaW.PrintWords Go.Proofs.YtepceelkfbjamaaW.PrintLast Go.Proofs.YtepceelkfbjamaaW.PrintMore PTraceFilters FLib

/-- Cell i of the rows behind the events l. -/
def rowJ (p : Nat) (l : List S47) (i : Nat) : Int :=
  if i % 7 = 0 then sumP (fun q => (ranS q (i / 7 : Nat) l).1) p
  else if i % 7 = 1 then cntS 0 (i / 7 : Nat) l
  else if i % 7 = 2 then cntS 2 (i / 7 : Nat) l
  else if i % 7 = 3 then cntS 3 (i / 7 : Nat) l
  else if i % 7 = 4 then cntS 7 (i / 7 : Nat) l
  else if i % 7 = 5 then (latS p (i / 7 : Nat) l).2.1
  else cntS 1 (i / 7 : Nat) l
/-- The state of a profiler. -/
structure Pf where
  s : St
  F : List Int
  si : List Int
  wk : List Int
def pfS (p n : Nat) (l : List S47) : Pf := ⟨stS p n l, tab (n * 7) (rowJ p l), tab p (fun q => (ranS q 0 l).2.1), tab n (fun t => (latS p t l).2.2)⟩
def stopF (P : Pf) (p time : Int) : Pf :=
  ⟨P.s, if getI P.s.runs p = -1 then P.F else P.F.set ((getI P.s.runs p).toNat * 7) (P.F.getD ((getI P.s.runs p).toNat * 7) 0 + (time - getI P.si p)), P.si.set p.toNat time, P.wk⟩
def runF (P : Pf) (e : S47) : Pf :=
  if e.f3 = -1 then stopF P e.f2 e.f0
  else if getI P.wk e.f3 = -1 then ⟨P.s, (stopF P e.f2 e.f0).F.set (e.f3.toNat * 7 + 1) ((stopF P e.f2 e.f0).F.getD (e.f3.toNat * 7 + 1) 0 + 1), (stopF P e.f2 e.f0).si, P.wk⟩
  else ⟨P.s, ((stopF P e.f2 e.f0).F.set (e.f3.toNat * 7 + 1) ((stopF P e.f2 e.f0).F.getD (e.f3.toNat * 7 + 1) 0 + 1)).set (e.f3.toNat * 7 + 5) (mx2 (((stopF P e.f2 e.f0).F.set (e.f3.toNat * 7 + 1) ((stopF P e.f2 e.f0).F.getD (e.f3.toNat * 7 + 1) 0 + 1)).getD (e.f3.toNat * 7 + 5) 0) (e.f0 - getI P.wk e.f3)), (stopF P e.f2 e.f0).si, P.wk.set e.f3.toNat (-1)⟩
def addF (P : Pf) (e : S47) (j : Nat) : Pf := ⟨P.s, P.F.set (e.f3.toNat * 7 + j) (P.F.getD (e.f3.toNat * 7 + j) 0 + 1), P.si, P.wk⟩
def evF (P : Pf) (e : S47) : Pf :=
  if e.f1 = 0 then runF P e
  else if e.f1 = 2 then addF P e 2
  else if e.f1 = 3 then ⟨P.s, (addF P e 3).F, P.si, P.wk.set e.f3.toNat (if P.s.runs.contains e.f3 = true then -1 else e.f0)⟩
  else if e.f1 = 7 then addF P e 4
  else if e.f1 = 1 then addF P e 6
  else P
theorem mod_cases (i : Nat) : i % 7 = 0 ∨ i % 7 = 1 ∨ i % 7 = 2 ∨ i % 7 = 3 ∨ i % 7 = 4 ∨ i % 7 = 5 ∨ i % 7 = 6 := by omega
theorem ran_other {p t : Int} {l : List S47} {e : S47} (h : e.f1 ≠ 0) : ranS p t (l ++ [e]) = ranS p t l := by rw [ran_snoc, rst, if_neg (fun x => h x.1)]
theorem row_other {p : Nat} {l : List S47} {e : S47} (h : e.f1 ≠ 0) (i : Nat) : rowJ p (l ++ [e]) i = if e.f3 = (i / 7 : Nat) ∧ ((i % 7 = 2 ∧ e.f1 = 2) ∨ (i % 7 = 3 ∧ e.f1 = 3) ∨ (i % 7 = 4 ∧ e.f1 = 7) ∨ (i % 7 = 6 ∧ e.f1 = 1)) then rowJ p l i + 1 else rowJ p l i := by
  unfold rowJ
  rcases mod_cases i with m | m | m | m | m | m | m
  · simp only [m, if_true]
    rw [if_neg (by simp)]
    exact sum_congr (fun q hq => by rw [ran_other h])
  · simp only [m, cnt_snoc]
    simp [h]
  · simp only [m, cnt_snoc]
    simp
  · simp only [m, cnt_snoc]
    simp
  · simp only [m, cnt_snoc]
    simp
  · simp only [m, lat_snoc, lst]
    simp [h]
  · simp only [m, cnt_snoc]
    simp
theorem tab_addF {p n : Nat} {l : List S47} {e : S47} {c : Nat} (hc : c < 7) (h : e.f1 ≠ 0) (ht : 0 ≤ e.f3 ∧ e.f3 < (n : Int))
    (hk : ∀ i : Nat, e.f3 = (i / 7 : Nat) → (((i % 7 = 2 ∧ e.f1 = 2) ∨ (i % 7 = 3 ∧ e.f1 = 3) ∨ (i % 7 = 4 ∧ e.f1 = 7) ∨ (i % 7 = 6 ∧ e.f1 = 1)) ↔ i % 7 = c)) :
    (tab (n * 7) (rowJ p l)).set (e.f3.toNat * 7 + c) ((tab (n * 7) (rowJ p l)).getD (e.f3.toNat * 7 + c) 0 + 1) = tab (n * 7) (rowJ p (l ++ [e])) := by
  have hi : e.f3.toNat * 7 + c < n * 7 := by omega
  refine tab_set ?_ fun k hkn hne => ?_
  · rw [tab_getD hi, row_other h, if_pos]
    have e1 : e.f3 = ((e.f3.toNat * 7 + c) / 7 : Nat) := by omega
    exact ⟨e1, (hk _ e1).2 (by omega)⟩
  · rw [row_other h, if_neg]
    intro x
    have := (hk k x.1).1 x.2
    omega
theorem wk_other {p n : Nat} {l : List S47} {e : S47} (h0 : e.f1 ≠ 0) (h3 : e.f1 ≠ 3) : tab n (fun t => (latS p t l).2.2) = tab n (fun t => (latS p t (l ++ [e])).2.2) :=
  tab_congr fun t ht => by rw [lat_snoc, lst]; dsimp only; rw [if_neg (fun x => h3 x.2), if_neg (fun x => h0 x.2)]
theorem si_other {p : Nat} {l : List S47} {e : S47} (h0 : e.f1 ≠ 0) : tab p (fun q => (ranS q 0 l).2.1) = tab p (fun q => (ranS q 0 (l ++ [e])).2.1) :=
  tab_congr fun q hq => by rw [ran_other h0]
/-- Behind stop: the runs' columns alone are new. -/
def midJ (p : Nat) (l : List S47) (e : S47) (i : Nat) : Int := if i % 7 = 0 then rowJ p (l ++ [e]) i else rowJ p l i
def mid2 (p : Nat) (l : List S47) (e : S47) (i : Nat) : Int := if i % 7 = 0 ∨ i % 7 = 1 then rowJ p (l ++ [e]) i else rowJ p l i
theorem row_zero {p n : Nat} {l : List S47} {e : S47} (h0 : e.f1 = 0) (hp : 0 ≤ e.f2 ∧ e.f2 < (p : Int)) (i : Nat) (hi : i % 7 = 0)
    (on : Int) (hon : ∀ t : Int, (ranS e.f2 t l).2.2 = on) (fr : Int) (hfr : ∀ t : Int, (ranS e.f2 t l).2.1 = fr) :
    rowJ p (l ++ [e]) i = rowJ p l i + (if on = (i / 7 : Nat) then e.f0 - fr else 0) := by
  unfold rowJ
  rw [if_pos hi, if_pos hi]
  obtain ⟨q, hq⟩ := Int.eq_ofNat_of_zero_le hp.1
  refine sum_one (i := q) (by omega) ?_ fun j hj hne => ?_
  · rw [ran_snoc, rst, if_pos ⟨h0, hq⟩]
    have h1 := hon (i / 7 : Nat)
    have h2 := hfr (i / 7 : Nat)
    rw [hq] at h1 h2
    dsimp only
    rw [h1, h2]
    split <;> omega
  · rw [ran_snoc, rst, if_neg]
    intro x
    have := x.2
    omega
theorem row_run {p : Nat} {l : List S47} {e : S47} (h0 : e.f1 = 0) (i : Nat) (hi : i % 7 ≠ 0) :
    rowJ p (l ++ [e]) i = if e.f3 = (i / 7 : Nat) ∧ i % 7 = 1 then rowJ p l i + 1 else if e.f3 = (i / 7 : Nat) ∧ i % 7 = 5 ∧ (latS p (i / 7 : Nat) l).2.2 ≠ -1 then mx2 (rowJ p l i) (e.f0 - (latS p (i / 7 : Nat) l).2.2) else rowJ p l i := by
  unfold rowJ
  rcases mod_cases i with m | m | m | m | m | m | m
  · exact absurd m hi
  all_goals
    simp only [m, cnt_snoc, lat_snoc, lst, h0]
    simp

theorem ev_pf {p n : Nat} {l : List S47} {k : Nat} (hk : k < l.length) (hf : Fine (stS p n (l.take k)) (ev l k)) (g : Good p n l k) :
    evF (pfS p n (l.take k)) (ev l k) = ⟨stS p n (l.take k), tab (n * 7) (rowJ p (l.take (k + 1))), tab p (fun q => (ranS q 0 (l.take (k + 1))).2.1), tab n (fun t => (latS p t (l.take (k + 1))).2.2)⟩ := by
  rw [take_ev hk]
  have hon := g.on
  have hfe := g.fe
  have hot := g.ot
  have hlr := g.lr
  have hpr := hf.proc
  have hth := hf.thr
  rw [g.rl] at hpr
  rw [g.bl] at hth
  generalize ev l k = e at hpr hth ⊢
  clear hf
  generalize hL : l.take k = L at hon hfe hot hlr ⊢
  clear hL g
  unfold evF pfS
  by_cases h0 : e.f1 = 0
  · rw [if_pos h0]
    obtain ⟨hp0, hp1⟩ := hpr h0
    have hq : e.f2 = (e.f2.toNat : Int) := by omega
    have hqp : e.f2.toNat < p := by omega
    -- sinces
    have hsi : (tab p (fun q => (ranS q 0 L).2.1)).set e.f2.toNat e.f0 = tab p (fun q => (ranS q 0 (L ++ [e])).2.1) := by
      refine tab_set ?_ fun q hqn hne => ?_
      · rw [ran_snoc, rst, if_pos ⟨h0, hq⟩]
      · rw [ran_snoc, rst, if_neg]
        intro x
        have := x.2
        omega
    have hgs : getI (tab p (fun q => (ranS q 0 L).2.1)) e.f2 = (ranS e.f2 0 L).2.1 := by
      rw [hq, getI_nat, tab_getD hqp]
    have honq : ∀ t : Int, (ranS e.f2 t L).2.2 = getI (stS p n L).runs e.f2 := fun t => by
      have := hon e.f2.toNat t hqp
      rwa [← hq] at this
    have hfrq : ∀ t : Int, (ranS e.f2 t L).2.1 = (ranS e.f2 0 L).2.1 := fun t => by
      have := hfe e.f2.toNat t 0 hqp
      rwa [← hq] at this
    have hotq := hot e.f2.toNat hqp
    rw [← hq] at hotq
    have hF1 : (stopF ⟨stS p n L, tab (n * 7) (rowJ p L), tab p (fun q => (ranS q 0 L).2.1), tab n (fun t => (latS p t L).2.2)⟩ e.f2 e.f0).F = tab (n * 7) (midJ p L e) := by
      unfold stopF
      dsimp only
      rw [hgs]
      generalize hgo : getI (stS p n L).runs e.f2 = on at honq hotq
      split
      · rename_i h1
        refine tab_congr fun i hi => ?_
        unfold midJ
        split
        · rename_i hm
          rw [row_zero (n := n) h0 ⟨hp0, hp1⟩ i hm on honq _ hfrq, if_neg (by omega)]; omega
        · rfl
      · rename_i h1
        have hr : 0 ≤ on ∧ on < n := by omega
        refine tab_set ?_ fun i hi hne => ?_
        · rw [tab_getD (by omega)]
          unfold midJ
          rw [if_pos (by omega), row_zero (n := n) h0 ⟨hp0, hp1⟩ _ (by omega) on honq _ hfrq, if_pos (by omega)]
        · unfold midJ
          split
          · rename_i hm
            rw [row_zero (n := n) h0 ⟨hp0, hp1⟩ i hm on honq _ hfrq, if_neg (by omega)]; omega
          · rfl
    have hlatw : ∀ t : Int, (latS p t (L ++ [e])).2.2 = if e.f3 = t then -1 else (latS p t L).2.2 := fun t => by
      rw [lat_snoc, lst]
      dsimp only
      rw [if_neg (fun x => by have := x.2; omega)]
      by_cases h : e.f3 = t
      · rw [if_pos ⟨h, h0⟩, if_pos h]
      · rw [if_neg (fun x => h x.1), if_neg h]
    unfold runF
    rw [hF1]
    have hsf : (stopF ⟨stS p n L, tab (n * 7) (rowJ p L), tab p (fun q => (ranS q 0 L).2.1), tab n (fun t => (latS p t L).2.2)⟩ e.f2 e.f0).si = tab p (fun q => (ranS q 0 (L ++ [e])).2.1) := hsi
    rw [hsf]
    by_cases ht : e.f3 = -1
    · rw [if_pos ht]
      have e1 : stopF ⟨stS p n L, tab (n * 7) (rowJ p L), tab p (fun q => (ranS q 0 L).2.1), tab n (fun t => (latS p t L).2.2)⟩ e.f2 e.f0 = ⟨stS p n L, tab (n * 7) (midJ p L e), tab p (fun q => (ranS q 0 (L ++ [e])).2.1), tab n (fun t => (latS p t L).2.2)⟩ := by
        rw [← hF1, ← hsf]; rfl
      rw [e1]
      congr 1
      · refine tab_congr fun i hi => ?_
        unfold midJ
        split
        · rfl
        · rename_i hm
          rw [row_run h0 i hm, if_neg (by omega), if_neg (by omega)]
      · exact tab_congr fun t ht2 => by rw [hlatw, if_neg (by omega)]
    · rw [if_neg ht]
      have htr : 0 ≤ e.f3 ∧ e.f3 < (n : Int) := by
        rcases hth (by omega) with h | h
        · exact h
        · exact absurd h.1 ht
      have htq : e.f3 = (e.f3.toNat : Int) := by omega
      have hgw : getI (tab n (fun t => (latS p t L).2.2)) e.f3 = (latS p e.f3 L).2.2 := by
        have : getI (tab n (fun t => (latS p t L).2.2)) (e.f3.toNat : Int) = (latS p (e.f3.toNat : Int) L).2.2 := by rw [getI_nat, tab_getD (by omega)]
        rwa [← htq] at this
      have hF2 : (tab (n * 7) (midJ p L e)).set (e.f3.toNat * 7 + 1) ((tab (n * 7) (midJ p L e)).getD (e.f3.toNat * 7 + 1) 0 + 1) = tab (n * 7) (mid2 p L e) := by
        refine tab_set ?_ fun i hi hne => ?_
        · rw [tab_getD (by omega)]
          unfold mid2 midJ
          rw [if_pos (by omega), if_neg (by omega), row_run h0 _ (by omega), if_pos (by omega)]
        · unfold mid2 midJ
          by_cases m0 : i % 7 = 0
          · rw [if_pos (Or.inl m0), if_pos m0]
          · rw [if_neg m0]
            by_cases m1 : i % 7 = 1
            · rw [if_pos (Or.inr m1), row_run h0 _ m0, if_neg (by omega), if_neg (by omega)]
            · rw [if_neg (by omega)]
      rw [hF2, hgw]
      by_cases hw : (latS p e.f3 L).2.2 = -1
      · rw [if_pos hw]
        congr 1
        · refine tab_congr fun i hi => ?_
          unfold mid2
          split
          · rfl
          · rename_i hm
            rw [row_run h0 _ (by omega), if_neg (by omega), if_neg]
            rintro ⟨x1, -, x3⟩
            rw [← x1] at x3
            exact x3 hw
        · refine tab_congr fun t ht2 => ?_
          rw [hlatw]
          by_cases x : e.f3 = t
          · rw [if_pos x, ← x, hw]
          · rw [if_neg x]
      · rw [if_neg hw]
        congr 1
        · refine tab_set ?_ fun i hi hne => ?_
          · rw [tab_getD (by omega)]
            have hx : mid2 p L e (e.f3.toNat * 7 + 5) = rowJ p L (e.f3.toNat * 7 + 5) := by unfold mid2; rw [if_neg (by omega)]
            have hd : ((e.f3.toNat * 7 + 5) / 7 : Nat) = e.f3.toNat := by omega
            rw [hx, row_run h0 _ (by omega), if_neg (by omega), hd, ← htq, if_pos ⟨rfl, by omega, hw⟩]
          · unfold mid2
            split
            · rfl
            · rename_i hm
              rw [row_run h0 _ (by omega), if_neg (by omega), if_neg]
              rintro ⟨x1, x2, -⟩
              omega
        · refine tab_set ?_ fun t ht2 hne => ?_
          · rw [hlatw, if_pos htq]
          · rw [hlatw, if_neg (by omega)]
  · rw [if_neg h0]
    have h5 : e.f1 ≠ 5 → e.f1 ≠ 6 → 0 ≤ e.f3 ∧ e.f3 < (n : Int) := fun a b => by
      rcases hth a with h | h
      · exact h
      · omega
    rw [← si_other h0]
    by_cases h2 : e.f1 = 2
    · rw [if_pos h2, ← wk_other h0 (by omega)]
      unfold addF
      congr 1
      exact tab_addF (by omega) h0 (h5 (by omega) (by omega)) (fun i hi => by omega)
    · rw [if_neg h2]
      by_cases h3 : e.f1 = 3
      · rw [if_pos h3]
        have htr := h5 (by omega) (by omega)
        congr 1
        · exact tab_addF (by omega) h0 htr (fun i hi => by omega)
        · refine tab_set ?_ fun t ht hne => ?_
          · rw [lat_snoc, lst]
            dsimp only
            rw [if_pos ⟨by omega, h3⟩, hlr]
            have : ((e.f3.toNat : Nat) : Int) = e.f3 := by omega
            rw [this]
          · rw [lat_snoc, lst]
            dsimp only
            rw [if_neg (fun x => by have := x.1; omega), if_neg (fun x => h0 x.2)]
      · rw [if_neg h3, ← wk_other h0 h3]
        by_cases h7 : e.f1 = 7
        · rw [if_pos h7]
          unfold addF
          congr 1
          exact tab_addF (by omega) h0 (h5 (by omega) (by omega)) (fun i hi => by omega)
        · rw [if_neg h7]
          by_cases h1 : e.f1 = 1
          · rw [if_pos h1]
            unfold addF
            congr 1
            exact tab_addF (by omega) h0 (h5 (by omega) (by omega)) (fun i hi => by omega)
          · rw [if_neg h1]
            congr 1
            exact tab_congr fun i hi => by rw [row_other h0, if_neg (by omega)]
end
end Go.Proofs.Ytepceelkfbjamaa
