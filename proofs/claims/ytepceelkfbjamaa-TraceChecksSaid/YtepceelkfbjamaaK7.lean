/- TraceChecks: Profile of the program. -/
import Derived.Test.YtepceelkfbjamaaK6
namespace Go.Proofs.Ytepceelkfbjamaa
section
set_option linter.unusedVariables false
set_option linter.unusedSimpArgs false
open Go.RowKit Go.Proofs.YtepceelkfbjamaaW.PrintWords Go.Proofs.YtepceelkfbjamaaW.PrintLast Go.Proofs.YtepceelkfbjamaaW.PrintMore PTraceFilters FLib

theorem time_step {p n : Nat} {l : List S47} (hv : Val p n l) {k : Nat} (hk : k < l.length) : (stS p n (l.take k)).time ≤ (stS p n (l.take (k + 1))).time ∧ (stS p n (l.take (k + 1))).time = (ev l k).f0 := by
  have h := hv k hk
  rw [take_ev hk, st_snoc]
  have := (stp_len (stS p n (l.take k)) (ev l k)).2.2.2
  have := h.time
  omega
theorem time_le {p n : Nat} {l : List S47} (hv : Val p n l) : ∀ (d k : Nat), k + d = l.length → (stS p n (l.take k)).time ≤ (stS p n l).time
  | 0, k, h => by
    have : l.take k = l := List.take_of_length_le (by omega)
    rw [this]; exact Int.le_refl _
  | d + 1, k, h => Int.le_trans (time_step hv (by omega)).1 (time_le hv d (k + 1) (by omega))
def last (l : List S47) : Int := if l.length = 0 then 0 else (ev l (l.length - 1)).f0
theorem last_time {p n : Nat} {l : List S47} (hv : Val p n l) : (stS p n l).time = last l := by
  unfold last
  split
  · rename_i h
    have : l = [] := List.length_eq_zero_iff.1 h
    subst this
    rfl
  · have h := (time_step hv (k := l.length - 1) (by omega)).2
    have e : l.take (l.length - 1 + 1) = l := List.take_of_length_le (by omega)
    rwa [e] at h
theorem ev_time {p n : Nat} {l : List S47} (hv : Val p n l) {k : Nat} (hk : k < l.length) : (ev l k).f0 ≤ (stS p n l).time := by
  have h1 := (time_step hv hk).2
  have h2 := time_le hv (l.length - (k + 1)) (k + 1) (by omega)
  omega
theorem cnt_le (k t : Int) : ∀ (l : List S47) (n : Int), n ≤ l.foldl (fun n e => if e.f3 = t ∧ e.f1 = k then n + 1 else n) n ∧ l.foldl (fun n e => if e.f3 = t ∧ e.f1 = k then n + 1 else n) n ≤ n + l.length
  | [], n => by simp
  | e :: l, n => by
    rw [List.foldl_cons, List.length_cons]
    have h := cnt_le k t l (if e.f3 = t ∧ e.f1 = k then n + 1 else n)
    by_cases hh : e.f3 = t ∧ e.f1 = k
    · rw [if_pos hh] at h ⊢; omega
    · rw [if_neg hh] at h ⊢; omega
theorem cntS_le (k t : Int) (l : List S47) : 0 ≤ cntS k t l ∧ cntS k t l ≤ l.length := by
  have := cnt_le k t l 0
  unfold cntS
  omega
theorem row_le {p n : Nat} {l : List S47} {k : Nat} (g : Good p n l k) (hp : p ≤ 8) (hl : l.length ≤ 20000) (ht : (stS p n (l.take k)).time ≤ tmax) (i : Nat) : 0 ≤ rowJ p (l.take k) i ∧ rowJ p (l.take k) i ≤ 8 * tmax := by
  have hT : tmax = 1099511627776 := rfl
  have hlt : (l.take k).length ≤ 20000 := by rw [List.length_take]; omega
  have h0 := g.tm
  unfold rowJ
  split
  · have := sum_le (f := fun q => (ranS q (i / 7 : Nat) (l.take k)).1) (b := tmax) (p := p) (fun q hq => by
      have h1 := g.nn q (i / 7 : Nat) hq
      have h2 := g.fr q (i / 7 : Nat) hq
      try dsimp only
      omega)
    have h3 : (p : Int) * tmax ≤ 8 * tmax := Int.mul_le_mul_of_nonneg_right (by omega) (by omega)
    omega
  · split
    · have := cntS_le 0 (i / 7 : Nat) (l.take k); omega
    · split
      · have := cntS_le 2 (i / 7 : Nat) (l.take k); omega
      · split
        · have := cntS_le 3 (i / 7 : Nat) (l.take k); omega
        · split
          · have := cntS_le 7 (i / 7 : Nat) (l.take k); omega
          · split
            · have := g.lm (i / 7 : Nat); omega
            · have := cntS_le 1 (i / 7 : Nat) (l.take k); omega
theorem tab_le {n : Nat} {f : Nat → Int} {b : Int} (hb : 0 ≤ b) (h : ∀ i, i < n → 0 ≤ f i ∧ f i ≤ b) (i : Nat) : 0 ≤ (tab n f).getD i 0 ∧ (tab n f).getD i 0 ≤ b := by
  by_cases hi : i < n
  · rw [tab_getD hi]; exact h i hi
  · rw [List.getD_eq_getElem?_getD, List.getElem?_eq_none (by rw [tab_len]; omega)]
    exact ⟨Int.le_refl _, hb⟩

/-- Cell i of the rows behind j stops at the end. -/
def endJ (p : Nat) (l : List S47) (z : Int) (j i : Nat) : Int := if i % 7 = 0 then rowJ p l i + sumP (fun q => if (ranS q 0 l).2.2 = (i / 7 : Nat) then z - (ranS q 0 l).2.1 else 0) j else rowJ p l i
def pfE (p n : Nat) (l : List S47) (z : Int) (j : Nat) : Pf := ⟨stS p n l, tab (n * 7) (endJ p l z j), tab p (fun q => if q < j then z else (ranS q 0 l).2.1), tab n (fun t => (latS p t l).2.2)⟩
theorem sumP_succ (f : Nat → Int) (p : Nat) : sumP f (p + 1) = sumP f p + f p := rfl
theorem pfE_zero (p n : Nat) (l : List S47) (z : Int) : pfE p n l z 0 = pfS p n l := by
  unfold pfE pfS
  congr 1
  · refine tab_congr fun i hi => ?_
    unfold endJ sumP
    split <;> omega
theorem pfE_step {p n : Nat} {l : List S47} (g : Good p n l l.length) {z : Int} {j : Nat} (hj : j < p) : stopF (pfE p n l z j) j z = pfE p n l z (j + 1) := by
  have e : l.take l.length = l := List.take_length
  have hon := g.on j 0 hj
  have hot := g.ot j hj
  rw [e] at hon hot
  unfold stopF pfE
  dsimp only
  rw [← hon] at hot ⊢
  have hs : getI (tab p (fun q => if q < j then z else (ranS q 0 l).2.1)) (j : Int) = (ranS j 0 l).2.1 := by
    rw [getI_nat, tab_getD hj, if_neg (by omega)]
  rw [hs, Int.toNat_natCast]
  congr 1
  · generalize hgo : (ranS j 0 l).2.2 = on at hot
    have hn : ∀ i, endJ p l z (j + 1) i = if i % 7 = 0 ∧ on = (i / 7 : Nat) then endJ p l z j i + (z - (ranS j 0 l).2.1) else endJ p l z j i := by
      intro i
      unfold endJ
      rw [sumP_succ, hgo]
      by_cases h1 : i % 7 = 0
      · rw [if_pos h1, if_pos h1]
        by_cases h2 : on = (i / 7 : Nat)
        · rw [if_pos h2, if_pos ⟨h1, h2⟩]; omega
        · rw [if_neg h2, if_neg (fun x => h2 x.2)]; omega
      · rw [if_neg h1, if_neg h1, if_neg (fun x => h1 x.1)]
    split
    · refine tab_congr fun i hi => ?_
      rw [hn, if_neg (by omega)]
    · have hr : 0 ≤ on ∧ on < n := by omega
      refine tab_set ?_ fun i hi hne => ?_
      · rw [tab_getD (by omega), hn, if_pos (by omega)]
      · rw [hn, if_neg (by omega)]
  · refine tab_set ?_ fun q hq hne => ?_
    · rw [if_pos (by omega)]
    · by_cases h : q < j
      · rw [if_pos h, if_pos (by omega)]
      · rw [if_neg h, if_neg (by omega)]
theorem sum_mono_le {f : Nat → Int} {b : Int} (hb : 0 ≤ b) {p : Nat} (h : ∀ i, i < p → 0 ≤ f i ∧ f i ≤ b) (hp : p ≤ 8) : 0 ≤ sumP f p ∧ sumP f p ≤ 8 * b := by
  have h1 := sum_le h
  have h3 : (p : Int) * b ≤ 8 * b := Int.mul_le_mul_of_nonneg_right (by omega) hb
  omega
theorem sum_split {f g : Nat → Int} {j p : Nat} (hj : j ≤ p) : ∀ {b : Int}, 0 ≤ b → p ≤ 8 → (∀ i, i < p → 0 ≤ f i ∧ 0 ≤ g i ∧ f i + g i ≤ b) → 0 ≤ sumP f p + sumP g j ∧ sumP f p + sumP g j ≤ 8 * b := by
  intro b hb hp h
  have e : sumP g j ≤ sumP g p ∧ 0 ≤ sumP g j := by
    have : ∀ d, j + d ≤ p → sumP g j ≤ sumP g (j + d) := by
      intro d
      induction d with
      | zero => intro _; exact Int.le_refl _
      | succ d ih =>
        intro hd
        have h1 := ih (by omega)
        have h2 := (h (j + d) (by omega)).2.1
        show _ ≤ sumP g (j + d + 1)
        rw [sumP_succ]
        omega
    refine ⟨?_, ?_⟩
    · have := this (p - j) (by omega)
      rwa [show j + (p - j) = p by omega] at this
    · exact (sum_le (b := b) (fun i hi => by have := h i (by omega); omega)).1
  have h1 := sum_mono_le (f := fun i => f i + g i) hb (fun i hi => by have := h i hi; (try dsimp only); omega) hp
  rw [sum_add] at h1
  have h2 := (sum_le (f := f) (b := b) (p := p) (fun i hi => by have := h i hi; omega)).1
  omega
theorem end_le {p n : Nat} {l : List S47} (g : Good p n l l.length) (hp : p ≤ 8) (hl : l.length ≤ 20000) {z : Int} (hz : (stS p n l).time ≤ z) (hz2 : z ≤ tmax) {j : Nat} (hj : j ≤ p) (i : Nat) : 0 ≤ endJ p l z j i ∧ endJ p l z j i ≤ 8 * tmax := by
  have hT : tmax = 1099511627776 := rfl
  have e : l.take l.length = l := List.take_length
  have ht : (stS p n (l.take l.length)).time ≤ tmax := by rw [e]; omega
  have hr := row_le g hp hl ht i
  have h0 := g.tm
  rw [e] at hr h0
  unfold endJ
  split
  · rename_i hm
    have hrow : rowJ p l i = sumP (fun q => (ranS q (i / 7 : Nat) l).1) p := by unfold rowJ; rw [if_pos hm]
    rw [hrow]
    have := sum_split (f := fun q => (ranS q (i / 7 : Nat) l).1) (g := fun q => if (ranS q 0 l).2.2 = (i / 7 : Nat) then z - (ranS q 0 l).2.1 else 0) hj (b := tmax) (by omega) hp (fun q hq => by
      have h1 := g.nn q (i / 7 : Nat) hq
      have h2 := g.fr q (i / 7 : Nat) hq
      have h3 := g.fe q (i / 7 : Nat) 0 hq
      rw [e] at h1 h2 h3
      try dsimp only
      split <;> omega)
    exact this
  · exact hr
theorem getD_tabD {n : Nat} {f : Nat → Int} {i : Nat} (h : i < n) : getI (tab n f) (i : Int) = f i := by rw [getI_nat, tab_getD h]
end
section
set_option linter.unusedVariables false
set_option linter.unusedSimpArgs false
open Go.RowKit Go.Proofs.YtepceelkfbjamaaW.PrintWords Go.Proofs.YtepceelkfbjamaaW.PrintLast Go.Proofs.YtepceelkfbjamaaW.PrintMore PTraceFilters FLib
attribute [local go_sem ↓] hold_cells hold_from
attribute [local go_sem] below_alloc_T below_drew_T below_drewN_T run_box run_box6

def prE (l : List S47) (p t z : Int) : Int := if (chkR l p t).2.2 ≠ 0 then (chkR l p t).2.2 else if (chkR l p t).1 ≠ -1 then 14 else if z < last l ∨ tmax < z then 34 else 0
def prF (p n : Nat) (l : List S47) (z : Int) : List Int := tab (n * 7) (endJ p l z p)
def PrPost (T : Nat) (l : List S47) (p t z : Int) (w : World) (x : Ending) (w' : World) : Prop :=
  ∃ (A : Option Addr) (nn c : Nat), x = .returned (.tuple #[.slice A nn c, .int .i64 (prE l p t z)]) ∧ Below w.heap.size w w' ∧ nn = (if prE l p t z = 0 then t.toNat else 0) ∧
    (prE l p t z = 0 → 0 < nn → ∃ g, A = some ⟨g, 0, none⟩ ∧ At w' g T (ints (prF p.toNat t.toNat l z)))
theorem chkF_one {s : St} : ∀ {l : List S47} {i : Nat}, (chkF s i l).1 = -1 → chkF s i l = (-1, 0)
  | [], i, h => by
    unfold chkF at h ⊢
    split at h
    · dsimp only at h; omega
    · rename_i hh; rw [if_neg hh]
  | e :: l, i, h => by
    unfold chkF at h ⊢
    split at h
    · rename_i hh; rw [if_pos hh]; exact chkF_one h
    · dsimp only at h; omega
theorem chk_good {l : List S47} {p t : Int} (h1 : (chkR l p t).2.2 = 0) (h2 : (chkR l p t).1 = -1) : ∃ pn tn : Nat, p = pn ∧ t = tn ∧ 1 ≤ pn ∧ pn ≤ 8 ∧ tn ≤ 256 ∧ l.length ≤ 20000 ∧ Val pn tn l := by
  unfold chkR at h1 h2
  split at h1
  · cases h1
  · rename_i hr
    rw [if_neg hr] at h2
    split at h1
    · cases h1
    · rename_i hl
      rw [if_neg hl] at h2
      refine ⟨p.toNat, t.toNat, by omega, by omega, by omega, by omega, by omega, by omega, val_of (i := 0) (chkF_one h2)⟩
theorem info76 : (Try.prog.info? 76).map (fun i => (i.zero, i.size, i.bytes)) = some (some (.agg #[.int .i64 0, .int .i64 0, .int .i64 0, .int .i64 0, .int .i64 0, .int .i64 0, .int .i64 0]), 7, 56) := by kernel_rfl
theorem info2 : (Try.prog.info? 2).map (fun i => (i.zero, i.size, i.bytes)) = some (some (.int .i64 0), 1, 8) := by kernel_rfl
theorem made_ints (n : Nat) : madeCells #[Value.int .i64 0] n = (ints (List.replicate n 0)).toArray := by
  apply Array.ext'
  rw [toList_madeCells_one]
  simp [ints]
theorem made_seven (n : Nat) : madeCells #[Value.int .i64 0, .int .i64 0, .int .i64 0, .int .i64 0, .int .i64 0, .int .i64 0, .int .i64 0] n = (ints (List.replicate n 0)).toArray := by
  apply Array.ext'
  apply List.ext_getElem?
  intro i
  unfold madeCells ints
  by_cases hi : i < n
  · have h7 : i % 7 = 0 ∨ i % 7 = 1 ∨ i % 7 = 2 ∨ i % 7 = 3 ∨ i % 7 = 4 ∨ i % 7 = 5 ∨ i % 7 = 6 := by omega
    rcases h7 with h | h | h | h | h | h | h <;> simp [hi, h]
  · simp [hi]
theorem make_rows (n : Nat) (hn : n ≤ 256) (W : World) : (Instr.makeSlice 69 (.int .i64 (n : Int)) (.int .i64 (n : Int))).run Try.prog W = .ok (.slice (some ⟨W.heap.size, 0, none⟩) n n) (W.alloc (.cells (ints (List.replicate (n * 7) 0)).toArray 76)) := by
  have hi := info76
  cases hq : Try.prog.info? 76 with
  | none => rw [hq] at hi; simp at hi
  | some i =>
    rw [hq] at hi
    simp only [Option.map_some, Option.some.injEq, Prod.mk.injEq] at hi
    obtain ⟨h1, h2, h3⟩ := hi
    have := run_make (P := Try.prog) W 69 76 i _ Try.underlying69 hq h1 .i64 .i64 (n : Int) (n : Int) (by omega) (Int.le_refl _) (by rw [h3]; omega) (by omega)
    rw [h2, Int.toNat_natCast] at this
    rw [this]
    show Result.ok _ (W.alloc (.cells (madeCells #[Value.int .i64 0, .int .i64 0, .int .i64 0, .int .i64 0, .int .i64 0, .int .i64 0, .int .i64 0] (n * 7)) 76)) = _
    rw [made_seven]
theorem make_since (n : Nat) (hn : n ≤ 8) (W : World) : (Instr.makeSlice 103 (.int .i64 (n : Int)) (.int .i64 (n : Int))).run Try.prog W = .ok (.slice (some ⟨W.heap.size, 0, none⟩) n n) (W.alloc (.cells (ints (List.replicate n 0)).toArray 2)) := by
  have := print_make_of (P := Try.prog) 103 2 (.int .i64 0) 8 Try.underlying103 info2 rfl (by decide) n (by omega) W
  rw [made_ints] at this
  exact this

theorem abs_k {K : Act → World → Prop} {a : Act} {w : World} (F : World → Prop) (hF : F w) (h : ∀ w2, F w2 → K a w2) : K a w := h w hF
theorem blk_at {w : World} {o : Obj} {g : Nat} (h : g = w.heap.size) : (w.alloc o).heap[g]? = some o := by subst h; exact blk_new w o
/-- The profiler's beginning. -/
structure P0 (p n base : Nat) (w : World) (qp q gr cr gb ge gw gs : Nat) (v : Value) : Prop where
  hp : w.heap[qp]? = some (.cells #[.pointer (some ⟨q, 0, none⟩), .slice (some ⟨gw, 0, none⟩) n n, .slice (some ⟨gs, 0, none⟩) p p, v] 105 (0, 0))
  cc : CC 115 w q gr cr gb ge (s0 p n)
  hw : At w gw 76 (ints (List.replicate (n * 7) 0))
  hs : At w gs 2 (ints (List.replicate p 0))
  b0 : base ≤ qp ∧ base ≤ q ∧ base ≤ gr ∧ base ≤ gb ∧ base ≤ ge ∧ base ≤ gw ∧ base ≤ gs

theorem P0.app {p n base : Nat} {w w' : World} {qp q gr cr gb ge gw gs b2 : Nat} {v : Value} {xs : List Int} (h : P0 p n base w qp q gr cr gb ge gw gs v) (hR : Kd.R (Kd.int .i64) 2 w b2 (fun _ => True) v xs) (hne : v.ownBlock ≠ some gs) (hg : w.grownBy w' v.ownBlock) : P0 p n base w' qp q gr cr gb ge gw gs v := by
  have hA : ∀ {g T : Nat} {l : List Value}, At w g T l → 2 ≠ T → w'.heap[g]? = w.heap[g]? := fun {g T l} hA hT => by
    obtain ⟨rest, hb⟩ := hA
    exact hg.block g (blk_lt hb) (Kd.R_ne hR hb hT)
  refine ⟨blk_grown h.hp hg (Kd.R_ne hR h.hp (by decide)), h.cc.block ?_, h.hw.block (hA h.hw (by decide)), h.hs.block (hg.block gs h.hs.lt (fun e => hne e.symm)), h.b0⟩
  rintro i (rfl | rfl | rfl | rfl)
  · exact hA h.cc.qAt (by decide)
  · exact hA h.cc.hr (by decide)
  · exact hA h.cc.hb (by decide)
  · exact hA h.cc.he (by decide)
theorem P0.qAt {p n base : Nat} {w : World} {qp q gr cr gb ge gw gs : Nat} {v : Value} (h : P0 p n base w qp q gr cr gb ge gw gs v) : At w qp 105 [.pointer (some ⟨q, 0, none⟩), .slice (some ⟨gw, 0, none⟩) n n, .slice (some ⟨gs, 0, none⟩) p p, v] := ⟨[], by simpa using h.hp⟩
theorem P0.setV {p n base : Nat} {w : World} {qp q gr cr gb ge gw gs : Nat} {v : Value} (h : P0 p n base w qp q gr cr gb ge gw gs v) (u : Value) : P0 p n base (w.setCell ⟨qp, 3, none⟩ u) qp q gr cr gb ge gw gs u :=
  ⟨by simpa using blk_set h.hp 3 u, h.cc.set_far h.qAt (by decide) (by decide) (by decide), h.hw.set_ne (h.qAt.ne h.hw (by decide)) _, h.hs.set_ne (h.qAt.ne h.hs (by decide)) _, h.b0⟩
theorem P0.alloc {p n base : Nat} {w w' : World} {qp q gr cr gb ge gw gs : Nat} {v : Value} (h : P0 p n base w qp q gr cr gb ge gw gs v) (hb : Below w.heap.size w w') : P0 p n base w' qp q gr cr gb ge gw gs v :=
  ⟨blk_below h.hp hb, h.cc.below hb, h.hw.below hb, h.hs.below hb, h.b0⟩
theorem At.of_R2 {w : World} {base g c : Nat} {l : List Int} (h : Kd.R (Kd.int .i64) 2 w base (fun _ => True) (.slice (some ⟨g, 0, none⟩) l.length c) l) (hp : 0 < l.length) : At w g 2 (ints l) := by
  obtain ⟨g', c', e, -, -, cells, hc⟩ := Kd.R_form h hp
  injection e with e _ _
  injection e with e
  injection e with e _ _
  subst e
  have hx : ∀ i, i < l.length → cells.toList[i]? = some (.int .i64 (l.getD i 0)) := by
    intro i hi
    obtain ⟨ac, eac, ec⟩ := Kd.at_int (Kd.R_reads' h).2.2 (i : Int) (by omega) (by omega)
    injection eac with eac
    subst eac
    have e1 : w.cell? ⟨g, i, none⟩ = some (.int .i64 (l.getD i 0)) := by
      rw [← add_mk0]
      simpa [rd] using ec
    rw [blk_cell hc] at e1
    simpa using e1
  refine ⟨cells.toList.drop l.length, ?_⟩
  rw [hc]
  congr 2
  apply Array.ext'
  apply List.ext_getElem?
  intro i
  by_cases hi : i < l.length
  · rw [hx i hi]
    simp only [List.toList_toArray]
    rw [List.getElem?_append_left (by rw [ints_len]; exact hi)]
    unfold ints
    rw [List.getElem?_map, List.getElem?_eq_getElem hi, List.getD_eq_getElem?_getD, List.getElem?_eq_getElem hi]; rfl
  · simp only [List.toList_toArray]
    rw [List.getElem?_append_right (by rw [ints_len]; omega), ints_len, List.getElem?_drop]
    congr 1
    omega
/-- The whole profiler. -/
theorem P0.pp {p n base b2 : Nat} {w : World} {qp q gr cr gb ge gw gs : Nat} {v : Value} (h : P0 p n base w qp q gr cr gb ge gw gs v) (hR : Kd.R (Kd.int .i64) 2 w b2 (fun _ => True) v (List.replicate n (-1))) (hne : v.ownBlock ≠ some gs) (hb : base ≤ b2) :
    ∃ gk kA ck, PP w qp q gr cr gb ge gw gs gk kA ck (pfS p n []) ∧ base ≤ gk := by
  have e0 : pfS p n [] = ⟨s0 p n, List.replicate (n * 7) 0, List.replicate p 0, List.replicate n (-1)⟩ := by
    unfold pfS
    congr 1
    · rw [rep_tab]
      refine tab_congr fun i hi => ?_
      unfold rowJ
      have hs : sumP (fun q => (ranS q (i / 7 : Nat) []).1) p = 0 := by
        have : ∀ p, sumP (fun q => (ranS q (i / 7 : Nat) []).1) p = 0 := by
          intro p
          induction p with
          | zero => rfl
          | succ p ih => rw [sumP_succ, ih]; rfl
        exact this p
      rw [hs]
      repeat' split
      all_goals rfl
    · rw [rep_tab]; rfl
    · rw [rep_tab]; rfl
  rw [e0]
  have hl : (s0 p n).runs.length = p := by simp [s0]
  by_cases hn : n = 0
  · subst hn
    obtain ⟨A, c, rfl, -, -⟩ := Kd.R_reads hR
    rw [List.length_replicate] at h
    refine ⟨gw, A, c, ⟨by simpa using h.hp, h.cc, h.hw, h.hs, Or.inl rfl, h.hs.ne h.hw (by decide), by simp, by simp [s0], h.hw.lt⟩, h.b0.2.2.2.2.2.1⟩
  · obtain ⟨gk, ck, rfl, hbk, hlt, -⟩ := Kd.R_form hR (by rw [List.length_replicate]; omega)
    have hA := At.of_R2 hR (by rw [List.length_replicate]; omega)
    rw [List.length_replicate] at h
    refine ⟨gk, some ⟨gk, 0, none⟩, ck, ⟨by simpa using h.hp, h.cc, h.hw, h.hs, Or.inr ⟨rfl, hA⟩, fun e => hne (by rw [e]; simp [Value.ownBlock]), by simp, by simp [s0], hlt⟩, by omega⟩

theorem PP.step {w w' : World} {qp q gr cr gb ge gw gs gk : Nat} {kA : Option Addr} {ck : Nat} {P : Pf} (h : PP w qp q gr cr gb ge gw gs gk kA ck P) {s' : St} (hc : CC 115 w' q gr cr gb ge s') (hk : Keeps w w' (chF q gr gb ge)) (hl : s'.runs.length = P.s.runs.length) :
    PP w' qp q gr cr gb ge gw gs gk kA ck ⟨s', P.F, P.si, P.wk⟩ :=
  ⟨hk.blk h.hp (h.cc.far h.qAt (by decide) (by decide) (by decide)), hc, h.hw.block (hk.block gw h.hw.lt (h.cc.far h.hw (by decide) (by decide) (by decide))), h.hs.block (hk.block gs h.hs.lt (h.cc.far h.hs (by decide) (by decide) (by decide))),
    h.hk.imp id (fun x => ⟨x.1, x.2.block (hk.block gk x.2.lt (h.cc.far x.2 (by decide) (by decide) (by decide)))⟩), h.ne, h.fl, h.sl.trans hl.symm, Nat.lt_of_lt_of_le h.kl hk.size⟩
theorem good_ok {p n : Nat} {l : List S47} {k : Nat} (g : Good p n l k) (h1 : 1 ≤ p) (h8 : p ≤ 8) (hn : n ≤ 256) : StOk (stS p n (l.take k)) :=
  ⟨by rw [g.rl]; exact h8, by rw [g.bl]; exact hn, by rw [g.bl, g.el], by rw [g.rl]; omega⟩
theorem event_pf (qp q gr cr gb ge gw gs gk : Nat) (kA : Option Addr) (ck : Nat) {p n : Nat} {l : List S47} (hv : Val p n l) (h1 : 1 ≤ p) (h8 : p ≤ 8) (hn : n ≤ 256) (hl : l.length ≤ 20000) {z : Int} (hz : (stS p n l).time ≤ z) (hz2 : z ≤ tmax) {k : Nat} (hk : k < l.length) (w : World) (h : PP w qp q gr cr gb ge gw gs gk kA ck (pfS p n (l.take k))) :
    Calls Try.prog 54 #[.pointer (some ⟨qp, 0, none⟩), evV (ev l k)] w fun x w' => x = .returned (.tuple #[]) ∧ PP w' qp q gr cr gb ge gw gs gk kA ck ⟨stS p n (l.take k), tab (n * 7) (rowJ p (l.take (k + 1))), tab p (fun q => (ranS q 0 (l.take (k + 1))).2.1), tab n (fun t => (latS p t (l.take (k + 1))).2.2)⟩ ∧ Keeps w w' (pfF gw gs gk) := by
  have g := good p n l hv k (by omega)
  have hf := hv k hk
  have hT : tmax = 1099511627776 := rfl
  have het := ev_time hv hk
  have htk := time_le hv (l.length - k) k (by omega)
  have hft := hf.time
  have hE := ev_pf hk hf g
  rw [← hE]
  have hwl : (pfS p n (l.take k)).wk.length = n := tab_len _ _
  refine event_any qp q gr cr gb ge gw gs gk kA ck _ _ w h hf (good_ok g h1 h8 hn) (by rw [hwl]; exact g.bl) (fun h0 => ?_) (fun h0 => ?_) (fun h0 => ?_) (by omega) (fun i => ?_) (fun h0 => ?_)
  · obtain ⟨hp0, hp1⟩ := hf.proc h0
    rw [g.rl] at hp1
    have := g.ot (ev l k).f2.toNat (by omega)
    rw [show (((ev l k).f2.toNat : Nat) : Int) = (ev l k).f2 by omega] at this
    rw [hwl]; exact this
  · obtain ⟨hp0, hp1⟩ := hf.proc h0
    rw [g.rl] at hp1
    have h2 := (g.fr (ev l k).f2.toNat 0 (by omega)).1
    have e : getI (pfS p n (l.take k)).si (((ev l k).f2.toNat : Nat) : Int) = _ := getD_tabD (by omega)
    rw [show (((ev l k).f2.toNat : Nat) : Int) = (ev l k).f2 by omega] at e h2
    rw [e]; exact h2
  · obtain ⟨hp0, hp1⟩ := hf.proc h0
    rw [g.rl] at hp1
    have h2 := (g.fr (ev l k).f2.toNat 0 (by omega)).2
    have e : getI (pfS p n (l.take k)).si (((ev l k).f2.toNat : Nat) : Int) = _ := getD_tabD (by omega)
    rw [show (((ev l k).f2.toNat : Nat) : Int) = (ev l k).f2 by omega] at e h2
    rw [e]; omega
  · exact tab_le (by omega) (fun j hj => by have := row_le g h8 hl (by omega) j; omega) i
  · rcases hf.thr (by omega) with h3 | h3
    · rw [g.bl] at h3
      have h2 := g.ls (ev l k).f3
      have e : getI (pfS p n (l.take k)).wk (((ev l k).f3.toNat : Nat) : Int) = _ := getD_tabD (by omega)
      rw [show (((ev l k).f3.toNat : Nat) : Int) = (ev l k).f3 by omega] at e
      rw [e]
      omega
    · have e0 : getI (pfS p n (l.take k)).wk (ev l k).f3 = (pfS p n (l.take k)).wk.getD 0 0 := by
        rw [h3.1]; rfl
      rw [e0]
      by_cases hn0 : 0 < n
      · have e : (pfS p n (l.take k)).wk.getD 0 0 = _ := tab_getD hn0
        have h2 := g.ls (0 : Nat)
        rw [e]
        omega
      · have : (pfS p n (l.take k)).wk = [] := List.length_eq_zero_iff.1 (by rw [hwl]; omega)
        rw [this]
        have := g.tm
        right
        exact ⟨Int.le_refl _, by show (0 : Int) ≤ _; omega⟩

theorem stop_pf (qp q gr cr gb ge gw gs gk : Nat) (kA : Option Addr) (ck : Nat) {p n : Nat} {l : List S47} (g : Good p n l l.length) (h8 : p ≤ 8) (hl : l.length ≤ 20000) {z : Int} (hz : (stS p n l).time ≤ z) (hz2 : z ≤ tmax) {j : Nat} (hj : j < p) (w : World) (h : PP w qp q gr cr gb ge gw gs gk kA ck (pfE p n l z j)) :
    Calls Try.prog 55 #[.pointer (some ⟨qp, 0, none⟩), .int .i64 (j : Int), .int .i64 z] w fun x w' => x = .returned (.tuple #[]) ∧ PP w' qp q gr cr gb ge gw gs gk kA ck (pfE p n l z (j + 1)) ∧ Keeps w w' (pfF gw gs gk) := by
  have e : l.take l.length = l := List.take_length
  have hT : tmax = 1099511627776 := rfl
  have hfr := g.fr j 0 hj
  have hot := g.ot j hj
  have h0 := g.tm
  rw [e] at hfr hot h0
  rw [← pfE_step g hj]
  have hwl : (pfE p n l z j).wk.length = n := tab_len _ _
  have hs : getI (pfE p n l z j).si (j : Int) = (ranS j 0 l).2.1 := by
    have : getI (pfE p n l z j).si (j : Int) = _ := getD_tabD hj
    rw [this, if_neg (by omega)]
  exact stop_any qp q gr cr gb ge gw gs gk kA ck _ _ _ w h (by omega) (by show (j : Int) < ((tab p _).length : Int); rw [tab_len]; omega) (by rw [hwl]; exact hot) (by rw [hs]; exact hfr.1) (by rw [hs]; omega) hz2 (fun i => tab_le (by omega) (fun i hi => by have := end_le g h8 hl hz hz2 (j := j) (by omega) i; omega) i)

set_option maxRecDepth 100000 in
set_option maxHeartbeats 6400000 in
theorem profile_any (A : Option Addr) (c : Nat) (l : List S47) (p t z : Int) (w : World) (hC : Kd.C k47 w A l.length l) :
    Calls Try.prog 31 #[.slice A l.length c, .int .i64 p, .int .i64 t, .int .i64 z] w (PrPost 76 l p t z w) := by
  have hln := hC.2.1
  have HC := Lib.hid hC
  have HCK := Lib.hid (check_any A c l p t w hC)
  clear hC
  have hE : prE l p t z = if (chkR l p t).2.2 ≠ 0 then (chkR l p t).2.2 else if (chkR l p t).1 ≠ -1 then 14 else if z < last l ∨ tmax < z then 34 else 0 := rfl
  have hG := fun h1 h2 => chk_good (l := l) (p := p) (t := t) h1 h2
  generalize chkR l p t = r at HCK hE hG
  obtain ⟨a, b, ec⟩ := r
  unfold chV at HCK
  dsimp only at HCK hE hG
  have HG := Lib.hid hG
  clear hG
  by_cases h1 : ec = 0
  · subst h1
    rw [if_neg (by simp)] at hE
    by_cases h2 : a = -1
    · subst h2
      rw [if_neg (by simp)] at hE
      obtain ⟨pn, tn, rfl, rfl, hp1, hp8, ht, hl, hv⟩ := HG.out rfl rfl
      have HV := Lib.hid hv
      have hlt := last_time hv
      have HLT := Lib.hid hlt
      obtain ⟨N, hN⟩ : ∃ N, l.length = N := ⟨_, rfl⟩
      rw [hN] at HCK hl hln ⊢
      have HN := Lib.hid hN
      clear HG hv hlt hN
      go_enter Try.func31, Try.ntmps31
      go_upto_if 33 with (go_at_call 29; refine HCK.out.mono ?_; rintro x w1 ⟨rfl, hb1⟩)
      have HC1 := Lib.hid (Kd.C_below HC.out hb1)
      have HB1 := Lib.hid hb1
      clear hb1
      go_cut [13] (fun v wc => v = .int .i64 (last l) ∧ w1 = wc)
      case first =>
        by_cases h0 : N = 0
        · have HL : Hid (last l = 0) := Lib.hid (by unfold last; rw [if_pos (HN.out.trans h0)])
          subst h0
          go_wp2
          go_meet
          exact ⟨by rw [HL.out], by first | rfl | trivial⟩
        · have m0 : (0 : Int) < (N : Int) := by omega
          obtain ⟨ad, rfl, c0, -, -, -, -, -⟩ := at_T47 HC1.out ((N : Int) - 1) (by omega) (by have := HN.out; omega)
          rw [show ((N : Int) - 1).toNat = N - 1 by omega] at c0
          have HL : Hid (last l = (rd_T47 l ((N : Int) - 1)).f0) := Lib.hid (by
            unfold last rd_T47 ev
            rw [HN.out, if_neg h0, show ((N : Int) - 1).toNat = N - 1 by omega])
          generalize (rd_T47 l ((N : Int) - 1)).f0 = x at c0 HL
          clear h0
          go_wp2
          go_meet
          exact ⟨by rw [HL.out], by first | rfl | trivial⟩
      case rest =>
        obtain ⟨rfl, rfl⟩ := hcut
        have hE2 := hE
        generalize hla : last l = la at hE hE2 HLT
        have HLA := Lib.hid hla
        clear hla hE2
        by_cases hz1 : z < la
        · rw [if_pos (Or.inl hz1)] at hE
          have HE := Lib.hid hE
          have d1 : decide (z < la) = true := by simpa using hz1
          clear hE hz1
          go_wp2
          go_ret2
          exact ⟨none, 0, 0, by rw [HE.out]; rfl, HB1.out, by rw [HE.out]; rfl, fun h => by rw [HE.out] at h; cases h⟩
        by_cases hz2 : tmax < z
        · rw [if_pos (Or.inr hz2)] at hE
          have HE := Lib.hid hE
          have d1 : decide (z < la) = false := by simpa using hz1
          have d2 : decide (1099511627776 < z) = true := by simpa [tmax] using hz2
          clear hE hz1 hz2
          go_wp2
          go_ret2
          exact ⟨none, 0, 0, by rw [HE.out]; rfl, HB1.out, by rw [HE.out]; rfl, fun h => by rw [HE.out] at h; cases h⟩
        rw [if_neg (by omega)] at hE
        have HE := Lib.hid hE
        have d1 : decide (z < la) = false := by simpa using hz1
        have d2 : decide (1099511627776 < z) = false := by simpa [tmax] using hz2
        have HZ1 := Lib.hid (show (stS pn tn l).time ≤ z by rw [HLT.out]; omega)
        have HZ2 := Lib.hid (show z ≤ tmax by omega)
        clear hE hz1 hz2
        have HNC := Lib.hid (fun w => newChecker_any pn tn hp8 ht w)
        have hm1 := make_rows tn ht
        have hm2 := make_since pn hp8
        go_upto_region 11 with (fail)
        go_cut [14] (fun v wc => ∃ qp q gr cr gb ge gw gs, v = .pointer (some ⟨qp, 0, none⟩) ∧ P0 pn tn w1.heap.size wc qp q gr cr gb ge gw gs (.slice none 0 0) ∧ Below w1.heap.size w1 wc)
        case first =>
          go_region_with (go_at_call 46; refine (HNC.out _).mono ?_; rintro x w2 ⟨q, rfl, hCK, hb2⟩)
          all_goals (go_wp2_with fail; go_meet)
          all_goals
            obtain ⟨gr, cr, gb, ge, hcc, b1, b2, b3, b4⟩ := CK.cc hCK (show 0 < (List.replicate pn (-1 : Int)).length by simp; omega)
            have hsz := hb2.size
            refine ⟨_, q, gr, cr, gb, ge, _, _, rfl, ⟨blk_at (by simp), CC.below hcc ?_, ⟨[], ?_⟩, ⟨[], ?_⟩, ?_⟩, ?_⟩
            · repeat (first | exact Below.refl _ _ | refine below_new ?_ _)
            · rw [List.append_nil]
              repeat (first | exact blk_at (by simp) | refine blk_alloc ?_ _ | refine blk_below ?_ hb2 | refine blk_drew ?_)
            · rw [List.append_nil]
              repeat (first | exact blk_at (by simp) | refine blk_alloc ?_ _ | refine blk_below ?_ hb2 | refine blk_drew ?_)
            · simp at b1 b2 b3 b4 hsz ⊢
              omega
            · repeat (first | exact Below.refl _ _ | refine below_new ?_ _ | refine below_drew ?_ | refine below_step ?_ hb2)
        case rest =>
          obtain ⟨qp, q, gr, cr, gb, ge, gw, gs, rfl, h0, hb0⟩ := hcut
          refine abs_k (fun W0 => P0 pn tn w1.heap.size W0 qp q gr cr gb ge gw gs (.slice none 0 0) ∧ Below w1.heap.size w1 W0) ⟨h0, hb0⟩ ?_
          clear h0 hb0 hm1 hm2 HNC d1 d2
          rintro W0 ⟨h0, hb0⟩
          have H0 := Lib.hid h0
          have HB0 := Lib.hid hb0
          clear h0 hb0
          go_wp2
          go_loopw [58] (fun i wr => ∃ k : Nat, k ≤ tn ∧ i = .int .i64 k ∧ Hid (∃ v, P0 pn tn w1.heap.size wr qp q gr cr gb ge gw gs v ∧ Kd.R (Kd.int .i64) 2 wr w1.heap.size (fun _ => True) v (List.replicate k (-1)) ∧ v.ownBlock ≠ some gs) ∧ Hid (Below w1.heap.size w1 wr)) (fun i _ => tn - (intOf i).toNat)
          case atStart => exact ⟨0, Nat.zero_le _, rfl, Lib.hid ⟨_, H0.out, Kd.R_nil _ _ _ _ _, by simp [Value.ownBlock]⟩, HB0⟩
          case round =>
            obtain ⟨k, hk, rfl, HI, HB⟩ := hrel
            obtain ⟨v, hp, hR, hne⟩ := HI.out
            by_cases hlt : k < tn
            · have hi1 : (k : Int) < (tn : Int) := by omega
              have f0 : wr.cell? ⟨qp, 3, none⟩ = some v := blk_cell hp.hp 3
              have z0 : wr.frozen? ⟨qp, 3, none⟩ = false := blk_frozen hp.hp 3
              have HP := Lib.hid hp
              have HR := Lib.hid hR
              have HNE := Lib.hid hne
              clear hp hR hne HI
              go_wp2_with (at_builtin; refine Kd.R_append (Kd.int .i64) (w0 := w1) (W := wr) w1.heap.size rfl (.tmp 64) (.tmp 65) 103 2 _ 8 rfl Try.underlying103 info2 rfl (by decide) (by decide) _ (List.replicate k (-1)) (-1) [.int .i64 (-1)] (fun _ => True) (fun _ => False) rfl rfl rfl (fun _ h => h.elim) (fun _ _ => trivial) HR.out HB.out HB.out.size (by simp; omega) ?_; intro v1 w5 hR1 hB1 hg1 hx1; rw [← List.replicate_succ'] at hR1; have hP1 := HP.out.app HR.out HNE.out hg1; obtain ⟨A1, c1, rfl, -, -⟩ := Kd.R_reads hR1; rw [List.length_replicate] at hR1; have f1 : w5.cell? ⟨qp, 3, none⟩ = some v := blk_cell hP1.hp 3; have z1 : w5.frozen? ⟨qp, 3, none⟩ = false := blk_frozen hP1.hp 3; have HN1 := Lib.hid (show (Value.slice A1 (k + 1) c1).ownBlock ≠ some gs by rcases hx1 with hx | ⟨b, hb, hle⟩; (rw [List.length_replicate] at hx; rw [hx]; exact HNE.out); (rw [List.length_replicate] at hb; rw [hb]; intro e; injection e with e; have := HP.out.hs.lt; omega)); have HP1 := Lib.hid hP1; have HR1 := Lib.hid hR1; have HB1 := Lib.hid hB1; clear hP1 hR1 hB1 hg1 hx1 f0 z0)
              go_roundw
              case rel => exact ⟨k + 1, by omega, by go_num, Lib.hid ⟨_, HP1.out.setV _, Kd.R_set HR1.out HP1.out.hp (by decide) 3 _, HN1.out⟩, Lib.hid (HB1.out.setCell HP.out.b0.1 _)⟩
              case measure => simp [intOf]; omega
            · obtain rfl : k = tn := by omega
              obtain ⟨gk, kA, ck, hPP, hgk⟩ := hp.pp hR hne (Nat.le_refl _)
              have hb0 := hp.b0
              have HBF := Lib.hid (show ∀ i, pfF gw gs gk i → w1.heap.size ≤ i by rintro i (rfl | rfl | rfl) <;> omega)
              have HBC := Lib.hid (show ∀ i, chF q gr gb ge i → w1.heap.size ≤ i by rintro i (rfl | rfl | rfl | rfl) <;> omega)
              have HPP := Lib.hid hPP
              clear hp hR hne HI hPP hgk hb0 H0 HB0
              go_wp2
              go_loopw [72] (fun i wr => ∃ j : Nat, j ≤ N ∧ i = .int .i64 j ∧ Hid (PP wr qp q gr cr gb ge gw gs gk kA ck (pfS pn k (l.take j))) ∧ Hid (Below w1.heap.size w1 wr)) (fun i _ => N - (intOf i).toNat)
              case atStart => exact ⟨0, Nat.zero_le _, rfl, HPP, HB⟩
              case round =>
                obtain ⟨j, hj, rfl, HPj, HBj⟩ := hrel
                by_cases hjN : j < N
                · have hjl : j < l.length := by rw [HN.out]; exact hjN
                  obtain ⟨ad, rfl, lk⟩ := evs_at (Kd.C_below HC1.out HBj.out) j hjl
                  have hi0 : (0 : Int) ≤ (j : Int) := by omega
                  have hi1 : (j : Int) < (N : Int) := by omega
                  have hs := Below.refl wr.heap.size wr
                  have HEV := Lib.hid (fun w h => event_pf qp q gr cr gb ge gw gs gk kA ck HV.out hp1 hp8 ht (by rw [HN.out]; exact hl) HZ1.out HZ2.out hjl w h)
                  have HGD := Lib.hid (good pn k l HV.out j (by omega))
                  have HFI := Lib.hid (HV.out j hjl)
                  have HST := Lib.hid (fun w hC => step_any q gr cr gb ge (stS pn k (l.take j)) (good_ok HGD.out hp1 hp8 ht) (ev l j) HFI.out w hC)
                  have HSN : Hid (stS pn k (l.take (j + 1)) = stp (stS pn k (l.take j)) (ev l j)) := Lib.hid (by rw [take_ev hjl, st_snoc])
                  have HLN := Lib.hid (stp_len (stS pn k (l.take j)) (ev l j)).1
                  generalize ev l j = e at lk HEV HST HSN HLN HFI
                  unfold evV at HEV HST
                  have HPa := Lib.hid (HPj.out.below (below_alloc (Below.refl _ _) (.cells #[.int .i64 e.f0, .int .i64 e.f1, .int .i64 e.f2, .int .i64 e.f3, .int .i64 e.f4, .int .i64 e.f5] 47)))
                  have HEa := Lib.hid (blk_new wr (.cells #[.int .i64 e.f0, .int .i64 e.f1, .int .i64 e.f2, .int .i64 e.f3, .int .i64 e.f4, .int .i64 e.f5] 47))
                  have HBa := Lib.hid (below_new HBj.out (.cells #[.int .i64 e.f0, .int .i64 e.f1, .int .i64 e.f2, .int .i64 e.f3, .int .i64 e.f4, .int .i64 e.f5] 47))
                  have HNW := Lib.hid HPj.out.not_new
                  have HNC := Lib.hid (fun x => absurd (HPj.out.cc.qAt.lt) (by omega : ¬ q < wr.heap.size) : wr.heap.size ≤ q → False)
                  go_wp2_with fail
                  refine (HEV.out _ HPa.out).mono ?_
                  rintro x w5 ⟨rfl, hP5, hK5⟩
                  have HP5 := Lib.hid hP5
                  have HE5 := Lib.hid (hK5.blk HEa.out HNW.out)
                  have HB5 := Lib.hid (below_then' HBa.out hK5 HBF.out)
                  have c0 : w5.cell? ⟨qp, 0, none⟩ = some (.pointer (some ⟨q, 0, none⟩)) := blk_cell hP5.hp 0
                  have l1 : ∀ m, RunCells Try.prog ⟨wr.heap.size, 0, none⟩ 6 (w5.drewN m) = .ok _ (w5.drewN m) := fun m => runCells_blk (P := Try.prog) (n := 6) (w := w5.drewN m) HE5.out rfl
                  clear lk hs hP5 hK5 HPa HEa HBa
                  have l1' : RunCells Try.prog ⟨wr.heap.size, 0, none⟩ 6 w5.drew = .ok _ w5.drew := l1 1
                  clear l1
                  go_wp2
                  refine still_tail 5 (by kernel_rfl) (by kernel_rfl) ?_
                  simp only [List.take_succ_cons, List.take_zero, List.drop_succ_cons, List.drop_zero]
                  repeat still_step
                  refine wpStill_nil ?_
                  go_wp2_with fail
                  refine (HST.out _ (HP5.out.cc.drewN 1)).mono ?_
                  rintro x w6 ⟨rfl, hC6, hK6⟩
                  have HP6 := Lib.hid ((HP5.out.drewN 1).step hC6 hK6 HLN.out)
                  have HB6 := Lib.hid (below_then' (pw_below_drewN HB5.out 1) hK6 HBC.out)
                  rw [← HSN.out] at HP6
                  clear c0 l1' hC6 hK6
                  go_wp2
                  go_roundw
                  case rel => exact ⟨j + 1, by omega, by go_num, HP6, HB6⟩
                  case measure => simp [intOf]; omega
                · obtain rfl : j = N := by omega
                  rw [show l.take j = l by rw [← HN.out]; exact List.take_length, ← pfE_zero pn k l z] at HPj
                  have HGD := Lib.hid (good pn k l HV.out l.length (Nat.le_refl _))
                  go_wp2
                  go_loopw [87] (fun i wr => ∃ m : Nat, m ≤ pn ∧ i = .int .i64 m ∧ Hid (PP wr qp q gr cr gb ge gw gs gk kA ck (pfE pn k l z m)) ∧ Hid (Below w1.heap.size w1 wr)) (fun i _ => pn - (intOf i).toNat)
                  case atStart => exact ⟨0, Nat.zero_le _, rfl, HPj, HBj⟩
                  case round =>
                    obtain ⟨m, hm, rfl, HPm, HBm⟩ := hrel
                    by_cases hmp : m < pn
                    · have hi1 : (m : Int) < (pn : Int) := by omega
                      have hsp := stop_pf qp q gr cr gb ge gw gs gk kA ck HGD.out hp8 (by rw [HN.out]; exact hl) HZ1.out HZ2.out hmp wr HPm.out
                      have HSP := Lib.hid hsp
                      clear hsp
                      go_wp2_with fail
                      refine HSP.out.mono ?_
                      rintro x w5 ⟨rfl, hP5, hK5⟩
                      have HP5 := Lib.hid hP5
                      have HB5 := Lib.hid (below_then' HBm.out hK5 HBF.out)
                      clear hP5 hK5
                      go_wp2
                      go_roundw
                      case rel => exact ⟨m + 1, by omega, by go_num, HP5, HB5⟩
                      case measure => simp [intOf]; omega
                    · obtain rfl : m = pn := by omega
                      have c1 : wr.cell? ⟨qp, 1, none⟩ = some (.slice (some ⟨gw, 0, none⟩) (pfE m k l z m).wk.length (pfE m k l z m).wk.length) := blk_cell HPm.out.hp 1
                      rw [show (pfE m k l z m).wk.length = k from tab_len _ _] at c1
                      go_wp2
                      go_ret2
                      exact ⟨some ⟨gw, 0, none⟩, k, k, by rw [HE.out]; rfl, below_then HB1.out HB1.out.size HBm.out, by rw [HE.out]; rfl, fun _ _ => ⟨gw, rfl, HPm.out.hw⟩⟩
    · rw [if_pos h2] at hE
      have HE := Lib.hid hE
      have m1 : (a == -1) = false := by rw [beq_eq_false_iff_ne]; exact h2
      have m2 : (a != -1) = true := by rw [bne_iff_ne]; exact h2
      clear hE h2 HG
      go_enter Try.func31, Try.ntmps31
      go_wp2_with (go_at_call 29; refine HCK.out.mono ?_; rintro x w1 ⟨rfl, hb1⟩)
      go_ret2
      exact ⟨none, 0, 0, by rw [HE.out]; rfl, hb1, by rw [HE.out]; rfl, fun h => by rw [HE.out] at h; cases h⟩
  · rw [if_pos h1] at hE
    have HE := Lib.hid hE
    have H1 := Lib.hid h1
    have m1 : (ec == 0) = false := by rw [beq_eq_false_iff_ne]; exact h1
    have m2 : (ec != 0) = true := by rw [bne_iff_ne]; exact h1
    clear hE h1 HG
    go_enter Try.func31, Try.ntmps31
    go_wp2_with (go_at_call 29; refine HCK.out.mono ?_; rintro x w1 ⟨rfl, hb1⟩)
    go_ret2
    exact ⟨none, 0, 0, by rw [HE.out]; rfl, hb1, by rw [HE.out, if_neg H1.out], fun h => by rw [HE.out] at h; exact absurd h H1.out⟩
end
end Go.Proofs.Ytepceelkfbjamaa
