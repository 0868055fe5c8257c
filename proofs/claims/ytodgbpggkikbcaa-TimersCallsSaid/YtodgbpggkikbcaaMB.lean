/- Timers: Set, Delete, Create. -/
import Derived.Test.YtodgbpggkikbcaaMA
namespace Go.Proofs.Ytodgbpggkikbcaa
section
set_option linter.unusedVariables false
set_option linter.unusedSimpArgs false
open Go.RowKit Go.Maps Go.Sort Go.Proofs.YtodgbpggkikbcaaW.PrintWords Go.Proofs.YtodgbpggkikbcaaW.PrintLast Go.Proofs.YtodgbpggkikbcaaW.PrintMore FLib
attribute [local go_sem] below_alloc_T below_drew_T below_drewN_T

def specOk (f iv tol : Int) : Bool := okT f && okT iv && okT tol
def setC (L : Slots) (i f iv tol : Int) : Int := if (at' L i).isSome then (if specOk f iv tol then 0 else 34) else 3
def setV (L : Slots) (i f iv tol : Int) : Value := if setC L i f iv tol = 0 then specV (at' L i) else specV none
def setT (t : TT) (f iv tol : Int) : TT := { t with fst := f, ivl := iv, tol := tol }
def setL (L : Slots) (i f iv tol : Int) : Slots :=
  match at' L i with
  | some (b, t) => if specOk f iv tol then L.set i.toNat (some (b, setT t f iv tol)) else L
  | none => L

theorem at_lt {L : Slots} {i : Nat} {x : Nat × TT} (h : at' L (i : Int) = some x) : i < L.length := by
  have := at_nat_some.1 h
  exact (List.getElem?_eq_some_iff.1 this).1
/-- A timer's cells have turned. -/
theorem TS.turn {W W' : World} {p mb : Nat} {clk : Int} {L : Slots} (h : TS W p mb clk L) {i : Nat} {b : Nat} {t u : TT} (ha : L[i]? = some (some (b, t))) (hk : Keeps W W' (fun k => k = b)) (hb : W'.heap[b]? = some (.cells u.cells 69 (0, 0))) :
    TS W' p mb clk (L.set i (some (b, u))) := by
  obtain ⟨D, hD, hL⟩ := h.map
  have hlt := (List.getElem?_eq_some_iff.1 ha).1
  have hap : at' L (i : Int) = some (b, t) := at_nat_some.2 ha
  have hbl := h.blk i b t ha
  have hpb : p ≠ b := fun e => by
    subst e; rw [h.hdr] at hbl
    have := congrArg (fun o => match o with | some (Obj.cells cs _ _) => cs.size | _ => 0) hbl
    simp [TT.cells] at this
  obtain ⟨es, clock, ho, F', hs, e⟩ := hD
  have hmb : mb ≠ b := fun e => by subst e; rw [ho] at hbl; cases hbl
  have hget : ∀ j b' t', (L.set i (some (b, u)))[j]? = some (some (b', t')) → (j = i ∧ b' = b ∧ t' = u) ∨ (j ≠ i ∧ L[j]? = some (some (b', t'))) := fun j b' t' hj => by
    by_cases hji : j = i
    · subst hji
      rw [List.getElem?_set_self hlt] at hj
      simp only [Option.some.injEq, Prod.mk.injEq] at hj
      exact .inl ⟨rfl, hj.1.symm, hj.2.symm⟩
    · rw [List.getElem?_set_ne (Ne.symm hji)] at hj
      exact .inr ⟨hji, hj⟩
  refine ⟨hk.blk h.hdr hpb, ⟨D, ⟨es, clock, hk.blk ho hmb, F', hs, e⟩, ⟨fun k => ?_, fun k => ?_, ?_⟩⟩, fun j b' t' hj => ?_, fun j j' b' t' t'' hj hj' => ?_, by rw [List.length_set]; exact h.len⟩
  · rw [hL.look, at_set hlt]
    split
    · rename_i e; subst e; rw [hap]; rfl
    · rfl
  · rw [hL.has, at_set hlt]
    split
    · rename_i e; subst e; rw [hap]; rfl
    · rfl
  · have := cnt_set hlt (some (b, u))
    rw [hap] at this
    rw [hL.size]
    simpa using this.symm
  · rcases hget j b' t' hj with ⟨rfl, rfl, rfl⟩ | ⟨hne, hj0⟩
    · exact hb
    · exact hk.blk (h.blk j b' t' hj0) (fun e => hne (by subst e; exact h.inj _ _ _ _ _ hj0 ha))
  · rcases hget j b' t' hj with ⟨rfl, e, rfl⟩ | ⟨hne, hj0⟩ <;> rcases hget j' b' t'' hj' with ⟨e', e2, rfl⟩ | ⟨hne', hj0'⟩
    · exact e'.symm
    · subst e; exact h.inj _ _ _ _ _ ha hj0'
    · subst e2; subst e'; exact h.inj _ _ _ _ _ hj0 ha
    · exact h.inj _ _ _ _ _ hj0 hj0'

/-- Of a world, and of a frame, only what is said is carried on. -/
theorem abs_e {Q : Exit → Act → World → Prop} {e : Exit} {a : Act} {w : World} (F : World → Prop) (hF : F w) (h : ∀ w2, F w2 → Q e a w2) : Q e a w := h w hF
theorem blk_set3 {w : World} {g t o : Nat} {cs cs' : Array Value} (h : w.heap[g]? = some (.cells cs t (0, 0))) (a b c : Value) (e : ((cs.setIfInBounds o a).setIfInBounds (o + 1) b).setIfInBounds (o + 2) c = cs') :
    (((w.setCell ⟨g, o, none⟩ a).setCell ⟨g, o + 1, none⟩ b).setCell ⟨g, o + 2, none⟩ c).heap[g]? = some (.cells cs' t (0, 0)) := blk_put (blk_set (blk_set h o a) (o + 1) b) (o + 2) c e
theorem keeps_set3 {a w : World} {F : Nat → Prop} (h : Keeps a w F) {g o : Nat} (x y z : Value) (hg : F g ∨ a.heap.size ≤ g) : Keeps a (((w.setCell ⟨g, o, none⟩ x).setCell ⟨g, o + 1, none⟩ y).setCell ⟨g, o + 2, none⟩ z) F :=
  ((h.set _ _ hg).set _ _ hg).set _ _ hg
theorem set_far3 {w : World} {k g o : Nat} (x y z : Value) (hg : k ≠ g) : (((w.setCell ⟨g, o, none⟩ x).setCell ⟨g, o + 1, none⟩ y).setCell ⟨g, o + 2, none⟩ z).heap[k]? = w.heap[k]? :=
  (Below.heap_setCell _ _ _ _ hg).trans ((Below.heap_setCell _ _ _ _ hg).trans (Below.heap_setCell _ _ _ _ hg))

set_option maxRecDepth 100000 in
set_option maxHeartbeats 1000000 in
theorem set_any (p mb : Nat) (clk : Int) (L : Slots) (i : Int) (hi : (Lit.int .i64 i).wf = true) (f iv tol : Int) (w : World) (h : TS w p mb clk L) :
    Calls Try.prog 19 #[.pointer (some ⟨p, 0, none⟩), .int .i64 i, .agg #[.int .i64 f, .int .i64 iv, .int .i64 tol]] w fun e w' =>
      e = .returned (.tuple #[setV L i f iv tol, .int .i64 (setC L i f iv tol)]) ∧ TS w' p mb clk (setL L i f iv tol) ∧ Keeps w w' (TOwn p mb L) := by
  have HG := Lib.hid (fun w' hb => get_any p mb clk L i hi w' (h.later w' hb))
  have HT := Lib.hid (fun n w => ticks_any n w)
  have HS := Lib.hid h
  have HV := Lib.hid (show setV L i f iv tol = if setC L i f iv tol = 0 then specV (at' L i) else specV none from rfl)
  have HC := Lib.hid (show setC L i f iv tol = if (at' L i).isSome then (if specOk f iv tol then 0 else 34) else 3 from rfl)
  have HL := Lib.hid (show setL L i f iv tol = match at' L i with | some (b, t) => if specOk f iv tol then L.set i.toNat (some (b, setT t f iv tol)) else L | none => L from rfl)
  have HW := Lib.hid hi
  have hs := Below.refl w.heap.size w
  clear h hi
  cases ho : at' L i with
  | none =>
    rw [ho] at HV HC HL
    simp only [Option.isSome_none] at HC
    have HC' := Lib.hid (HC.out.trans (if_neg (by simp)))
    rw [HC'.out] at HV
    have HV' := Lib.hid (HV.out.trans (if_neg (by decide)))
    rw [HC'.out, HV'.out, HL.out]
    clear HV HC HC' HV'
    go_enter Try.func19, Try.ntmps19
    go_wp2_with fail
    refine (HG.out _ (by go_simp)).mono ?_
    rintro e w1 ⟨rfl, hb1⟩
    rw [ho]
    simp only [specV, Option.isSome_none, Bool.false_eq_true, if_false]
    have hz : w1.heap[w.heap.size + 1]? = some (.cells #[.int .i64 0, .int .i64 0, .int .i64 0] 30 (0, 0)) := blk_below (by simpa using blk_new (w.alloc (.cells #[.int .i64 f, .int .i64 iv, .int .i64 tol] 30)) (.cells #[.int .i64 0, .int .i64 0, .int .i64 0] 30)) hb1
    have z0 := later_cell (v := .int .i64 0) (blk_cell hz 0)
    have z1 := later_cell (v := .int .i64 0) (blk_cell hz 1)
    have z2 := later_cell (v := .int .i64 0) (blk_cell hz 2)
    have f0 := later_frz hz 0
    have f1 := later_frz hz 1
    have f2 := later_frz hz 2
    have HB := Lib.hid (below_step (by go_simp) hb1 : Below w.heap.size w w1)
    have hs1 := Below.refl w1.heap.size w1
    have HZ := Lib.hid hz
    clear hb1 hs hz
    go_wp2
    refine abs_e (fun W => W.heap[w.heap.size + 1]? = some (.cells #[.int .i64 0, .int .i64 0, .int .i64 0] 30 (0, 0)) ∧ Keeps w W (fun _ => False))
      ⟨blk_set3 (blk_alloc HZ.out _) _ _ _ rfl, keeps_set3 ((Keeps.of_below HB.out _).alloc _) _ _ _ (.inr (by simp))⟩ ?_
    rintro W ⟨hW, hk⟩
    clear z0 z1 z2 f0 f1 f2 hs1
    have z0 := blk_cell hW 0
    have z1 := blk_cell hW 1
    have z2 := blk_cell hW 2
    simp only [List.getElem?_toArray, List.getElem?_cons_zero, List.getElem?_cons_succ] at z0 z1 z2
    refine bodyPost_ret (v := .tuple #[specV none, .int .i64 3]) (by simp [results, Try.results19, go_sem, specV, z0, z1, z2]) rfl ?_
    exact ⟨rfl, HS.out.keep hk (fun _ hf => hf.elim), hk.mono (fun _ hf => hf.elim)⟩
  | some x =>
    obtain ⟨b, t⟩ := x
    rw [ho] at HV HC HL
    simp only [Option.isSome_some, if_true] at HC HL
    cases h1 : okT f <;> cases h2 : okT iv <;> cases h3 : okT tol
    case true.true.true =>
      have HC' := Lib.hid (HC.out.trans (if_pos (by simp [specOk, h1, h2, h3])))
      rw [HC'.out] at HV
      have HV' := Lib.hid (HV.out.trans (if_pos rfl))
      have HL' := Lib.hid (HL.out.trans (if_pos (by simp [specOk, h1, h2, h3])))
      rw [HC'.out, HV'.out, HL'.out]
      clear HV HC HC' HV' HL HL'
      go_enter Try.func19, Try.ntmps19
      go_wp2_with fail
      refine (HG.out _ (by go_simp)).mono ?_
      rintro e w1 ⟨rfl, hb1⟩
      rw [ho]
      simp only [specV, Option.isSome_some, if_true]
      have hq : w1.heap[w.heap.size]? = some (.cells #[.int .i64 f, .int .i64 iv, .int .i64 tol] 30 (0, 0)) := blk_below (blk_alloc (blk_new w _) _) hb1
      have hz : w1.heap[w.heap.size + 1]? = some (.cells #[.int .i64 0, .int .i64 0, .int .i64 0] 30 (0, 0)) := blk_below (by simpa using blk_new (w.alloc (.cells #[.int .i64 f, .int .i64 iv, .int .i64 tol] 30)) (.cells #[.int .i64 0, .int .i64 0, .int .i64 0] 30)) hb1
      have hsz := hb1.size
      simp only [World.size_alloc] at hsz
      have HB := Lib.hid (below_step (by go_simp) hb1 : Below w.heap.size w w1)
      have HB1 := Lib.hid (HS.out.below HB.out)
      have q0 := later_cell (v := .int .i64 f) (blk_cell hq 0)
      have q1 := later_cell (v := .int .i64 iv) (blk_cell hq 1)
      have q2 := later_cell (v := .int .i64 tol) (blk_cell hq 2)
      have hbt := HB1.out.timer ho
      have g6 := later_cell (v := .int .i64 t.fst) (blk_cell hbt 6)
      have g7 := later_cell (v := .int .i64 t.ivl) (blk_cell hbt 7)
      have g8 := later_cell (v := .int .i64 t.tol) (blk_cell hbt 8)
      have k6 := later_frz hbt 6
      have k7 := later_frz hbt 7
      have k8 := later_frz hbt 8
      have c0 := later_cell (v := .map (some mb)) (blk_cell HB1.out.hdr 0)
      have hl := fun w' hb => (HB1.out.later w' hb).run_look HW.out
      rw [ho] at hl
      simp only [ptrV] at hl
      have hs1 := Below.refl w1.heap.size w1
      have HZ := Lib.hid hz
      have HQ := Lib.hid hq
      have HSZ := Lib.hid hsz
      have HBT := Lib.hid hbt
      clear hb1 hs hq hz hsz hbt
      repeat
        go_wp2_with fail
        refine (HT.out _ _).mono ?_
        rintro e w2 ⟨rfl, rfl⟩
      go_wp2
      refine still_tail 9 (by kernel_rfl) (by kernel_rfl) ?_
      simp only [List.take_succ_cons, List.take_zero, List.drop_succ_cons, List.drop_zero]
      repeat still_step
      refine wpStill_nil ?_
      have hlt := blk_lt HBT.out
      have n1 : b ≠ w1.heap.size := by omega
      have n1' : w1.heap.size ≠ b := by omega
      have n2 : w.heap.size + 1 ≠ b := fun e => by
        have := HBT.out
        rw [← e, HZ.out] at this
        have := congrArg (fun o => match o with | some (Obj.cells cs _ _) => cs.size | _ => 0) this
        simp [TT.cells] at this
      have n2' := Ne.symm n2
      have hsz := HSZ.out
      have n3 : w.heap.size + 1 ≠ w1.heap.size := by omega
      have n3' := Ne.symm n3
      have HN := Lib.hid (And.intro n1 (And.intro n2 n3))
      have z0 := later_cell (v := .int .i64 0) (blk_cell HZ.out 0)
      have z1 := later_cell (v := .int .i64 0) (blk_cell HZ.out 1)
      have z2 := later_cell (v := .int .i64 0) (blk_cell HZ.out 2)
      have f0 := later_frz HZ.out 0
      have f1 := later_frz HZ.out 1
      have f2 := later_frz HZ.out 2
      clear hlt hsz q0 q1 q2 hl c0
      go_wp2
      refine abs_e (fun W => W.heap[w.heap.size + 1]? = some (.cells #[.int .i64 t.fst, .int .i64 t.ivl, .int .i64 t.tol] 30 (0, 0)) ∧ W.heap[b]? = some (.cells (setT t f iv tol).cells 69 (0, 0)) ∧ Keeps w W (fun k => k = b))
        ⟨blk_drew (blk_set3 (o := 0) ((set_far3 _ _ _ HN.out.2.1).trans (blk_alloc HZ.out _)) _ _ _ rfl), blk_drew ((set_far3 (o := 0) _ _ _ (Ne.symm HN.out.2.1)).trans (blk_set3 (o := 6) (blk_alloc HBT.out _) _ _ _ rfl)),
          (keeps_set3 (F := fun k => k = b) (o := 0) (keeps_set3 (F := fun k => k = b) (o := 6) ((Keeps.of_below HB.out _).alloc _) _ _ _ (.inl rfl)) _ _ _ (.inr (Nat.le_succ _))).drew⟩ ?_
      rintro W ⟨hW, hWb, hk⟩
      clear z0 z1 z2 f0 f1 f2 hs1 g6 g7 g8 k6 k7 k8 n1 n1' n2 n2' n3 n3'
      have z0 := blk_cell hW 0
      have z1 := blk_cell hW 1
      have z2 := blk_cell hW 2
      simp only [List.getElem?_toArray, List.getElem?_cons_zero, List.getElem?_cons_succ] at z0 z1 z2
      refine bodyPost_ret (v := .tuple #[specV (some (b, t)), .int .i64 0]) (by simp [results, Try.results19, go_sem, specV, z0, z1, z2]) rfl ?_
      obtain ⟨n, rfl, hi⟩ := at_some ho
      exact ⟨rfl, HS.out.turn hi hk hWb, hk.mono (fun k hk => .inr (.inr ⟨n, t, by rw [hk]; exact hi⟩))⟩
    all_goals
      have HC' := Lib.hid (HC.out.trans (if_neg (by simp [specOk, h1, h2, h3])))
      rw [HC'.out] at HV
      have HV' := Lib.hid (HV.out.trans (if_neg (by decide)))
      have HL' := Lib.hid (HL.out.trans (if_neg (by simp [specOk, h1, h2, h3])))
      rw [HC'.out, HV'.out, HL'.out]
      clear HV HC HC' HV' HL HL'
      go_enter Try.func19, Try.ntmps19
      go_wp2_with fail
      refine (HG.out _ (by go_simp)).mono ?_
      rintro e w1 ⟨rfl, hb1⟩
      rw [ho]
      simp only [specV, Option.isSome_some, if_true]
      have hq : w1.heap[w.heap.size]? = some (.cells #[.int .i64 f, .int .i64 iv, .int .i64 tol] 30 (0, 0)) := blk_below (blk_alloc (blk_new w _) _) hb1
      have hz : w1.heap[w.heap.size + 1]? = some (.cells #[.int .i64 0, .int .i64 0, .int .i64 0] 30 (0, 0)) := blk_below (by simpa using blk_new (w.alloc (.cells #[.int .i64 f, .int .i64 iv, .int .i64 tol] 30)) (.cells #[.int .i64 0, .int .i64 0, .int .i64 0] 30)) hb1
      have q0 := later_cell (v := .int .i64 f) (blk_cell hq 0)
      have q1 := later_cell (v := .int .i64 iv) (blk_cell hq 1)
      have q2 := later_cell (v := .int .i64 tol) (blk_cell hq 2)
      have z0 := later_cell (v := .int .i64 0) (blk_cell hz 0)
      have z1 := later_cell (v := .int .i64 0) (blk_cell hz 1)
      have z2 := later_cell (v := .int .i64 0) (blk_cell hz 2)
      have f0 := later_frz hz 0
      have f1 := later_frz hz 1
      have f2 := later_frz hz 2
      have HB := Lib.hid (below_step (by go_simp) hb1 : Below w.heap.size w w1)
      have hs1 := Below.refl w1.heap.size w1
      have HZ := Lib.hid hz
      clear hb1 hs hq hz
      repeat
        go_wp2_with fail
        refine (HT.out _ _).mono ?_
        rintro e w2 ⟨rfl, rfl⟩
      go_wp2
      refine abs_e (fun W => W.heap[w.heap.size + 1]? = some (.cells #[.int .i64 0, .int .i64 0, .int .i64 0] 30 (0, 0)) ∧ Keeps w W (fun _ => False))
        ⟨blk_set3 (blk_alloc HZ.out _) _ _ _ rfl, keeps_set3 ((Keeps.of_below HB.out _).alloc _) _ _ _ (.inr (by simp))⟩ ?_
      rintro W ⟨hW, hk⟩
      clear z0 z1 z2 f0 f1 f2 hs1 q0 q1 q2
      have z0 := blk_cell hW 0
      have z1 := blk_cell hW 1
      have z2 := blk_cell hW 2
      simp only [List.getElem?_toArray, List.getElem?_cons_zero, List.getElem?_cons_succ] at z0 z1 z2
      refine bodyPost_ret (v := .tuple #[specV none, .int .i64 34]) (by simp [results, Try.results19, go_sem, specV, z0, z1, z2]) rfl ?_
      exact ⟨rfl, HS.out.keep hk (fun _ hf => hf.elim), hk.mono (fun _ hf => hf.elim)⟩
end
section
set_option linter.unusedVariables false
set_option linter.unusedSimpArgs false
open Go.RowKit Go.Maps Go.Sort Go.Proofs.YtodgbpggkikbcaaW.PrintWords Go.Proofs.YtodgbpggkikbcaaW.PrintLast Go.Proofs.YtodgbpggkikbcaaW.PrintMore FLib

/-- The least free number. -/
def free (L : Slots) : Nat := L.findIdx (·.isNone)
theorem free_le (L : Slots) : free L ≤ L.length := List.findIdx_le_length
theorem free_none (L : Slots) : at' L (free L) = none := by
  rw [at_nat]
  by_cases h : free L < L.length
  · have h2 : (L[free L]).isNone = true := List.findIdx_getElem (w := h)
    rw [List.getElem?_eq_getElem h]
    generalize L[free L] = y at h2
    cases y with
    | none => rfl
    | some y => cases h2
  · rw [List.getElem?_eq_none (by omega)]; rfl
theorem free_some {L : Slots} {k : Nat} (h : k < free L) : ∃ x, at' L (k : Int) = some x := by
  have hl := free_le L
  have h2 : (L[k]'(by omega)).isNone = false := by
    have := List.not_of_lt_findIdx (p := (·.isNone)) (xs := L) h
    simpa using this
  rw [at_nat, List.getElem?_eq_getElem (by omega)]
  generalize L[k]'(by omega) = y at h2
  cases y with
  | none => cases h2
  | some y => exact ⟨y, rfl⟩
theorem cnt_full {L : Slots} (h : ∀ k, k < L.length → ∃ x, at' L (k : Int) = some x) : cnt L = L.length := by
  unfold cnt
  rw [List.countP_eq_length]
  intro a ha
  obtain ⟨k, hk, rfl⟩ := List.getElem_of_mem ha
  obtain ⟨x, hx⟩ := h k hk
  rw [at_nat, List.getElem?_eq_getElem hk] at hx
  generalize L[k] = y at hx
  cases y with
  | none => cases hx
  | some y => rfl
/-- Where there is room the least free number is below the bound. -/
theorem free_lt {L : Slots} {m : Nat} (hl : L.length ≤ m) (h : cnt L < m) : free L < m := by
  rcases Nat.lt_or_ge (free L) m with h' | h'
  · exact h'
  · have h1 := free_le L
    have h2 : cnt L = L.length := cnt_full fun k hk => free_some (by omega)
    omega

theorem put_len (L : Slots) (i : Nat) (x : Nat × TT) : (putAt L i x).length = if i < L.length then L.length else L.length + 1 := by
  unfold putAt
  split
  · rw [List.length_set]
  · simp
theorem at_put {L : Slots} {i : Nat} (hi : i ≤ L.length) (x : Nat × TT) (k : Int) : at' (putAt L i x) k = if k = i then some x else at' L k := by
  unfold putAt
  split
  · rename_i h; exact at_set h _ _
  · have e : i = L.length := by omega
    subst e
    unfold at'
    by_cases h0 : 0 ≤ k
    · rw [if_pos h0, if_pos h0]
      by_cases h : k = (L.length : Int)
      · subst h; simp
      · rw [if_neg h]
        by_cases h2 : k < (L.length : Int)
        · rw [List.getElem?_append_left (by omega)]
        · rw [List.getElem?_eq_none (by simp; omega), List.getElem?_eq_none (by omega)]
    · rw [if_neg h0, if_neg h0, if_neg (by omega)]
theorem cnt_put {L : Slots} {i : Nat} (hi : i ≤ L.length) (hn : at' L (i : Int) = none) (x : Nat × TT) : cnt (putAt L i x) = cnt L + 1 := by
  unfold putAt
  split
  · rename_i h
    have := cnt_set h (some x)
    rw [hn] at this
    simpa using this
  · simp [cnt, List.countP_append]
theorem put_get {L : Slots} {i j : Nat} (hi : i ≤ L.length) {x y : Nat × TT} (h : (putAt L i x)[j]? = some (some y)) : (j = i ∧ y = x) ∨ (j ≠ i ∧ L[j]? = some (some y)) := by
  have h1 := at_nat_some.2 h
  rw [at_put hi] at h1
  by_cases e : j = i
  · subst e; rw [if_pos rfl] at h1; exact .inl ⟨rfl, (Option.some.inj h1).symm⟩
  · rw [if_neg (by omega)] at h1; exact .inr ⟨e, at_nat_some.1 h1⟩

theorem wfI {k : Nat} (h : k ≤ 1000) : (Lit.int .i64 (k : Int)).wf = true := by
  exact WalkArith.wf_i64 (by omega)
theorem DL.put {D : DataW Unit} {L : Slots} (h : DL D L) (ht : Tidy D) {i : Nat} (hi : i ≤ L.length) (hn : at' L (i : Int) = none) (hw : (Lit.int .i64 (i : Int)).wf = true) (x : Nat × TT) : DL (D.put (.int .i64 i) (ptrD (some x))) (putAt L i x) := by
  refine ⟨fun k => ?_, fun k => ?_, ?_⟩
  · rw [at_put hi]
    by_cases e : k = i
    · subst e; rw [if_pos rfl]; exact atKey_put_same ht.isMap (key_lit hw) _ _
    · rw [if_neg e, atKey_put_other (key_ne e), h.look]
  · rw [at_put hi]
    by_cases e : k = i
    · subst e; rw [if_pos rfl]; exact has_put_same ht.isMap (key_lit hw) _
    · rw [if_neg e, has_put_other (key_ne e), h.has]
  · rw [size_put ht, h.has, hn, cnt_put hi hn, h.size]
    simp
theorem DL.del {D : DataW Unit} {L : Slots} (h : DL D L) (ht : Tidy D) {i : Nat} {x : Nat × TT} (ha : at' L (i : Int) = some x) : DL (D.del (.int .i64 i)) (L.set i none) := by
  have hi := at_lt ha
  refine ⟨fun k => ?_, fun k => ?_, ?_⟩
  · rw [at_set hi]
    by_cases e : k = i
    · subst e; rw [if_pos rfl]; exact atKey_del_same _
    · rw [if_neg e, atKey_del_other (key_ne e), h.look]
  · rw [at_set hi]
    by_cases e : k = i
    · subst e; rw [if_pos rfl]; exact has_del_same
    · rw [if_neg e, has_del_other (key_ne e), h.has]
  · have h1 := size_del (k := .int .i64 i) ht
    have h2 := cnt_set hi none
    rw [h.has, ha, h.size] at h1
    rw [ha] at h2
    simp at h1 h2
    omega
/-- A timer is gone from the map. -/
theorem TS.drop {W W' : World} {p mb : Nat} {clk : Int} {L : Slots} (h : TS W p mb clk L) {i : Nat} {x : Nat × TT} (ha : at' L (i : Int) = some x) {D : DataW Unit} (hD : W.ownsMap Try.prog 3 Rd mb 1000 D) (hL : DL D L)
    (hD' : W'.ownsMap Try.prog 3 Rd mb 1000 (D.del (.int .i64 i))) (hg : W.grownBy W' (some mb)) : TS W' p mb clk (L.set i none) := by
  have hi := at_lt ha
  have htd := World.ownsMap.tidy hD keyI
  obtain ⟨es, clock, ho, -⟩ := hD
  have hne : ∀ {b : Nat} {cs : Array Value} {ty : Nat}, W.heap[b]? = some (.cells cs ty (0, 0)) → some b ≠ some mb := fun hb e => by
    injection e with e; subst e; rw [ho] at hb; cases hb
  have hget : ∀ {j b t}, (L.set i none)[j]? = some (some (b, t)) → L[j]? = some (some (b, t)) := fun {j b t} hj => by
    by_cases e : j = i
    · subst e; rw [List.getElem?_set_self hi] at hj; cases hj
    · rwa [List.getElem?_set_ne (Ne.symm e)] at hj
  refine ⟨blk_grown h.hdr hg (hne h.hdr), ⟨_, hD', hL.del htd ha⟩, fun j b t hj => ?_, fun j j' b t t' hj hj' => h.inj _ _ _ _ _ (hget hj) (hget hj'), by rw [List.length_set]; exact h.len⟩
  exact blk_grown (h.blk _ _ _ (hget hj)) hg (hne (h.blk _ _ _ (hget hj)))
/-- A timer is in the map. -/
theorem TS.put {W W' : World} {p mb : Nat} {clk : Int} {L : Slots} (h : TS W p mb clk L) {i : Nat} (hi : i ≤ L.length) (hm : i < 1000) (hn : at' L (i : Int) = none) {g : Nat} {t : TT} (hg : W.heap[g]? = some (.cells t.cells 69 (0, 0)))
    (hf : ∀ (j : Nat) (u : TT), L[j]? ≠ some (some (g, u))) {D : DataW Unit} {n : Nat} (hD : W.ownsMap Try.prog 3 Rd mb 1000 D) (hL : DL D L) (hD' : W'.ownsMap Try.prog 3 Rd mb n (D.put (.int .i64 i) (ptrD (some (g, t))))) (hgr : W.grownBy W' (some mb)) : TS W' p mb clk (putAt L i (g, t)) := by
  have htd := World.ownsMap.tidy hD keyI
  obtain ⟨es, clock, ho, -⟩ := hD
  have hne : ∀ {b : Nat} {cs : Array Value} {ty : Nat}, W.heap[b]? = some (.cells cs ty (0, 0)) → some b ≠ some mb := fun hb e => by
    injection e with e; subst e; rw [ho] at hb; cases hb
  have hL' := hL.put htd hi hn (wfI (by omega)) (g, t)
  have hlen : (putAt L i (g, t)).length ≤ 1000 := by
    rw [put_len]; have := h.len; split <;> omega
  refine ⟨blk_grown h.hdr hgr (hne h.hdr), ⟨_, owns_tight hD' (by rw [hL'.size]; exact Nat.le_trans (cnt_le _) hlen), hL'⟩, fun j b u hj => ?_, fun j j' b u u' hj hj' => ?_, hlen⟩
  · rcases put_get hi hj with ⟨rfl, e⟩ | ⟨-, hj0⟩
    · cases e; exact blk_grown hg hgr (hne hg)
    · exact blk_grown (h.blk _ _ _ hj0) hgr (hne (h.blk _ _ _ hj0))
  · rcases put_get hi hj with ⟨e1, e⟩ | ⟨-, hj0⟩ <;> rcases put_get hi hj' with ⟨e2, e'⟩ | ⟨-, hj0'⟩
    · omega
    · cases e; exact absurd hj0' (hf _ _)
    · cases e'; exact absurd hj0 (hf _ _)
    · exact h.inj _ _ _ _ _ hj0 hj0'
end
section
set_option linter.unusedVariables false
set_option linter.unusedSimpArgs false
open Go.RowKit Go.Maps Go.Sort Go.Proofs.YtodgbpggkikbcaaW.PrintWords Go.Proofs.YtodgbpggkikbcaaW.PrintLast Go.Proofs.YtodgbpggkikbcaaW.PrintMore FLib
attribute [local go_sem] below_alloc_T below_drew_T below_drewN_T

def delL (L : Slots) (i : Int) : Slots := match at' L i with | some _ => L.set i.toNat none | none => L
set_option maxRecDepth 100000 in
set_option maxHeartbeats 1000000 in
theorem del_any (p mb : Nat) (clk : Int) (L : Slots) (i : Int) (hi : (Lit.int .i64 i).wf = true) (w : World) (h : TS w p mb clk L) :
    Calls Try.prog 17 #[.pointer (some ⟨p, 0, none⟩), .int .i64 i] w fun e w' =>
      e = .returned (.int .i64 (if (at' L i).isSome then 0 else 3)) ∧ TS w' p mb clk (delL L i) ∧ Keeps w w' (TOwn p mb L) := by
  have HG := Lib.hid (get_any p mb clk L i hi w h)
  have HS := Lib.hid h
  have HW := Lib.hid hi
  have HL := Lib.hid (show delL L i = match at' L i with | some _ => L.set i.toNat none | none => L from rfl)
  clear h hi
  cases ho : at' L i with
  | none =>
    rw [ho] at HL
    rw [HL.out]
    go_enter Try.func17, Try.ntmps17
    go_wp2_with fail
    refine (HG.out).mono ?_
    rintro e w1 ⟨rfl, hb1⟩
    rw [ho]
    simp only [specV, Option.isSome_none, Bool.false_eq_true, if_false]
    go_wp2
    go_ret
    exact ⟨rfl, HS.out.below (below_alloc (hb1) _), (Keeps.of_below (below_alloc hb1 _) _)⟩
  | some x =>
    obtain ⟨b, t⟩ := x
    rw [ho] at HL
    rw [HL.out]
    go_enter Try.func17, Try.ntmps17
    go_wp2_with fail
    refine (HG.out).mono ?_
    rintro e w1 ⟨rfl, hb1⟩
    rw [ho]
    simp only [specV, Option.isSome_some, if_true]
    have HS1 := Lib.hid (HS.out.below hb1)
    have hs1 := Below.refl w1.heap.size w1
    have HB := Lib.hid hb1
    clear hb1
    obtain ⟨w2, hw2⟩ : ∃ w2, w1.alloc (.cells #[.int .i64 t.fst, .int .i64 t.ivl, .int .i64 t.tol] 30) = w2 := ⟨_, rfl⟩
    have HS2 := Lib.hid (show TS w2 p mb clk L by rw [← hw2]; exact HS1.out.below (below_alloc (Below.refl _ _) _))
    obtain ⟨D, hD, hL⟩ := HS2.out.map
    have c0 : w2.cell? ⟨p, 0, none⟩ = some (.map (some mb)) := blk_cell HS2.out.hdr 0
    clear hs1
    go_wp2_with (first
      | (at_delete; refine wpList_delete_own _ rfl _ _ 71 3 rfl 67 keyI Try.underlying71 Rd mb 1000 D rfl (by first | exact hD | (rw [hw2]; exact hD)) _ _ rfl (keyI_of HW.out) ?_; intro w3 hown3 hturn3)
      | go_in)
    go_ret
    obtain ⟨n, rfl, hi⟩ := at_some ho
    try rw [hw2] at hturn3
    have hg := hturn3.grown
    refine ⟨rfl, HS2.out.drop ho hD hL hown3 hg, ((Keeps.of_below HB.out _).trans (G := TOwn p mb L) (Keeps.of_below (by rw [← hw2]; exact below_alloc (Below.refl _ _) _) _) (fun _ h => .inl h)).grown hg (fun k e => by cases e; exact .inl (.inr (.inl rfl)))⟩
end
section
set_option linter.unusedVariables false
set_option linter.unusedSimpArgs false
open Go.RowKit Go.Maps Go.Sort Go.Proofs.YtodgbpggkikbcaaW.PrintWords Go.Proofs.YtodgbpggkikbcaaW.PrintLast Go.Proofs.YtodgbpggkikbcaaW.PrintMore FLib
attribute [local go_sem] below_alloc_T below_drew_T below_drewN_T

def creC (L : Slots) (own e0 e1 e2 e3 : Int) : Int :=
  if decide (own < 0) || decide (64 ≤ own) then 34 else if chkE e0 e1 e2 e3 = 0 then (if 1000 ≤ cnt L then 18 else 0) else chkE e0 e1 e2 e3
def creI (L : Slots) (own e0 e1 e2 e3 : Int) : Int := if creC L own e0 e1 e2 e3 = 0 then (free L : Int) else 0
def newT (own e0 e1 e2 e3 e4 : Int) : TT := ⟨own, e0, e1, e2, e3, e4, 0, 0, 0⟩
structure CrePost (p mb : Nat) (clk : Int) (L : Slots) (own e0 e1 e2 e3 e4 : Int) (w w' : World) : Prop where
  keep : Keeps w w' (TOwn p mb L)
  no : creC L own e0 e1 e2 e3 ≠ 0 → TS w' p mb clk L
  yes : creC L own e0 e1 e2 e3 = 0 → ∃ g, w.heap.size ≤ g ∧ TS w' p mb clk (putAt L (free L) (g, newT own e0 e1 e2 e3 e4))

set_option maxRecDepth 100000 in
set_option maxHeartbeats 1000000 in
theorem cre_any (p mb : Nat) (clk : Int) (L : Slots) (own e0 e1 e2 e3 e4 : Int) (w : World) (h : TS w p mb clk L) :
    Calls Try.prog 15 #[.pointer (some ⟨p, 0, none⟩), .int .i64 own, evV e0 e1 e2 e3 e4] w fun e w' =>
      e = .returned (.tuple #[.int .i64 (creI L own e0 e1 e2 e3), .int .i64 (creC L own e0 e1 e2 e3)]) ∧ CrePost p mb clk L own e0 e1 e2 e3 e4 w w' := by
  have HP := Lib.hid (fun w1 e => (⟨e, fun h => h⟩ : True ∧ (CrePost p mb clk L own e0 e1 e2 e3 e4 w w1 → CrePost p mb clk L own e0 e1 e2 e3 e4 w w1)))
  have HK := Lib.hid (fun w => chk_any e0 e1 e2 e3 e4 w)
  have HS := Lib.hid h
  have HI := Lib.hid (show creI L own e0 e1 e2 e3 = if creC L own e0 e1 e2 e3 = 0 then (free L : Int) else 0 from rfl)
  have HC := Lib.hid (show creC L own e0 e1 e2 e3 = if decide (own < 0) || decide (64 ≤ own) then 34 else if chkE e0 e1 e2 e3 = 0 then (if 1000 ≤ cnt L then 18 else 0) else chkE e0 e1 e2 e3 from rfl)
  have hno : ∀ w', Below w.heap.size w w' → creC L own e0 e1 e2 e3 ≠ 0 → CrePost p mb clk L own e0 e1 e2 e3 e4 w w' := fun w' hb hc => ⟨Keeps.of_below hb _, fun _ => h.below hb, fun e => absurd e hc⟩
  have HN := Lib.hid hno
  clear h hno HP
  unfold evV at HK ⊢
  cases d1 : decide (own < 0) <;> cases d2 : decide (64 ≤ own)
  case false.false =>
    rw [d1, d2] at HC
    simp only [Bool.or_self, Bool.false_eq_true, if_false] at HC
    by_cases hc : chkE e0 e1 e2 e3 = 0
    · rw [if_pos hc] at HC
      by_cases hf : 1000 ≤ cnt L
      · rw [if_pos hf] at HC
        have d3 : decide ((1000 : Int) ≤ (cnt L : Int)) = true := by simpa using (by omega : (1000 : Int) ≤ (cnt L : Int))
        have HI' := Lib.hid (HI.out.trans (if_neg (by rw [HC.out]; decide)))
        rw [HI'.out]
        go_enter Try.func15, Try.ntmps15
        go_wp2_with fail
        refine (HK.out _).mono ?_
        rintro e w1 ⟨rfl, hb1⟩
        rw [hc]
        have HB := Lib.hid (below_step (below_alloc (Below.refl _ _) _) hb1)
        have HS1 := Lib.hid (HS.out.below HB.out)
        have c0 : w1.cell? ⟨p, 0, none⟩ = some (.map (some mb)) := blk_cell HS1.out.hdr 0
        have hl := HS1.out.run_len
        clear hb1 hf hc
        go_wp2
        go_ret2
        exact ⟨by rw [HC.out]; rfl, HN.out _ HB.out (by rw [HC.out]; decide)⟩
      · rw [if_neg hf] at HC
        have hlt := free_lt HS.out.len (show cnt L < 1000 by omega)
        have d3 : decide ((1000 : Int) ≤ (cnt L : Int)) = false := by simpa using (by omega : (cnt L : Int) < (1000 : Int))
        have HI' := Lib.hid (HI.out.trans (if_pos HC.out))
        rw [HI'.out, HC.out]
        go_enter Try.func15, Try.ntmps15
        go_wp2_with fail
        refine (HK.out _).mono ?_
        rintro e w1 ⟨rfl, hb1⟩
        rw [hc]
        have HB := Lib.hid (below_step (below_alloc (Below.refl _ _) _) hb1)
        have HE := Lib.hid (blk_below (blk_new w _) hb1 : w1.heap[w.heap.size]? = some (.cells #[.int .i64 e0, .int .i64 e1, .int .i64 e2, .int .i64 e3, .int .i64 e4] 38 (0, 0)))
        have HS1 := Lib.hid (HS.out.below HB.out)
        have c0 : w1.cell? ⟨p, 0, none⟩ = some (.map (some mb)) := blk_cell HS1.out.hdr 0
        have hl := HS1.out.run_len
        clear hb1 hf hc
        go_wp2
        go_loopw [9] (fun i wr => ∃ k : Nat, k ≤ free L ∧ i = .int .i64 k ∧ wr = w1) (fun i _ => free L - (RowKit.intOf i).toNat)
        case atStart => exact ⟨0, Nat.zero_le _, rfl, rfl⟩
        case round =>
          obtain ⟨k, hk, rfl, rfl⟩ := hrel
          have hlk := HS1.out.run_look (k := (k : Int)) (wfI (by omega))
          by_cases hkf : k < free L
          · obtain ⟨x, hx⟩ := free_some hkf
            rw [hx] at hlk
            obtain ⟨xb, xt⟩ := x
            simp only [ptrV] at hlk
            go_wp2
            go_roundw
            case rel => exact ⟨k + 1, by omega, by go_num, trivial⟩
            case measure => simp [RowKit.intOf]; omega
          · obtain rfl : k = free L := by omega
            rw [free_none] at hlk
            simp only [ptrV] at hlk
            have HLT := Lib.hid hlt
            clear hk hkf hlt
            go_wp2
            obtain ⟨D, hD, hL⟩ := HS1.out.map
            have HDL := Lib.hid hL
            have HG := Lib.hid (blk_drew (blk_new wr (.cells (newT own e0 e1 e2 e3 e4).cells 69)))
            have HOW := Lib.hid (show (wr.alloc (.cells (newT own e0 e1 e2 e3 e4).cells 69)).drew.ownsMap Try.prog 3 Rd mb 1000 D from (hD.alloc _).drew)
            obtain ⟨w2, hrun, hown2, hg2⟩ := HOW.out.update (val := .pointer (some ⟨wr.heap.size, 0, none⟩)) keyI Try.underlying71 (by unfold maxLen; omega) (keyI_of (k := (free L : Int)) (wfI (by have := HLT.out; omega))) (Rd_ptr (some (wr.heap.size, newT own e0 e1 e2 e3 e4)))
            have HX := Lib.hid (And.intro hown2 hg2)
            unfold newT TT.cells at hrun
            have b0 := later_cell (v := .int .i64 e0) (blk_cell HE.out 0)
            have b1 := later_cell (v := .int .i64 e1) (blk_cell HE.out 1)
            have b2 := later_cell (v := .int .i64 e2) (blk_cell HE.out 2)
            have b3 := later_cell (v := .int .i64 e3) (blk_cell HE.out 3)
            have b4 := later_cell (v := .int .i64 e4) (blk_cell HE.out 4)
            have hpn : p ≠ wr.heap.size := by have := blk_lt HS1.out.hdr; omega
            have hlt : w.heap.size ≠ wr.heap.size := by have := blk_lt HE.out; omega
            have c0' := later_cell c0
            have hs := Below.refl wr.heap.size wr
            clear hlk hl hown2 hg2 hD c0 hpn hlt
            go_region
            go_wp2
            go_ret2
            have hbw : Below wr.heap.size wr (wr.alloc (.cells (newT own e0 e1 e2 e3 e4).cells 69)).drew := below_drew (below_alloc (Below.refl _ _) _)
            refine ⟨rfl, ((Keeps.of_below (below_step HB.out hbw) _).grown HX.out.2 (fun k e => by cases e; exact .inl (.inr (.inl rfl)))), fun h => absurd HC.out h, fun _ => ⟨wr.heap.size, HB.out.size, ?_⟩⟩
            exact (HS1.out.below hbw).put (free_le L) HLT.out (free_none L) HG.out (fun j u hj => by have := blk_lt (HS1.out.blk _ _ _ hj); omega) HOW.out HDL.out HX.out.1 HX.out.2
    · rw [if_neg hc] at HC
      have d3 : (chkE e0 e1 e2 e3 != 0) = true := by simpa using hc
      have d4 : (chkE e0 e1 e2 e3 == 0) = false := by simpa using hc
      have HI' := Lib.hid (HI.out.trans (if_neg (by rw [HC.out]; exact hc)))
      have HZ := Lib.hid hc
      rw [HI'.out]
      go_enter Try.func15, Try.ntmps15
      go_wp2_with fail
      refine (HK.out _).mono ?_
      rintro e w1 ⟨rfl, hb1⟩
      have HB := Lib.hid (below_step (below_alloc (Below.refl _ _) _) hb1)
      clear hb1 hc
      go_wp2
      go_ret2
      exact ⟨by rw [HC.out]; rfl, HN.out _ HB.out (by rw [HC.out]; exact HZ.out)⟩
  all_goals
    rw [d1, d2] at HC
    have HC' := Lib.hid (HC.out.trans (if_pos rfl))
    have HI' := Lib.hid (HI.out.trans (if_neg (by rw [HC'.out]; decide)))
    rw [HI'.out]
    go_enter Try.func15, Try.ntmps15
    go_wp2
    go_ret2
    exact ⟨by rw [HC'.out]; rfl, HN.out _ (below_alloc (Below.refl _ _) _) (by rw [HC'.out]; decide)⟩
end
end Go.Proofs.Ytodgbpggkikbcaa
