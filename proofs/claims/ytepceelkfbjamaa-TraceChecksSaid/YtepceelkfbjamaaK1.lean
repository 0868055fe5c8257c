/- TraceChecks: The checker: its state, Contains, twice. -/
import Derived.Test.YtepceelkfbjamaaA6
import Derived.WalkSpells
namespace Go.Proofs.Ytepceelkfbjamaa
section
open Go.RowKit Go.Proofs.YtepceelkfbjamaaW.PrintWords Go.Proofs.YtepceelkfbjamaaW.PrintLast Go.Proofs.YtepceelkfbjamaaW.PrintMore PTraceFilters FLib

theorem blk_set_ne {w : World} {g g' i : Nat} {o : Obj} (h : w.heap[g]? = some o) (hne : g' ≠ g) (u : Value) : (w.setCell ⟨g', i, none⟩ u).heap[g]? = some o := by
  rw [← h]
  exact Below.heap_setCell w ⟨g', i, none⟩ u g (fun e => hne e.symm)
/-- The state of a checker. -/
structure St where
  runs : List Int
  blk : List Bool
  ended : List Bool
  time : Int
def bools (l : List Bool) : List Value := l.map Value.bool
/-- The checker of type T at block q holds the state s, in blocks from base on. -/
structure CK (T base : Nat) (w : World) (q : Nat) (s : St) : Prop where
  ex : ∃ v gb ge, w.heap[q]? = some (.cells #[v, .slice (some ⟨gb, 0, none⟩) s.blk.length s.blk.length, .slice (some ⟨ge, 0, none⟩) s.ended.length s.ended.length, .int .i64 s.time] T (0, 0)) ∧
    w.heap[gb]? = some (.cells (bools s.blk).toArray 4 (0, 0)) ∧ w.heap[ge]? = some (.cells (bools s.ended).toArray 4 (0, 0)) ∧ gb ≠ ge ∧ base ≤ q ∧ base ≤ gb ∧ base ≤ ge ∧ Kd.R (Kd.int .i64) 3 w base (fun _ => True) v s.runs

theorem info4 : (Try.prog.info? 4).map (fun i => (i.zero, i.size, i.bytes)) = some (some (.bool false), 1, 1) := by kernel_rfl
theorem info3 : (Try.prog.info? 3).map (fun i => (i.zero, i.size, i.bytes)) = some (some (.int .i64 0), 1, 8) := by kernel_rfl
theorem made_bools (t : Nat) : madeCells #[Value.bool false] t = (bools (List.replicate t false)).toArray := by
  apply Array.ext'
  rw [toList_madeCells_one]
  simp [bools]
theorem three (w : World) (o1 o2 o3 : Obj) : ((((w.alloc o1).alloc o2).alloc o3).drew).heap[w.heap.size]? = some o1 ∧ ((((w.alloc o1).alloc o2).alloc o3).drew).heap[w.heap.size + 1]? = some o2 ∧ ((((w.alloc o1).alloc o2).alloc o3).drew).heap[w.heap.size + 1 + 1]? = some o3 ∧ Below w.heap.size w ((((w.alloc o1).alloc o2).alloc o3).drew) := by
  have s1 : (w.alloc o1).heap.size = w.heap.size + 1 := by simp
  have s2 : ((w.alloc o1).alloc o2).heap.size = w.heap.size + 1 + 1 := by simp
  have b2 := blk_new (w.alloc o1) o2
  have b3 := blk_new ((w.alloc o1).alloc o2) o3
  rw [s1] at b2
  rw [s2] at b3
  exact ⟨blk_drew (blk_alloc (blk_alloc (blk_new w o1) o2) o3), blk_drew (blk_alloc b2 o3), blk_drew b3, below_drew (below_alloc (below_alloc (below_alloc (Below.refl _ _) _) _) _)⟩


set_option maxRecDepth 100000 in
set_option maxHeartbeats 1600000 in
theorem newChecker_any (p t : Nat) (hp : p ≤ 8) (ht : t ≤ 256) (w : World) :
    Calls Try.prog 46 #[.int .i64 p, .int .i64 t] w fun e w' => ∃ q, e = .returned (.pointer (some ⟨q, 0, none⟩)) ∧ CK 115 w.heap.size w' q ⟨List.replicate p (-1), List.replicate t false, List.replicate t false, 0⟩ ∧ Below w.heap.size w w' := by
  have hmk := print_make_of (P := Try.prog) 112 4 (.bool false) 1 Try.underlying112 info4 rfl (by decide) t (by omega)
  rw [made_bools] at hmk
  go_enter Try.func46, Try.ntmps46
  go_wp2
  go_region
  · have H3 := three w (.cells (bools (List.replicate t false)).toArray 4) (.cells (bools (List.replicate t false)).toArray 4) (.cells #[.slice none 0 0, .slice (some ⟨w.heap.size, 0, none⟩) t t, .slice (some ⟨w.heap.size + 1, 0, none⟩) t t, .int .i64 0] 115)
    generalize (((w.alloc (.cells (bools (List.replicate t false)).toArray 4)).alloc (.cells (bools (List.replicate t false)).toArray 4)).alloc (.cells #[.slice none 0 0, .slice (some ⟨w.heap.size, 0, none⟩) t t, .slice (some ⟨w.heap.size + 1, 0, none⟩) t t, .int .i64 0] 115)).drew = W0 at H3 ⊢
    obtain ⟨hb0, he0, hq0, HB0⟩ := H3
    obtain ⟨gb, hgbe⟩ : ∃ g, w.heap.size = g := ⟨_, rfl⟩
    obtain ⟨ge, hgee⟩ : ∃ g, w.heap.size + 1 = g := ⟨_, rfl⟩
    obtain ⟨q, hqe⟩ : ∃ g, w.heap.size + 1 + 1 = g := ⟨_, rfl⟩
    have HNE : Hid (gb ≠ ge) := Lib.hid (by omega)
    have HGB : Hid (w.heap.size ≤ gb) := Lib.hid (by omega)
    have HGE : Hid (w.heap.size ≤ ge) := Lib.hid (by omega)
    have HGQ : Hid (w.heap.size ≤ q) := Lib.hid (by omega)
    rw [hqe] at hq0 ⊢
    rw [hgee] at hq0 he0 ⊢
    rw [hgbe] at hb0 hq0 ⊢
    clear hqe hgee hgbe hmk
    go_wp2
    go_loopw [13] (fun i wr => ∃ k : Nat, k ≤ p ∧ i = .int .i64 k ∧ Hid (∃ v, wr.heap[q]? = some (.cells #[v, .slice (some ⟨gb, 0, none⟩) t t, .slice (some ⟨ge, 0, none⟩) t t, .int .i64 0] 115 (0, 0)) ∧
      wr.heap[gb]? = some (.cells (bools (List.replicate t false)).toArray 4 (0, 0)) ∧ wr.heap[ge]? = some (.cells (bools (List.replicate t false)).toArray 4 (0, 0)) ∧ Kd.R (Kd.int .i64) 3 wr w.heap.size (fun _ => True) v (List.replicate k (-1))) ∧ Hid (Below w.heap.size w wr)) (fun i _ => p - (intOf i).toNat)
    case atStart => exact ⟨0, Nat.zero_le _, rfl, ⟨_, hq0, hb0, he0, Kd.R_nil _ _ _ _ _⟩, HB0⟩
    case round =>
      obtain ⟨k, hk, rfl, HI, HB⟩ := hrel
      obtain ⟨v, hq, hb, he, hR⟩ := HI.out
      by_cases hlt : k < p
      · have hi1 : (k : Int) < (p : Int) := by omega
        have f0 : wr.cell? ⟨q, 0, none⟩ = some v := blk_cell hq 0
        have z0 : wr.frozen? ⟨q, 0, none⟩ = false := blk_frozen hq 0
        have HQ := Lib.hid hq
        have HG := Lib.hid hb
        have HE := Lib.hid he
        have HR := Lib.hid hR
        clear hq hb he hR HI
        go_wp2_with (at_builtin; refine Kd.R_append (Kd.int .i64) (w0 := w) (W := wr) w.heap.size rfl (.tmp 19) (.tmp 20) 113 3 _ 8 rfl Try.underlying113 info3 rfl (by decide) (by decide) _ (List.replicate k (-1)) (-1) [.int .i64 (-1)] (fun _ => True) (fun _ => False) rfl rfl rfl (fun _ h => h.elim) (fun _ _ => trivial) HR.out HB.out HB.out.size (by simp; omega) ?_; intro v1 w1 hR1 hB1 hg1 _; rw [← List.replicate_succ'] at hR1; obtain ⟨A1, c1, rfl, -, -⟩ := Kd.R_reads hR1; rw [List.length_replicate] at hR1; have hq1 := blk_grown HQ.out hg1 (Kd.R_ne HR.out HQ.out (by decide)); have f1 : w1.cell? ⟨q, 0, none⟩ = some v := blk_cell hq1 0; have z1 : w1.frozen? ⟨q, 0, none⟩ = false := blk_frozen hq1 0; have HQ1 := Lib.hid hq1; have HG1 := Lib.hid hg1; have HR1 := Lib.hid hR1; have HB1 := Lib.hid hB1; clear hq1 hg1 hR1 hB1 f0 z0)
        go_roundw
        case rel => exact ⟨k + 1, by omega, by go_num, ⟨_, by simpa using blk_set HQ1.out 0 (.slice A1 (k + 1) c1), blk_set_ne (blk_grown HG.out HG1.out (Kd.R_ne HR.out HG.out (by decide))) (blk_ne HQ1.out (blk_grown HG.out HG1.out (Kd.R_ne HR.out HG.out (by decide))) (by decide)) _, blk_set_ne (blk_grown HE.out HG1.out (Kd.R_ne HR.out HE.out (by decide))) (blk_ne HQ1.out (blk_grown HE.out HG1.out (Kd.R_ne HR.out HE.out (by decide))) (by decide)) _, Kd.R_set HR1.out HQ1.out (by decide) 0 _⟩, HB1.out.setCell HGQ.out _⟩
        case measure => simp [intOf]; omega
      · go_wp2
        go_ret
        obtain rfl : k = p := by omega
        refine ⟨_, rfl, ⟨v, gb, ge, ?_, hb, he, HNE.out, HGQ.out, HGB.out, HGE.out, hR⟩, HB.out⟩
        simpa using hq
  · have H3 := three w (.cells (bools (List.replicate t false)).toArray 4) (.cells (bools (List.replicate t false)).toArray 4) (.cells #[.slice none 0 0, .slice (some ⟨w.heap.size + 1, 0, none⟩) t t, .slice (some ⟨w.heap.size, 0, none⟩) t t, .int .i64 0] 115)
    generalize (((w.alloc (.cells (bools (List.replicate t false)).toArray 4)).alloc (.cells (bools (List.replicate t false)).toArray 4)).alloc (.cells #[.slice none 0 0, .slice (some ⟨w.heap.size + 1, 0, none⟩) t t, .slice (some ⟨w.heap.size, 0, none⟩) t t, .int .i64 0] 115)).drew = W0 at H3 ⊢
    obtain ⟨he0, hb0, hq0, HB0⟩ := H3
    obtain ⟨ge, hgbe⟩ : ∃ g, w.heap.size = g := ⟨_, rfl⟩
    obtain ⟨gb, hgee⟩ : ∃ g, w.heap.size + 1 = g := ⟨_, rfl⟩
    obtain ⟨q, hqe⟩ : ∃ g, w.heap.size + 1 + 1 = g := ⟨_, rfl⟩
    have HNE : Hid (gb ≠ ge) := Lib.hid (by omega)
    have HGB : Hid (w.heap.size ≤ gb) := Lib.hid (by omega)
    have HGE : Hid (w.heap.size ≤ ge) := Lib.hid (by omega)
    have HGQ : Hid (w.heap.size ≤ q) := Lib.hid (by omega)
    rw [hqe] at hq0 ⊢
    rw [hgee] at hq0 hb0 ⊢
    rw [hgbe] at he0 hq0 ⊢
    clear hqe hgee hgbe hmk
    go_wp2
    go_loopw [13] (fun i wr => ∃ k : Nat, k ≤ p ∧ i = .int .i64 k ∧ Hid (∃ v, wr.heap[q]? = some (.cells #[v, .slice (some ⟨gb, 0, none⟩) t t, .slice (some ⟨ge, 0, none⟩) t t, .int .i64 0] 115 (0, 0)) ∧
      wr.heap[gb]? = some (.cells (bools (List.replicate t false)).toArray 4 (0, 0)) ∧ wr.heap[ge]? = some (.cells (bools (List.replicate t false)).toArray 4 (0, 0)) ∧ Kd.R (Kd.int .i64) 3 wr w.heap.size (fun _ => True) v (List.replicate k (-1))) ∧ Hid (Below w.heap.size w wr)) (fun i _ => p - (intOf i).toNat)
    case atStart => exact ⟨0, Nat.zero_le _, rfl, ⟨_, hq0, hb0, he0, Kd.R_nil _ _ _ _ _⟩, HB0⟩
    case round =>
      obtain ⟨k, hk, rfl, HI, HB⟩ := hrel
      obtain ⟨v, hq, hb, he, hR⟩ := HI.out
      by_cases hlt : k < p
      · have hi1 : (k : Int) < (p : Int) := by omega
        have f0 : wr.cell? ⟨q, 0, none⟩ = some v := blk_cell hq 0
        have z0 : wr.frozen? ⟨q, 0, none⟩ = false := blk_frozen hq 0
        have HQ := Lib.hid hq
        have HG := Lib.hid hb
        have HE := Lib.hid he
        have HR := Lib.hid hR
        clear hq hb he hR HI
        go_wp2_with (at_builtin; refine Kd.R_append (Kd.int .i64) (w0 := w) (W := wr) w.heap.size rfl (.tmp 19) (.tmp 20) 113 3 _ 8 rfl Try.underlying113 info3 rfl (by decide) (by decide) _ (List.replicate k (-1)) (-1) [.int .i64 (-1)] (fun _ => True) (fun _ => False) rfl rfl rfl (fun _ h => h.elim) (fun _ _ => trivial) HR.out HB.out HB.out.size (by simp; omega) ?_; intro v1 w1 hR1 hB1 hg1 _; rw [← List.replicate_succ'] at hR1; obtain ⟨A1, c1, rfl, -, -⟩ := Kd.R_reads hR1; rw [List.length_replicate] at hR1; have hq1 := blk_grown HQ.out hg1 (Kd.R_ne HR.out HQ.out (by decide)); have f1 : w1.cell? ⟨q, 0, none⟩ = some v := blk_cell hq1 0; have z1 : w1.frozen? ⟨q, 0, none⟩ = false := blk_frozen hq1 0; have HQ1 := Lib.hid hq1; have HG1 := Lib.hid hg1; have HR1 := Lib.hid hR1; have HB1 := Lib.hid hB1; clear hq1 hg1 hR1 hB1 f0 z0)
        go_roundw
        case rel => exact ⟨k + 1, by omega, by go_num, ⟨_, by simpa using blk_set HQ1.out 0 (.slice A1 (k + 1) c1), blk_set_ne (blk_grown HG.out HG1.out (Kd.R_ne HR.out HG.out (by decide))) (blk_ne HQ1.out (blk_grown HG.out HG1.out (Kd.R_ne HR.out HG.out (by decide))) (by decide)) _, blk_set_ne (blk_grown HE.out HG1.out (Kd.R_ne HR.out HE.out (by decide))) (blk_ne HQ1.out (blk_grown HE.out HG1.out (Kd.R_ne HR.out HE.out (by decide))) (by decide)) _, Kd.R_set HR1.out HQ1.out (by decide) 0 _⟩, HB1.out.setCell HGQ.out _⟩
        case measure => simp [intOf]; omega
      · go_wp2
        go_ret
        obtain rfl : k = p := by omega
        refine ⟨_, rfl, ⟨v, gb, ge, ?_, hb, he, HNE.out, HGQ.out, HGB.out, HGE.out, hR⟩, HB.out⟩
        simpa using hq
end
section
open Go.RowKit Go.Proofs.YtepceelkfbjamaaW.PrintWords Go.Proofs.YtepceelkfbjamaaW.PrintLast Go.Proofs.YtepceelkfbjamaaW.PrintMore PTraceFilters FLib

theorem CK.below {T base q : Nat} {w w' : World} {s : St} (h : CK T base w q s) (hb : Below w.heap.size w w') : CK T base w' q s := by
  obtain ⟨v, gb, ge, h1, h2, h3, h4, h5, h6, h7, h8⟩ := h.ex
  exact ⟨v, gb, ge, blk_below h1 hb, blk_below h2 hb, blk_below h3 hb, h4, h5, h6, h7, Kd.R_below h8 hb⟩
end
section
set_option linter.unusedVariables false
set_option linter.unusedSimpArgs false
open Go.RowKit Go.Proofs.YtepceelkfbjamaaW.PrintWords Go.Proofs.YtepceelkfbjamaaW.PrintLast Go.Proofs.YtepceelkfbjamaaW.PrintMore PTraceFilters FLib

/-- The cells that a load of a whole variable takes, as one word: the walk takes them in one step, by a fact. -/
def RunCells (P : Program) (a : Addr) (n : Nat) (w : World) : Result (Array Value) := (loadCells a n).run P w
theorem hold_cells (P : Program) (a : Addr) (n : Nat) (w : World) : (loadCells a n).run P w = RunCells P a n w := rfl
theorem hold_from (P : Program) (a : Addr) (n : Nat) (w : World) : (loadCellsFrom a 0 n #[]).run P w = RunCells P a n w := rfl
theorem runCells_list {P : Program} (w : World) (a : Addr) (cs : List Value) (h : ∀ j v, cs[j]? = some v → w.cell? (a.add j) = some v) : RunCells P a cs.length w = .ok cs.toArray w := run_loadCells_list (P := P) w a cs h
theorem add_mk0 (g j : Nat) : (⟨g, 0, none⟩ : Addr).add j = ⟨g, j, none⟩ := by
  unfold Addr.add
  by_cases h : j = 0 <;> simp [h]
theorem runCells_blk {P : Program} {w : World} {ty q n : Nat} {cs : Array Value} (h : w.heap[q]? = some (.cells cs ty (0, 0))) (hn : cs.size = n) : RunCells P ⟨q, 0, none⟩ n w = .ok cs w := by
  have hl := runCells_list (P := P) w ⟨q, 0, none⟩ cs.toList (fun j v hv => by rw [add_mk0, blk_cell h]; simpa using hv)
  rw [Array.length_toList, hn] at hl
  simpa using hl
theorem later_run {P : Program} {W : World} {a : Addr} {n : Nat} {cs : Array Value} (h : ∀ j v, cs[j]? = some v → W.cell? (a.add j) = some v) (hn : cs.size = n) : ∀ w', Below W.heap.size W w' → RunCells P a n w' = .ok cs w' := by
  intro w' hb
  have hl := runCells_list (P := P) w' a cs.toList (fun j v hv => pw_cell_below hb (h j v (by simpa using hv)))
  rw [Array.length_toList, hn] at hl
  simpa using hl
theorem later_blk {W : World} {q : Nat} {o : Obj} (h : W.heap[q]? = some o) : ∀ w', Below W.heap.size W w' → w'.heap[q]? = some o := fun _ hb => (hb.block q (blk_lt h)).trans h
theorem later_cell {W : World} {a : Addr} {v : Value} (h : W.cell? a = some v) : ∀ w', Below W.heap.size W w' → w'.cell? a = some v := fun _ hb => pw_cell_below hb h
theorem later_whole {P : Program} {W : World} {ty q n : Nat} {cs : Array Value} (h : W.heap[q]? = some (.cells cs ty (0, 0))) (hn : cs.size = n) : ∀ w', Below W.heap.size W w' → RunCells P ⟨q, 0, none⟩ n w' = .ok cs w' :=
  fun w' hb => runCells_blk (later_blk h w' hb) hn
theorem below_step {W w1 w2 : World} (h : Below W.heap.size W w1) (h2 : Below w1.heap.size w1 w2) : Below W.heap.size W w2 := h.trans (h2.mono h.size)
theorem below_new {W w : World} (h : Below W.heap.size W w) (o : Obj) : Below W.heap.size W (w.alloc o) := h.alloc h.size o
theorem abs_e {Q : Exit → Act → World → Prop} {e : Exit} {a : Act} {w : World} (F : World → Prop) (hF : F w) (h : ∀ w2, F w2 → Q e a w2) : Q e a w := h w hF
theorem below_alloc_T {W w : World} (o : Obj) (h : Below W.heap.size W w) : Below W.heap.size W (w.alloc o) = True := eq_true (h.alloc h.size o)
theorem below_drew_T {W w : World} (h : Below W.heap.size W w) : Below W.heap.size W w.drew = True := eq_true h.drew
theorem below_drewN_T {W w : World} (n : Nat) (h : Below W.heap.size W w) : Below W.heap.size W (w.drewN n) = True := eq_true (pw_below_drewN h n)
theorem run_box {P : Program} {w : World} {cs : Array Value} {ty n : Nat} (h : cs.size = n) : RunCells P ⟨w.heap.size, 0, none⟩ n (w.alloc (.cells cs ty)) = .ok cs (w.alloc (.cells cs ty)) := runCells_blk (blk_new w _) h
theorem run_boxAt {P : Program} {w : World} {cs : Array Value} {ty n g : Nat} (hg : g = w.heap.size) (h : cs.size = n) : RunCells P ⟨g, 0, none⟩ n (w.alloc (.cells cs ty)) = .ok cs (w.alloc (.cells cs ty)) := by subst hg; exact run_box h
theorem run_box6 {P : Program} {w : World} {a b c d e f : Value} {ty g : Nat} (hg : g = w.heap.size) : RunCells P ⟨g, 0, none⟩ 6 (w.alloc (.cells #[a, b, c, d, e, f] ty)) = .ok #[a, b, c, d, e, f] (w.alloc (.cells #[a, b, c, d, e, f] ty)) := run_boxAt hg rfl

/-- Block g begins with the cells l. -/
def At (w : World) (g T : Nat) (l : List Value) : Prop := ∃ rest, w.heap[g]? = some (.cells (l ++ rest).toArray T (0, 0))
theorem At.cell {w : World} {g T i : Nat} {l : List Value} {v : Value} (h : At w g T l) (hv : l[i]? = some v) : w.cell? ⟨g, i, none⟩ = some v := by
  obtain ⟨rest, h⟩ := h
  rw [blk_cell h]
  have hi : i < l.length := by
    by_cases hi : i < l.length
    · exact hi
    · rw [List.getElem?_eq_none (by omega)] at hv; cases hv
  simp only [List.getElem?_toArray]
  rw [List.getElem?_append_left hi, hv]
theorem At.frozen {w : World} {g T : Nat} {l : List Value} (h : At w g T l) (i : Nat) : w.frozen? ⟨g, i, none⟩ = false := by
  obtain ⟨rest, h⟩ := h
  exact blk_frozen h i
theorem At.lt {w : World} {g T : Nat} {l : List Value} (h : At w g T l) : g < w.heap.size := by
  obtain ⟨rest, h⟩ := h
  exact blk_lt h
theorem At.block {w w' : World} {g T : Nat} {l : List Value} (h : At w g T l) (hb : w'.heap[g]? = w.heap[g]?) : At w' g T l := by
  obtain ⟨rest, h⟩ := h
  exact ⟨rest, hb.trans h⟩
theorem At.below {w w' : World} {g T : Nat} {l : List Value} (h : At w g T l) (hb : Below w.heap.size w w') : At w' g T l := h.block (hb.block g h.lt)
theorem At.set {w : World} {g T i : Nat} {l : List Value} (h : At w g T l) (hi : i < l.length) (v : Value) : At (w.setCell ⟨g, i, none⟩ v) g T (l.set i v) := by
  obtain ⟨rest, h⟩ := h
  refine ⟨rest, ?_⟩
  rw [blk_set h i v]
  congr 2
  apply Array.ext'
  simp [List.set_append, hi]
theorem At.set_ne {w : World} {g T : Nat} {l : List Value} (h : At w g T l) {g' i : Nat} (hne : g' ≠ g) (v : Value) : At (w.setCell ⟨g', i, none⟩ v) g T l :=
  h.block (Below.heap_setCell w ⟨g', i, none⟩ v g (fun e => hne e.symm))
theorem At.ne {w : World} {g g' T T' : Nat} {l l' : List Value} (h : At w g T l) (h' : At w g' T' l') (hT : T ≠ T') : g ≠ g' := by
  rintro rfl
  obtain ⟨r, h⟩ := h
  obtain ⟨r', h'⟩ := h'
  rw [h] at h'
  injection h' with h'
  injection h' with _ h'
  exact hT h'

def ints (l : List Int) : List Value := l.map (Value.int .i64)
theorem ints_len (l : List Int) : (ints l).length = l.length := by unfold ints; rw [List.length_map]
theorem bools_len (l : List Bool) : (bools l).length = l.length := by unfold bools; rw [List.length_map]
def getI (l : List Int) (i : Int) : Int := l.getD i.toNat 0
def getB (l : List Bool) (i : Int) : Bool := l.getD i.toNat false
theorem ints_get {l : List Int} {i : Int} (h0 : 0 ≤ i) (h1 : i < l.length) : (ints l)[i.toNat]? = some (.int .i64 (getI l i)) := by
  unfold ints getI
  rw [List.getElem?_map, List.getD_eq_getElem?_getD, List.getElem?_eq_getElem (by omega)]; rfl
theorem bools_get {l : List Bool} {i : Int} (h0 : 0 ≤ i) (h1 : i < l.length) : (bools l)[i.toNat]? = some (.bool (getB l i)) := by
  unfold bools getB
  rw [List.getElem?_map, List.getD_eq_getElem?_getD, List.getElem?_eq_getElem (by omega)]; rfl

/-- The checker of type T at block q, its rows at the blocks gr, gb, ge. -/
structure CC (T : Nat) (w : World) (q gr cr gb ge : Nat) (s : St) : Prop where
  hq : w.heap[q]? = some (.cells #[.slice (some ⟨gr, 0, none⟩) s.runs.length cr, .slice (some ⟨gb, 0, none⟩) s.blk.length s.blk.length, .slice (some ⟨ge, 0, none⟩) s.ended.length s.ended.length, .int .i64 s.time] T (0, 0))
  hr : At w gr 3 (ints s.runs)
  hb : At w gb 4 (bools s.blk)
  he : At w ge 4 (bools s.ended)
  ne : gb ≠ ge
  hc : s.runs.length ≤ cr
theorem CC.below {T : Nat} {w w' : World} {q gr cr gb ge : Nat} {s : St} (h : CC T w q gr cr gb ge s) (hb : Below w.heap.size w w') : CC T w' q gr cr gb ge s :=
  ⟨blk_below h.hq hb, h.hr.below hb, h.hb.below hb, h.he.below hb, h.ne, h.hc⟩
theorem At.of_R {w : World} {base g c : Nat} {l : List Int} (h : Kd.R (Kd.int .i64) 3 w base (fun _ => True) (.slice (some ⟨g, 0, none⟩) l.length c) l) (hp : 0 < l.length) : At w g 3 (ints l) := by
  obtain ⟨g', c', e, -, -, cells, hc⟩ := Kd.R_form h hp
  injection e with e _ _
  injection e with e
  injection e with e _ _
  subst e
  have hx : ∀ i, i < l.length → cells.toList[i]? = some (.int .i64 (l.getD i 0)) := by
    intro i hi
    obtain ⟨ac, eac, ec⟩ := Kd.at_int (Kd.R_reads' h).2.2 (i : Int) (by omega) (by omega)
    injection eac with eac
    subst eac
    have e1 : w.cell? ⟨g, i, none⟩ = some (.int .i64 (l.getD i 0)) := by
      rw [← add_mk0]
      simpa [rd] using ec
    rw [blk_cell hc] at e1
    simpa using e1
  refine ⟨cells.toList.drop l.length, ?_⟩
  rw [hc]
  congr 2
  apply Array.ext'
  apply List.ext_getElem?
  intro i
  by_cases hi : i < l.length
  · rw [hx i hi]
    simp only [List.toList_toArray]
    rw [List.getElem?_append_left (by rw [ints_len]; exact hi)]
    unfold ints
    rw [List.getElem?_map, List.getElem?_eq_getElem hi, List.getD_eq_getElem?_getD, List.getElem?_eq_getElem hi]; rfl
  · simp only [List.toList_toArray]
    rw [List.getElem?_append_right (by rw [ints_len]; omega), ints_len, List.getElem?_drop]
    congr 1
    omega
theorem CK.cc {T base q : Nat} {w : World} {s : St} (h : CK T base w q s) (hp : 0 < s.runs.length) : ∃ gr cr gb ge, CC T w q gr cr gb ge s ∧ base ≤ q ∧ base ≤ gr ∧ base ≤ gb ∧ base ≤ ge := by
  obtain ⟨v, gb, ge, h1, h2, h3, h4, h5, h6, h7, h8⟩ := h.ex
  obtain ⟨gr, cr, rfl, hgr, -, -⟩ := Kd.R_form h8 hp
  exact ⟨gr, cr, gb, ge, ⟨h1, At.of_R h8 hp, ⟨[], by simpa using h2⟩, ⟨[], by simpa using h3⟩, h4, (Kd.R_reads' h8).2.1⟩, h5, hgr, h6, h7⟩
end
section
set_option linter.unusedVariables false
set_option linter.unusedSimpArgs false
open Go.RowKit Go.Proofs.YtepceelkfbjamaaW.PrintWords Go.Proofs.YtepceelkfbjamaaW.PrintLast Go.Proofs.YtepceelkfbjamaaW.PrintMore PTraceFilters FLib

set_option maxRecDepth 100000 in
set_option maxHeartbeats 1600000 in
theorem fresh_any (p t : Nat) (hp : p ≤ 8) (ht : t ≤ 256) (w : World) :
    Calls Try.prog 50 #[.int .i64 p, .int .i64 t] w fun e w' => ∃ q, e = .returned (.pointer (some ⟨q, 0, none⟩)) ∧ CK 118 w.heap.size w' q ⟨List.replicate p (-1), List.replicate t false, List.replicate t false, 0⟩ ∧ Below w.heap.size w w' := by
  have hmk := print_make_of (P := Try.prog) 112 4 (.bool false) 1 Try.underlying112 info4 rfl (by decide) t (by omega)
  rw [made_bools] at hmk
  go_enter Try.func50, Try.ntmps50
  go_wp2
  go_region
  · have H3 := three w (.cells (bools (List.replicate t false)).toArray 4) (.cells (bools (List.replicate t false)).toArray 4) (.cells #[.slice none 0 0, .slice (some ⟨w.heap.size, 0, none⟩) t t, .slice (some ⟨w.heap.size + 1, 0, none⟩) t t, .int .i64 0] 118)
    generalize (((w.alloc (.cells (bools (List.replicate t false)).toArray 4)).alloc (.cells (bools (List.replicate t false)).toArray 4)).alloc (.cells #[.slice none 0 0, .slice (some ⟨w.heap.size, 0, none⟩) t t, .slice (some ⟨w.heap.size + 1, 0, none⟩) t t, .int .i64 0] 118)).drew = W0 at H3 ⊢
    obtain ⟨hb0, he0, hq0, HB0⟩ := H3
    obtain ⟨gb, hgbe⟩ : ∃ g, w.heap.size = g := ⟨_, rfl⟩
    obtain ⟨ge, hgee⟩ : ∃ g, w.heap.size + 1 = g := ⟨_, rfl⟩
    obtain ⟨q, hqe⟩ : ∃ g, w.heap.size + 1 + 1 = g := ⟨_, rfl⟩
    have HNE : Hid (gb ≠ ge) := Lib.hid (by omega)
    have HGB : Hid (w.heap.size ≤ gb) := Lib.hid (by omega)
    have HGE : Hid (w.heap.size ≤ ge) := Lib.hid (by omega)
    have HGQ : Hid (w.heap.size ≤ q) := Lib.hid (by omega)
    rw [hqe] at hq0 ⊢
    rw [hgee] at hq0 he0 ⊢
    rw [hgbe] at hb0 hq0 ⊢
    clear hqe hgee hgbe hmk
    go_wp2
    go_loopw [6] (fun i wr => ∃ k : Nat, k ≤ p ∧ i = .int .i64 k ∧ Hid (∃ v, wr.heap[q]? = some (.cells #[v, .slice (some ⟨gb, 0, none⟩) t t, .slice (some ⟨ge, 0, none⟩) t t, .int .i64 0] 118 (0, 0)) ∧
      wr.heap[gb]? = some (.cells (bools (List.replicate t false)).toArray 4 (0, 0)) ∧ wr.heap[ge]? = some (.cells (bools (List.replicate t false)).toArray 4 (0, 0)) ∧ Kd.R (Kd.int .i64) 3 wr w.heap.size (fun _ => True) v (List.replicate k (-1))) ∧ Hid (Below w.heap.size w wr)) (fun i _ => p - (intOf i).toNat)
    case atStart => exact ⟨0, Nat.zero_le _, rfl, ⟨_, hq0, hb0, he0, Kd.R_nil _ _ _ _ _⟩, HB0⟩
    case round =>
      obtain ⟨k, hk, rfl, HI, HB⟩ := hrel
      obtain ⟨v, hq, hb, he, hR⟩ := HI.out
      by_cases hlt : k < p
      · have hi1 : (k : Int) < (p : Int) := by omega
        have f0 : wr.cell? ⟨q, 0, none⟩ = some v := blk_cell hq 0
        have z0 : wr.frozen? ⟨q, 0, none⟩ = false := blk_frozen hq 0
        have HQ := Lib.hid hq
        have HG := Lib.hid hb
        have HE := Lib.hid he
        have HR := Lib.hid hR
        clear hq hb he hR HI
        go_wp2_with (at_builtin; refine Kd.R_append (Kd.int .i64) (w0 := w) (W := wr) w.heap.size rfl (.tmp 22) (.tmp 23) 113 3 _ 8 rfl Try.underlying113 info3 rfl (by decide) (by decide) _ (List.replicate k (-1)) (-1) [.int .i64 (-1)] (fun _ => True) (fun _ => False) rfl rfl rfl (fun _ h => h.elim) (fun _ _ => trivial) HR.out HB.out HB.out.size (by simp; omega) ?_; intro v1 w1 hR1 hB1 hg1 _; rw [← List.replicate_succ'] at hR1; obtain ⟨A1, c1, rfl, -, -⟩ := Kd.R_reads hR1; rw [List.length_replicate] at hR1; have hq1 := blk_grown HQ.out hg1 (Kd.R_ne HR.out HQ.out (by decide)); have f1 : w1.cell? ⟨q, 0, none⟩ = some v := blk_cell hq1 0; have z1 : w1.frozen? ⟨q, 0, none⟩ = false := blk_frozen hq1 0; have HQ1 := Lib.hid hq1; have HG1 := Lib.hid hg1; have HR1 := Lib.hid hR1; have HB1 := Lib.hid hB1; clear hq1 hg1 hR1 hB1 f0 z0)
        go_roundw
        case rel => exact ⟨k + 1, by omega, by go_num, ⟨_, by simpa using blk_set HQ1.out 0 (.slice A1 (k + 1) c1), blk_set_ne (blk_grown HG.out HG1.out (Kd.R_ne HR.out HG.out (by decide))) (blk_ne HQ1.out (blk_grown HG.out HG1.out (Kd.R_ne HR.out HG.out (by decide))) (by decide)) _, blk_set_ne (blk_grown HE.out HG1.out (Kd.R_ne HR.out HE.out (by decide))) (blk_ne HQ1.out (blk_grown HE.out HG1.out (Kd.R_ne HR.out HE.out (by decide))) (by decide)) _, Kd.R_set HR1.out HQ1.out (by decide) 0 _⟩, HB1.out.setCell HGQ.out _⟩
        case measure => simp [intOf]; omega
      · go_wp2
        go_ret
        obtain rfl : k = p := by omega
        refine ⟨_, rfl, ⟨v, gb, ge, ?_, hb, he, HNE.out, HGQ.out, HGB.out, HGE.out, hR⟩, HB.out⟩
        simpa using hq
  · have H3 := three w (.cells (bools (List.replicate t false)).toArray 4) (.cells (bools (List.replicate t false)).toArray 4) (.cells #[.slice none 0 0, .slice (some ⟨w.heap.size + 1, 0, none⟩) t t, .slice (some ⟨w.heap.size, 0, none⟩) t t, .int .i64 0] 118)
    generalize (((w.alloc (.cells (bools (List.replicate t false)).toArray 4)).alloc (.cells (bools (List.replicate t false)).toArray 4)).alloc (.cells #[.slice none 0 0, .slice (some ⟨w.heap.size + 1, 0, none⟩) t t, .slice (some ⟨w.heap.size, 0, none⟩) t t, .int .i64 0] 118)).drew = W0 at H3 ⊢
    obtain ⟨he0, hb0, hq0, HB0⟩ := H3
    obtain ⟨ge, hgbe⟩ : ∃ g, w.heap.size = g := ⟨_, rfl⟩
    obtain ⟨gb, hgee⟩ : ∃ g, w.heap.size + 1 = g := ⟨_, rfl⟩
    obtain ⟨q, hqe⟩ : ∃ g, w.heap.size + 1 + 1 = g := ⟨_, rfl⟩
    have HNE : Hid (gb ≠ ge) := Lib.hid (by omega)
    have HGB : Hid (w.heap.size ≤ gb) := Lib.hid (by omega)
    have HGE : Hid (w.heap.size ≤ ge) := Lib.hid (by omega)
    have HGQ : Hid (w.heap.size ≤ q) := Lib.hid (by omega)
    rw [hqe] at hq0 ⊢
    rw [hgee] at hq0 hb0 ⊢
    rw [hgbe] at he0 hq0 ⊢
    clear hqe hgee hgbe hmk
    go_wp2
    go_loopw [6] (fun i wr => ∃ k : Nat, k ≤ p ∧ i = .int .i64 k ∧ Hid (∃ v, wr.heap[q]? = some (.cells #[v, .slice (some ⟨gb, 0, none⟩) t t, .slice (some ⟨ge, 0, none⟩) t t, .int .i64 0] 118 (0, 0)) ∧
      wr.heap[gb]? = some (.cells (bools (List.replicate t false)).toArray 4 (0, 0)) ∧ wr.heap[ge]? = some (.cells (bools (List.replicate t false)).toArray 4 (0, 0)) ∧ Kd.R (Kd.int .i64) 3 wr w.heap.size (fun _ => True) v (List.replicate k (-1))) ∧ Hid (Below w.heap.size w wr)) (fun i _ => p - (intOf i).toNat)
    case atStart => exact ⟨0, Nat.zero_le _, rfl, ⟨_, hq0, hb0, he0, Kd.R_nil _ _ _ _ _⟩, HB0⟩
    case round =>
      obtain ⟨k, hk, rfl, HI, HB⟩ := hrel
      obtain ⟨v, hq, hb, he, hR⟩ := HI.out
      by_cases hlt : k < p
      · have hi1 : (k : Int) < (p : Int) := by omega
        have f0 : wr.cell? ⟨q, 0, none⟩ = some v := blk_cell hq 0
        have z0 : wr.frozen? ⟨q, 0, none⟩ = false := blk_frozen hq 0
        have HQ := Lib.hid hq
        have HG := Lib.hid hb
        have HE := Lib.hid he
        have HR := Lib.hid hR
        clear hq hb he hR HI
        go_wp2_with (at_builtin; refine Kd.R_append (Kd.int .i64) (w0 := w) (W := wr) w.heap.size rfl (.tmp 22) (.tmp 23) 113 3 _ 8 rfl Try.underlying113 info3 rfl (by decide) (by decide) _ (List.replicate k (-1)) (-1) [.int .i64 (-1)] (fun _ => True) (fun _ => False) rfl rfl rfl (fun _ h => h.elim) (fun _ _ => trivial) HR.out HB.out HB.out.size (by simp; omega) ?_; intro v1 w1 hR1 hB1 hg1 _; rw [← List.replicate_succ'] at hR1; obtain ⟨A1, c1, rfl, -, -⟩ := Kd.R_reads hR1; rw [List.length_replicate] at hR1; have hq1 := blk_grown HQ.out hg1 (Kd.R_ne HR.out HQ.out (by decide)); have f1 : w1.cell? ⟨q, 0, none⟩ = some v := blk_cell hq1 0; have z1 : w1.frozen? ⟨q, 0, none⟩ = false := blk_frozen hq1 0; have HQ1 := Lib.hid hq1; have HG1 := Lib.hid hg1; have HR1 := Lib.hid hR1; have HB1 := Lib.hid hB1; clear hq1 hg1 hR1 hB1 f0 z0)
        go_roundw
        case rel => exact ⟨k + 1, by omega, by go_num, ⟨_, by simpa using blk_set HQ1.out 0 (.slice A1 (k + 1) c1), blk_set_ne (blk_grown HG.out HG1.out (Kd.R_ne HR.out HG.out (by decide))) (blk_ne HQ1.out (blk_grown HG.out HG1.out (Kd.R_ne HR.out HG.out (by decide))) (by decide)) _, blk_set_ne (blk_grown HE.out HG1.out (Kd.R_ne HR.out HE.out (by decide))) (blk_ne HQ1.out (blk_grown HE.out HG1.out (Kd.R_ne HR.out HE.out (by decide))) (by decide)) _, Kd.R_set HR1.out HQ1.out (by decide) 0 _⟩, HB1.out.setCell HGQ.out _⟩
        case measure => simp [intOf]; omega
      · go_wp2
        go_ret
        obtain rfl : k = p := by omega
        refine ⟨_, rfl, ⟨v, gb, ge, ?_, hb, he, HNE.out, HGQ.out, HGB.out, HGE.out, hR⟩, HB.out⟩
        simpa using hq
end
section
set_option linter.unusedVariables false
set_option linter.unusedSimpArgs false
open Go.RowKit Go.Proofs.YtepceelkfbjamaaW.PrintWords Go.Proofs.YtepceelkfbjamaaW.PrintLast Go.Proofs.YtepceelkfbjamaaW.PrintMore PTraceFilters FLib
attribute [local go_sem ↓] hold_cells hold_from
attribute [local go_sem] below_alloc_T below_drew_T below_drewN_T run_box run_box6

/-- Processor p runs what one ahead of it runs. -/
def twP (r : List Int) (p : Nat) : Bool := decide (r.getD p 0 ≠ -1) && (r.take p).contains (r.getD p 0)
def twB (r : List Int) : Bool := (List.range r.length).any (twP r)
theorem twB_yes {r : List Int} {p : Nat} (hp : p < r.length) (h : twP r p = true) : twB r = true := List.any_eq_true.2 ⟨p, List.mem_range.2 hp, h⟩
theorem twB_no {r : List Int} (h : ∀ p, p < r.length → twP r p = false) : twB r = false := by
  unfold twB
  rw [List.any_eq_false]
  intro p hp
  rw [h p (List.mem_range.1 hp)]
  decide
def onB (rl : Nat) (p : Int) : Bool := decide (0 ≤ p) && decide (p < (rl : Int))
def prB (rl : Nat) (e : S47) : Bool := if e.f1 = 0 then onB rl e.f2 else if e.f1 = 1 then onB rl e.f2 || (e.f2 == -1) else (e.f2 == -1)
def thB (bl : Nat) (e : S47) : Bool := decide (0 ≤ e.f3) && (decide (e.f3 < (bl : Int)) || ((e.f1 == 5) && decide (e.f3 < 256)))
def shB (rl bl : Nat) (e : S47) : Bool := isK e.f1 && (prB rl e && (thB bl e || ((e.f3 == -1) && ((e.f1 == 0) || (e.f1 == 6)))))
def badB (s : St) (e : S47) : Bool :=
  if e.f1 = 0 then (e.f4 != getI s.runs e.f2) || ((e.f4 == e.f3) || ((e.f3 != -1) && (getB s.blk e.f3 || getB s.ended e.f3)))
  else if e.f1 = 1 then (getB s.blk e.f3 || getB s.ended e.f3) || ((e.f2 != -1) && (getI s.runs e.f2 != e.f3))
  else if e.f1 = 2 then getB s.blk e.f3 || getB s.ended e.f3
  else if e.f1 = 3 then !getB s.blk e.f3 || getB s.ended e.f3
  else if e.f1 = 8 ∨ e.f1 = 4 ∨ e.f1 = 7 then getB s.ended e.f3
  else false
def ruleI (k : Int) : Int := if k = 0 then 4 else if k = 1 then 5 else if k = 2 then 6 else if k = 3 then 7 else if k = 8 then 8 else 9
def vio (s : St) (e : S47) : Int :=
  if s.time < e.f0 ∧ twB s.runs = true then 3 else if shB s.runs.length s.blk.length e = false then 1 else if e.f0 < s.time then 2 else if badB s e = true then ruleI e.f1 else 0
def stp (s : St) (e : S47) : St :=
  if e.f1 = 0 then ⟨s.runs.set e.f2.toNat e.f3, s.blk, s.ended, e.f0⟩
  else if e.f1 = 2 then ⟨s.runs, s.blk.set e.f3.toNat true, s.ended, e.f0⟩
  else if e.f1 = 3 then ⟨s.runs, s.blk.set e.f3.toNat false, s.ended, e.f0⟩
  else if e.f1 = 8 then ⟨s.runs, s.blk, s.ended.set e.f3.toNat true, e.f0⟩
  else ⟨s.runs, s.blk, s.ended, e.f0⟩
theorem isK_iff (n : Int) : isK n = true ↔ 0 ≤ n ∧ n < 9 := by unfold isK; simp
theorem stp_len (s : St) (e : S47) : (stp s e).runs.length = s.runs.length ∧ (stp s e).blk.length = s.blk.length ∧ (stp s e).ended.length = s.ended.length ∧ (stp s e).time = e.f0 := by
  unfold stp
  repeat' split
  all_goals simp
/-- What is known of an event without a violation. -/
structure Fine (s : St) (e : S47) : Prop where
  kind : 0 ≤ e.f1 ∧ e.f1 < 9
  time : s.time ≤ e.f0
  proc : e.f1 = 0 → 0 ≤ e.f2 ∧ e.f2 < (s.runs.length : Int)
  proc1 : e.f1 = 1 → e.f2 ≠ -1 → 0 ≤ e.f2 ∧ e.f2 < (s.runs.length : Int)
  thr : e.f1 ≠ 5 → (0 ≤ e.f3 ∧ e.f3 < (s.blk.length : Int)) ∨ (e.f3 = -1 ∧ (e.f1 = 0 ∨ e.f1 = 6))
theorem fine_of {s : St} {e : S47} (h1 : shB s.runs.length s.blk.length e = true) (h2 : ¬ e.f0 < s.time) : Fine s e := by
  unfold shB prB thB onB at h1
  simp only [Bool.and_eq_true, Bool.or_eq_true, decide_eq_true_eq, beq_iff_eq] at h1
  obtain ⟨hk, hp, ht⟩ := h1
  have hk' := (isK_iff _).1 hk
  refine ⟨hk', by omega, fun h => ?_, fun h h2 => ?_, fun h => ?_⟩
  · rw [if_pos h] at hp
    simpa using hp
  · rw [if_neg (by omega), if_pos h] at hp
    simp only [Bool.and_eq_true, Bool.or_eq_true, decide_eq_true_eq, beq_iff_eq] at hp
    omega
  · omega
theorem vio_fine {s : St} {e : S47} (h : vio s e = 0) : Fine s e := by
  unfold vio at h
  split at h
  · cases h
  · split at h
    · cases h
    · split at h
      · cases h
      · rename_i h1 h2 h3
        exact fine_of (by simpa using h2) h3
end
section
set_option linter.unusedVariables false
set_option linter.unusedSimpArgs false
open Go.RowKit Go.Proofs.YtepceelkfbjamaaW.PrintWords Go.Proofs.YtepceelkfbjamaaW.PrintLast Go.Proofs.YtepceelkfbjamaaW.PrintMore PTraceFilters FLib
attribute [local go_sem ↓] hold_cells hold_from
attribute [local go_sem] below_alloc_T below_drew_T below_drewN_T run_box run_box6

theorem getI_nat (l : List Int) (k : Nat) : getI l (k : Int) = l.getD k 0 := by unfold getI; rw [Int.toNat_natCast]
theorem ints_at {l : List Int} {k : Nat} (h : k < l.length) : (ints l)[k]? = some (.int .i64 (l.getD k 0)) := by
  have := ints_get (l := l) (i := (k : Int)) (by omega) (by omega)
  rwa [getI_nat, Int.toNat_natCast] at this
theorem contains_snoc {l : List Int} {k : Nat} (h : k < l.length) (x : Int) : (l.take (k + 1)).contains x = ((l.take k).contains x || (x == l.getD k 0)) := by
  have e : l.take (k + 1) = l.take k ++ [l[k]] := by rw [List.take_add_one, List.getElem?_eq_getElem h]; rfl
  have e2 : l.getD k 0 = l[k] := by rw [List.getD_eq_getElem?_getD, List.getElem?_eq_getElem h]; rfl
  rw [e, e2]
  generalize l.take k = a
  generalize l[k] = y
  rw [Bool.eq_iff_iff]
  simp

set_option maxRecDepth 100000 in
theorem index_at (g c : Nat) (l : List Int) (n : Nat) (hn : n ≤ l.length) (hb : (n : Int) ≤ 1000000) (x : Int) (w : World) (hA : At w g 3 (ints l)) :
    Calls Try.prog 66 #[.slice (some ⟨g, 0, none⟩) n c, .int .i64 x] w fun e w' => (∃ i : Int, e = .returned (.int .i64 i) ∧ (0 ≤ i ↔ (l.take n).contains x = true)) ∧ w = w' := by
  have HA := Lib.hid hA
  clear hA
  go_enter Try.func66, Try.ntmps66
  go_wp2
  go_loopw [8] (fun i wr => ∃ k : Nat, k ≤ n ∧ i = .int .i64 k ∧ Hid ((l.take k).contains x = false) ∧ wr = w) (fun i _ => n - (intOf i).toNat)
  case atStart => exact ⟨0, Nat.zero_le _, rfl, Lib.hid rfl, rfl⟩
  case round =>
    obtain ⟨k, hk, rfl, HN, rfl⟩ := hrel
    by_cases hlt : k < n
    · have hi0 : (0 : Int) ≤ (k : Int) := by omega
      have hi1 : (k : Int) < (n : Int) := by omega
      have hkl : k < l.length := by omega
      have q : wr.cell? ⟨g, k, none⟩ = some (.int .i64 (l.getD k 0)) := HA.out.cell (ints_at hkl)
      have HS := Lib.hid (contains_snoc hkl x)
      generalize l.getD k 0 = y at q HS
      cases hy : (x == y) with
      | true =>
        have HT := Lib.hid (show (l.take n).contains x = true by
          have h1 : (l.take (k + 1)).contains x = true := by rw [HS.out, hy]; simp
          rw [List.contains_iff_mem] at h1 ⊢
          exact (List.take_subset_take_left l (show k + 1 ≤ n by omega)) h1)
        go_wp2
        go_ret
        exact ⟨⟨_, rfl, by rw [HT.out]; simp⟩, rfl⟩
      | false =>
        have HT := Lib.hid (show (l.take (k + 1)).contains x = false by rw [HS.out, hy, HN.out]; rfl)
        go_wp2
        go_roundw
        case rel => exact ⟨k + 1, by omega, by go_num, HT, by first | rfl | trivial⟩
        case measure => simp [intOf]; omega
    · obtain rfl : k = n := by omega
      go_wp2
      go_ret
      exact ⟨⟨_, rfl, by rw [HN.out]; simp⟩, rfl⟩

set_option maxRecDepth 100000 in
theorem contains_at (g c : Nat) (l : List Int) (n : Nat) (hn : n ≤ l.length) (hb : (n : Int) ≤ 1000000) (x : Int) (w : World) (hA : At w g 3 (ints l)) :
    Calls Try.prog 62 #[.slice (some ⟨g, 0, none⟩) n c, .int .i64 x] w fun e w' => e = .returned (.bool ((l.take n).contains x)) ∧ w = w' := by
  have HI := Lib.hid (index_at g c l n hn hb x w hA)
  clear hA
  obtain ⟨b, hb2⟩ : ∃ b, (l.take n).contains x = b := ⟨_, rfl⟩
  rw [hb2] at HI ⊢
  clear hb2
  go_enter Try.func62, Try.ntmps62
  go_wp2_with (go_at_call 66; refine HI.out.mono ?_; rintro e w' ⟨⟨i, rfl, hi⟩, rfl⟩)
  cases b with
  | true =>
    have h0 : 0 ≤ i := hi.2 rfl
    go_ret
    exact ⟨by simp [h0], rfl⟩
  | false =>
    have h0 : ¬ 0 ≤ i := fun h => by cases hi.1 h
    go_ret
    exact ⟨by simp [h0], rfl⟩

set_option maxRecDepth 100000 in
set_option maxHeartbeats 800000 in
theorem twice_any (q gr cr gb ge : Nat) (s : St) (hl : s.runs.length ≤ 8) (w : World) (hC : CC 115 w q gr cr gb ge s) :
    Calls Try.prog 49 #[.pointer (some ⟨q, 0, none⟩)] w fun e w' => e = .returned (.bool (twB s.runs)) ∧ w = w' := by
  have HC := Lib.hid hC
  have HI := Lib.hid (fun n hn x => contains_at gr cr s.runs n hn (by omega) x w hC.hr)
  have f0 : w.cell? ⟨q, 0, none⟩ = some (.slice (some ⟨gr, 0, none⟩) s.runs.length cr) := blk_cell hC.hq 0
  clear hC
  have HA := Lib.hid HC.out.hr
  have hcr := HC.out.hc
  clear HC
  generalize s.runs = r at hl HI f0 HA hcr ⊢
  go_enter Try.func49, Try.ntmps49
  go_wp2
  go_loopw [10] (fun i wr => ∃ k : Nat, k ≤ r.length ∧ i = .int .i64 k ∧ Hid (∀ p, p < k → twP r p = false) ∧ wr = w) (fun i _ => r.length - (intOf i).toNat)
  case atStart => exact ⟨0, Nat.zero_le _, rfl, Lib.hid (fun p hp => by omega), rfl⟩
  case round =>
    obtain ⟨k, hk, rfl, HN, rfl⟩ := hrel
    by_cases hlt : k < r.length
    · have hi0 : (0 : Int) ≤ (k : Int) := by omega
      have hi1 : (k : Int) < (r.length : Int) := by omega
      have hi2 : (k : Int) ≤ (cr : Int) := by omega
      have hl8 : (r.length : Int) ≤ 8 := by omega
      have qk : wr.cell? ⟨gr, k, none⟩ = some (.int .i64 (r.getD k 0)) := HA.out.cell (ints_at hlt)
      have HX := Lib.hid (HI.out k (by omega) (r.getD k 0))
      have HP : Hid (twP r k = (decide (r.getD k 0 ≠ -1) && (r.take k).contains (r.getD k 0))) := Lib.hid rfl
      have HLT := Lib.hid hlt
      generalize r.getD k 0 = y at qk HX HP
      generalize (r.take k).contains y = b at HX HP
      by_cases hy : y = -1
      · subst hy
        have HF := Lib.hid (show twP r k = false by rw [HP.out]; simp)
        go_wp2
        go_roundw
        case rel => exact ⟨k + 1, by omega, by go_num, Lib.hid (fun p hp => by
          by_cases e : p = k
          · subst e; exact HF.out
          · exact HN.out p (by omega)), by first | rfl | trivial⟩
        case measure => simp [intOf]; omega
      · have d1 : (y == -1) = false := by simpa using hy
        have d2 : (y != -1) = true := by simpa using hy
        have HF := Lib.hid (show twP r k = b by rw [HP.out]; simp [hy])
        clear hy
        cases b with
        | true =>
          have HT := Lib.hid (twB_yes HLT.out HF.out)
          go_wp2_with (go_at_call 62; refine HX.out.mono ?_; rintro e w' ⟨rfl, rfl⟩)
          go_ret
          exact ⟨by rw [HT.out]; rfl, rfl⟩
        | false =>
          go_wp2_with (go_at_call 62; refine HX.out.mono ?_; rintro e w' ⟨rfl, rfl⟩)
          go_roundw
          case rel => exact ⟨k + 1, by omega, by go_num, Lib.hid (fun p hp => by
            by_cases e : p = k
            · subst e; exact HF.out
            · exact HN.out p (by omega)), by first | rfl | trivial⟩
          case measure => simp [intOf]; omega
    · obtain rfl : k = r.length := by omega
      have HT := Lib.hid (twB_no HN.out)
      go_wp2
      go_ret
      exact ⟨by rw [HT.out]; rfl, rfl⟩

theorem twP_false {r : List Int} {p : Nat} (h : r.getD p 0 = -1 ∨ ∀ j, j < p → r.getD j 0 ≠ r.getD p 0) (hp : p ≤ r.length) : twP r p = false := by
  unfold twP
  rcases h with h | h
  · rw [h]; simp
  · rw [Bool.and_eq_false_iff]
    right
    cases hc : (r.take p).contains (r.getD p 0) with
    | false => rfl
    | true =>
      rw [List.contains_iff_mem] at hc
      obtain ⟨j, hj, e⟩ := List.getElem_of_mem hc
      rw [List.length_take] at hj
      rw [List.getElem_take] at e
      refine absurd ?_ (h j (by omega))
      rw [← e, List.getD_eq_getElem?_getD, List.getElem?_eq_getElem (by omega)]; rfl
theorem twP_true {r : List Int} {p j : Nat} (h : r.getD p 0 ≠ -1) (hj : j < p) (hp : p ≤ r.length) (e : r.getD j 0 = r.getD p 0) : twP r p = true := by
  unfold twP
  rw [Bool.and_eq_true]
  refine ⟨by simpa using h, ?_⟩
  rw [List.contains_iff_mem, ← e]
  rw [List.getD_eq_getElem?_getD, List.getElem?_eq_getElem (by omega)]
  refine List.mem_iff_getElem.2 ⟨j, by rw [List.length_take]; omega, ?_⟩
  rw [List.getElem_take]; rfl

set_option maxRecDepth 100000 in
set_option maxHeartbeats 1600000 in
theorem rtwice_any (q gr cr gb ge : Nat) (s : St) (hl : s.runs.length ≤ 8) (w : World) (hC : CC 118 w q gr cr gb ge s) :
    Calls Try.prog 53 #[.pointer (some ⟨q, 0, none⟩)] w fun e w' => e = .returned (.bool (twB s.runs)) ∧ ∃ n, w' = w.drewN n := by
  have f0 : ∀ n, (w.drewN n).cell? ⟨q, 0, none⟩ = some (.slice (some ⟨gr, 0, none⟩) s.runs.length cr) := fun n => blk_cell hC.hq 0
  have HA := Lib.hid hC.hr
  clear hC
  generalize s.runs = r at hl f0 HA ⊢
  go_enter Try.func53, Try.ntmps53
  go_wp2
  go_loopw [3] (fun i wr => ∃ k n : Nat, k ≤ r.length ∧ i = .int .i64 k ∧ Hid (∀ p, p < k → twP r p = false) ∧ wr = w.drewN n) (fun i _ => r.length - (intOf i).toNat)
  case atStart => exact ⟨0, 0, Nat.zero_le _, rfl, Lib.hid (fun p hp => by omega), rfl⟩
  case round =>
    obtain ⟨k, n, hk, rfl, HN, rfl⟩ := hrel
    have f0n := f0 n
    by_cases hlt : k < r.length
    · have hi0 : (0 : Int) ≤ (k : Int) := by omega
      have hi1 : (k : Int) < (r.length : Int) := by omega
      have hl8 : (r.length : Int) ≤ 8 := by omega
      have qk : ∀ n, (w.drewN n).cell? ⟨gr, k, none⟩ = some (.int .i64 (r.getD k 0)) := fun n => HA.out.cell (ints_at hlt)
      have HLT := Lib.hid hlt
      obtain ⟨y, hy⟩ : ∃ y, r.getD k 0 = y := ⟨_, rfl⟩
      rw [hy] at qk
      have HY := Lib.hid hy
      clear hy
      go_wp2
      go_loopw [4] (fun i wr => ∃ j m : Nat, j ≤ k ∧ i = .int .i64 j ∧ Hid (y = -1 ∨ ∀ p, p < j → r.getD p 0 ≠ y) ∧ wr = w.drewN m) (fun i _ => k - (intOf i).toNat)
      case atStart => exact ⟨0, n, Nat.zero_le _, rfl, Lib.hid (Or.inr (fun p hp => by omega)), rfl⟩
      case round =>
        obtain ⟨j, m, hj, rfl, HJ, rfl⟩ := hrel
        by_cases hjk : j < k
        · have hj0 : (0 : Int) ≤ (j : Int) := by omega
          have hj1 : (j : Int) < (k : Int) := by omega
          have hj2 : (j : Int) < (r.length : Int) := by omega
          have qj : (w.drewN m).cell? ⟨gr, j, none⟩ = some (.int .i64 (r.getD j 0)) := HA.out.cell (ints_at (by omega))
          have qkm := qk m
          have f0m := f0 m
          obtain ⟨z, hz⟩ : ∃ z, r.getD j 0 = z := ⟨_, rfl⟩
          rw [hz] at qj
          have HZ := Lib.hid hz
          have HJK := Lib.hid hjk
          clear hz f0n
          generalize hw : w.drewN m = wm at qj qkm f0m ⊢
          have HW := Lib.hid hw
          clear hw
          by_cases h1 : y = -1
          · have HF : Hid (y = -1 ∨ ∀ p, p < j + 1 → r.getD p 0 ≠ y) := Lib.hid (Or.inl h1)
            have d1 : (y == -1) = true := by simpa using h1
            have d2 : (y != -1) = false := by simpa using h1
            clear h1
            go_wp2
            go_quiet (fail)
            clear d1 d2 qj qkm f0m
            go_wp2
            go_roundw
            case rel => exact ⟨j + 1, _, by omega, by go_num, HF, by rw [← HW.out, World.drewN_drewN]⟩
            case measure => simp [intOf]; omega
          · have d1 : (y == -1) = false := by simpa using h1
            have d2 : (y != -1) = true := by simpa using h1
            by_cases h2 : y = z
            · have HT := Lib.hid (twB_yes HLT.out (twP_true (by rw [HY.out]; exact h1) HJK.out (by omega) (by rw [HZ.out, HY.out]; exact h2.symm)))
              have d3 : (y == z) = true := by simpa using h2
              clear h1 h2
              go_wp2
              go_quiet (fail)
              clear d1 d2 d3 qj qkm f0m
              go_wp2
              go_ret
              exact ⟨by rw [HT.out]; rfl, _, by rw [← HW.out, World.drewN_drewN]⟩
            · have HF : Hid (y = -1 ∨ ∀ p, p < j + 1 → r.getD p 0 ≠ y) := Lib.hid (by
                rcases HJ.out with h | h
                · exact Or.inl h
                · refine Or.inr fun p hp => ?_
                  by_cases e : p = j
                  · subst e; rw [HZ.out]; exact fun e => h2 e.symm
                  · exact h p (by omega))
              have d3 : (y == z) = false := by simpa using h2
              clear h1 h2
              go_wp2
              go_quiet (fail)
              clear d1 d2 d3 qj qkm f0m
              go_wp2
              go_roundw
              case rel => exact ⟨j + 1, _, by omega, by go_num, HF, by rw [← HW.out, World.drewN_drewN]⟩
              case measure => simp [intOf]; omega
        · obtain rfl : j = k := by omega
          have HF := Lib.hid (twP_false (r := r) (p := j) (by rw [HY.out]; exact HJ.out) (by omega))
          go_wp2
          go_roundw
          case rel => exact ⟨j + 1, m, by omega, by go_num, Lib.hid (fun p hp => by
            by_cases e : p = j
            · subst e; exact HF.out
            · exact HN.out p (by omega)), rfl⟩
          case measure => simp [intOf]; omega
    · obtain rfl : k = r.length := by omega
      have HT := Lib.hid (twB_no HN.out)
      go_wp2
      go_ret
      exact ⟨by rw [HT.out]; rfl, _, rfl⟩
end
end Go.Proofs.Ytepceelkfbjamaa
