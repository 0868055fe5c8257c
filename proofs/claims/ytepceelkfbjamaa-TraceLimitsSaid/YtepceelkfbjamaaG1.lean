/- The checker's state; its beginning. -/
import Derived.Test.YtepceelkfbjamaaE3
namespace Go.Proofs.Ytepceelkfbjamaa
open Go.RowKit Go.Proofs.YtepceelkfbjamaaW.PrintWords Go.Proofs.YtepceelkfbjamaaW.PrintLast Go.Proofs.YtepceelkfbjamaaW.PrintMore PTraceFilters FLib

theorem blk_set_ne {w : World} {g g' i : Nat} {o : Obj} (h : w.heap[g]? = some o) (hne : g' ≠ g) (u : Value) : (w.setCell ⟨g', i, none⟩ u).heap[g]? = some o := by
  rw [← h]
  exact Below.heap_setCell w ⟨g', i, none⟩ u g (fun e => hne e.symm)
/-- The state of a checker. -/
structure St where
  runs : List Int
  blk : List Bool
  ended : List Bool
  time : Int
def bools (l : List Bool) : List Value := l.map Value.bool
/-- The checker of type T at block q holds the state s, in blocks from base on. -/
structure CK (T base : Nat) (w : World) (q : Nat) (s : St) : Prop where
  ex : ∃ v gb ge, w.heap[q]? = some (.cells #[v, .slice (some ⟨gb, 0, none⟩) s.blk.length s.blk.length, .slice (some ⟨ge, 0, none⟩) s.ended.length s.ended.length, .int .i64 s.time] T (0, 0)) ∧
    w.heap[gb]? = some (.cells (bools s.blk).toArray 4 (0, 0)) ∧ w.heap[ge]? = some (.cells (bools s.ended).toArray 4 (0, 0)) ∧ gb ≠ ge ∧ base ≤ q ∧ base ≤ gb ∧ base ≤ ge ∧ Kd.R (Kd.int .i64) 3 w base (fun _ => True) v s.runs

theorem info4 : (Try.prog.info? 4).map (fun i => (i.zero, i.size, i.bytes)) = some (some (.bool false), 1, 1) := by kernel_rfl
theorem info3 : (Try.prog.info? 3).map (fun i => (i.zero, i.size, i.bytes)) = some (some (.int .i64 0), 1, 8) := by kernel_rfl
theorem made_bools (t : Nat) : madeCells #[Value.bool false] t = (bools (List.replicate t false)).toArray := by
  apply Array.ext'
  rw [toList_madeCells_one]
  simp [bools]
theorem three (w : World) (o1 o2 o3 : Obj) : ((((w.alloc o1).alloc o2).alloc o3).drew).heap[w.heap.size]? = some o1 ∧ ((((w.alloc o1).alloc o2).alloc o3).drew).heap[w.heap.size + 1]? = some o2 ∧ ((((w.alloc o1).alloc o2).alloc o3).drew).heap[w.heap.size + 1 + 1]? = some o3 ∧ Below w.heap.size w ((((w.alloc o1).alloc o2).alloc o3).drew) := by
  have s1 : (w.alloc o1).heap.size = w.heap.size + 1 := by simp
  have s2 : ((w.alloc o1).alloc o2).heap.size = w.heap.size + 1 + 1 := by simp
  have b2 := blk_new (w.alloc o1) o2
  have b3 := blk_new ((w.alloc o1).alloc o2) o3
  rw [s1] at b2
  rw [s2] at b3
  exact ⟨blk_drew (blk_alloc (blk_alloc (blk_new w o1) o2) o3), blk_drew (blk_alloc b2 o3), blk_drew b3, below_drew (below_alloc (below_alloc (below_alloc (Below.refl _ _) _) _) _)⟩


set_option maxRecDepth 100000 in
set_option maxHeartbeats 1600000 in
theorem newChecker_any (p t : Nat) (hp : p ≤ 8) (ht : t ≤ 256) (w : World) :
    Calls Try.prog 46 #[.int .i64 p, .int .i64 t] w fun e w' => ∃ q, e = .returned (.pointer (some ⟨q, 0, none⟩)) ∧ CK 115 w.heap.size w' q ⟨List.replicate p (-1), List.replicate t false, List.replicate t false, 0⟩ ∧ Below w.heap.size w w' := by
  have hmk := print_make_of (P := Try.prog) 112 4 (.bool false) 1 Try.underlying112 info4 rfl (by decide) t (by omega)
  rw [made_bools] at hmk
  go_enter Try.func46, Try.ntmps46
  go_wp2
  go_region
  · have H3 := three w (.cells (bools (List.replicate t false)).toArray 4) (.cells (bools (List.replicate t false)).toArray 4) (.cells #[.slice none 0 0, .slice (some ⟨w.heap.size, 0, none⟩) t t, .slice (some ⟨w.heap.size + 1, 0, none⟩) t t, .int .i64 0] 115)
    generalize (((w.alloc (.cells (bools (List.replicate t false)).toArray 4)).alloc (.cells (bools (List.replicate t false)).toArray 4)).alloc (.cells #[.slice none 0 0, .slice (some ⟨w.heap.size, 0, none⟩) t t, .slice (some ⟨w.heap.size + 1, 0, none⟩) t t, .int .i64 0] 115)).drew = W0 at H3 ⊢
    obtain ⟨hb0, he0, hq0, HB0⟩ := H3
    obtain ⟨gb, hgbe⟩ : ∃ g, w.heap.size = g := ⟨_, rfl⟩
    obtain ⟨ge, hgee⟩ : ∃ g, w.heap.size + 1 = g := ⟨_, rfl⟩
    obtain ⟨q, hqe⟩ : ∃ g, w.heap.size + 1 + 1 = g := ⟨_, rfl⟩
    have HNE : Hid (gb ≠ ge) := Lib.hid (by omega)
    have HGB : Hid (w.heap.size ≤ gb) := Lib.hid (by omega)
    have HGE : Hid (w.heap.size ≤ ge) := Lib.hid (by omega)
    have HGQ : Hid (w.heap.size ≤ q) := Lib.hid (by omega)
    rw [hqe] at hq0 ⊢
    rw [hgee] at hq0 he0 ⊢
    rw [hgbe] at hb0 hq0 ⊢
    clear hqe hgee hgbe hmk
    go_wp2
    go_loopw [13] (fun i wr => ∃ k : Nat, k ≤ p ∧ i = .int .i64 k ∧ Hid (∃ v, wr.heap[q]? = some (.cells #[v, .slice (some ⟨gb, 0, none⟩) t t, .slice (some ⟨ge, 0, none⟩) t t, .int .i64 0] 115 (0, 0)) ∧
      wr.heap[gb]? = some (.cells (bools (List.replicate t false)).toArray 4 (0, 0)) ∧ wr.heap[ge]? = some (.cells (bools (List.replicate t false)).toArray 4 (0, 0)) ∧ Kd.R (Kd.int .i64) 3 wr w.heap.size (fun _ => True) v (List.replicate k (-1))) ∧ Hid (Below w.heap.size w wr)) (fun i _ => p - (intOf i).toNat)
    case atStart => exact ⟨0, Nat.zero_le _, rfl, ⟨_, hq0, hb0, he0, Kd.R_nil _ _ _ _ _⟩, HB0⟩
    case round =>
      obtain ⟨k, hk, rfl, HI, HB⟩ := hrel
      obtain ⟨v, hq, hb, he, hR⟩ := HI.out
      by_cases hlt : k < p
      · have hi1 : (k : Int) < (p : Int) := by omega
        have f0 : wr.cell? ⟨q, 0, none⟩ = some v := blk_cell hq 0
        have z0 : wr.frozen? ⟨q, 0, none⟩ = false := blk_frozen hq 0
        have HQ := Lib.hid hq
        have HG := Lib.hid hb
        have HE := Lib.hid he
        have HR := Lib.hid hR
        clear hq hb he hR HI
        go_wp2_with (at_builtin; refine Kd.R_append (Kd.int .i64) (w0 := w) (W := wr) w.heap.size rfl (.tmp 19) (.tmp 20) 113 3 _ 8 rfl Try.underlying113 info3 rfl (by decide) (by decide) _ (List.replicate k (-1)) (-1) [.int .i64 (-1)] (fun _ => True) (fun _ => False) rfl rfl rfl (fun _ h => h.elim) (fun _ _ => trivial) HR.out HB.out HB.out.size (by simp; omega) ?_; intro v1 w1 hR1 hB1 hg1 _; rw [← List.replicate_succ'] at hR1; obtain ⟨A1, c1, rfl, -, -⟩ := Kd.R_reads hR1; rw [List.length_replicate] at hR1; have hq1 := blk_grown HQ.out hg1 (Kd.R_ne HR.out HQ.out (by decide)); have f1 : w1.cell? ⟨q, 0, none⟩ = some v := blk_cell hq1 0; have z1 : w1.frozen? ⟨q, 0, none⟩ = false := blk_frozen hq1 0; have HQ1 := Lib.hid hq1; have HG1 := Lib.hid hg1; have HR1 := Lib.hid hR1; have HB1 := Lib.hid hB1; clear hq1 hg1 hR1 hB1 f0 z0)
        go_roundw
        case rel => exact ⟨k + 1, by omega, by go_num, ⟨_, by simpa using blk_set HQ1.out 0 (.slice A1 (k + 1) c1), blk_set_ne (blk_grown HG.out HG1.out (Kd.R_ne HR.out HG.out (by decide))) (blk_ne HQ1.out (blk_grown HG.out HG1.out (Kd.R_ne HR.out HG.out (by decide))) (by decide)) _, blk_set_ne (blk_grown HE.out HG1.out (Kd.R_ne HR.out HE.out (by decide))) (blk_ne HQ1.out (blk_grown HE.out HG1.out (Kd.R_ne HR.out HE.out (by decide))) (by decide)) _, Kd.R_set HR1.out HQ1.out (by decide) 0 _⟩, HB1.out.setCell HGQ.out _⟩
        case measure => simp [intOf]; omega
      · go_wp2
        go_ret
        obtain rfl : k = p := by omega
        refine ⟨_, rfl, ⟨v, gb, ge, ?_, hb, he, HNE.out, HGQ.out, HGB.out, HGE.out, hR⟩, HB.out⟩
        simpa using hq
  · have H3 := three w (.cells (bools (List.replicate t false)).toArray 4) (.cells (bools (List.replicate t false)).toArray 4) (.cells #[.slice none 0 0, .slice (some ⟨w.heap.size + 1, 0, none⟩) t t, .slice (some ⟨w.heap.size, 0, none⟩) t t, .int .i64 0] 115)
    generalize (((w.alloc (.cells (bools (List.replicate t false)).toArray 4)).alloc (.cells (bools (List.replicate t false)).toArray 4)).alloc (.cells #[.slice none 0 0, .slice (some ⟨w.heap.size + 1, 0, none⟩) t t, .slice (some ⟨w.heap.size, 0, none⟩) t t, .int .i64 0] 115)).drew = W0 at H3 ⊢
    obtain ⟨he0, hb0, hq0, HB0⟩ := H3
    obtain ⟨ge, hgbe⟩ : ∃ g, w.heap.size = g := ⟨_, rfl⟩
    obtain ⟨gb, hgee⟩ : ∃ g, w.heap.size + 1 = g := ⟨_, rfl⟩
    obtain ⟨q, hqe⟩ : ∃ g, w.heap.size + 1 + 1 = g := ⟨_, rfl⟩
    have HNE : Hid (gb ≠ ge) := Lib.hid (by omega)
    have HGB : Hid (w.heap.size ≤ gb) := Lib.hid (by omega)
    have HGE : Hid (w.heap.size ≤ ge) := Lib.hid (by omega)
    have HGQ : Hid (w.heap.size ≤ q) := Lib.hid (by omega)
    rw [hqe] at hq0 ⊢
    rw [hgee] at hq0 hb0 ⊢
    rw [hgbe] at he0 hq0 ⊢
    clear hqe hgee hgbe hmk
    go_wp2
    go_loopw [13] (fun i wr => ∃ k : Nat, k ≤ p ∧ i = .int .i64 k ∧ Hid (∃ v, wr.heap[q]? = some (.cells #[v, .slice (some ⟨gb, 0, none⟩) t t, .slice (some ⟨ge, 0, none⟩) t t, .int .i64 0] 115 (0, 0)) ∧
      wr.heap[gb]? = some (.cells (bools (List.replicate t false)).toArray 4 (0, 0)) ∧ wr.heap[ge]? = some (.cells (bools (List.replicate t false)).toArray 4 (0, 0)) ∧ Kd.R (Kd.int .i64) 3 wr w.heap.size (fun _ => True) v (List.replicate k (-1))) ∧ Hid (Below w.heap.size w wr)) (fun i _ => p - (intOf i).toNat)
    case atStart => exact ⟨0, Nat.zero_le _, rfl, ⟨_, hq0, hb0, he0, Kd.R_nil _ _ _ _ _⟩, HB0⟩
    case round =>
      obtain ⟨k, hk, rfl, HI, HB⟩ := hrel
      obtain ⟨v, hq, hb, he, hR⟩ := HI.out
      by_cases hlt : k < p
      · have hi1 : (k : Int) < (p : Int) := by omega
        have f0 : wr.cell? ⟨q, 0, none⟩ = some v := blk_cell hq 0
        have z0 : wr.frozen? ⟨q, 0, none⟩ = false := blk_frozen hq 0
        have HQ := Lib.hid hq
        have HG := Lib.hid hb
        have HE := Lib.hid he
        have HR := Lib.hid hR
        clear hq hb he hR HI
        go_wp2_with (at_builtin; refine Kd.R_append (Kd.int .i64) (w0 := w) (W := wr) w.heap.size rfl (.tmp 19) (.tmp 20) 113 3 _ 8 rfl Try.underlying113 info3 rfl (by decide) (by decide) _ (List.replicate k (-1)) (-1) [.int .i64 (-1)] (fun _ => True) (fun _ => False) rfl rfl rfl (fun _ h => h.elim) (fun _ _ => trivial) HR.out HB.out HB.out.size (by simp; omega) ?_; intro v1 w1 hR1 hB1 hg1 _; rw [← List.replicate_succ'] at hR1; obtain ⟨A1, c1, rfl, -, -⟩ := Kd.R_reads hR1; rw [List.length_replicate] at hR1; have hq1 := blk_grown HQ.out hg1 (Kd.R_ne HR.out HQ.out (by decide)); have f1 : w1.cell? ⟨q, 0, none⟩ = some v := blk_cell hq1 0; have z1 : w1.frozen? ⟨q, 0, none⟩ = false := blk_frozen hq1 0; have HQ1 := Lib.hid hq1; have HG1 := Lib.hid hg1; have HR1 := Lib.hid hR1; have HB1 := Lib.hid hB1; clear hq1 hg1 hR1 hB1 f0 z0)
        go_roundw
        case rel => exact ⟨k + 1, by omega, by go_num, ⟨_, by simpa using blk_set HQ1.out 0 (.slice A1 (k + 1) c1), blk_set_ne (blk_grown HG.out HG1.out (Kd.R_ne HR.out HG.out (by decide))) (blk_ne HQ1.out (blk_grown HG.out HG1.out (Kd.R_ne HR.out HG.out (by decide))) (by decide)) _, blk_set_ne (blk_grown HE.out HG1.out (Kd.R_ne HR.out HE.out (by decide))) (blk_ne HQ1.out (blk_grown HE.out HG1.out (Kd.R_ne HR.out HE.out (by decide))) (by decide)) _, Kd.R_set HR1.out HQ1.out (by decide) 0 _⟩, HB1.out.setCell HGQ.out _⟩
        case measure => simp [intOf]; omega
      · go_wp2
        go_ret
        obtain rfl : k = p := by omega
        refine ⟨_, rfl, ⟨v, gb, ge, ?_, hb, he, HNE.out, HGQ.out, HGB.out, HGE.out, hR⟩, HB.out⟩
        simpa using hq
end Go.Proofs.Ytepceelkfbjamaa
