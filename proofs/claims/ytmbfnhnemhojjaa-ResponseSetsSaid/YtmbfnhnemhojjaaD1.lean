/- The default table; the chapter's example. -/
import Derived.Test.YtmbfnhnemhojjaaC6
namespace Go.Proofs.Ytmbfnhnemhojjaa
set_option linter.unusedVariables false
set_option linter.unusedSimpArgs false
open Go.RowKit Go.Proofs.YtmbfnhnemhojjaaW.PrintWords Go.Proofs.YtmbfnhnemhojjaaW.PrintLast Go.Proofs.YtmbfnhnemhojjaaW.PrintMore PResponseCosts FLib
attribute [local go_sem ↓] hold_cells hold_from
attribute [local go_sem] below_alloc_T below_drew_T below_drewN_T run_box run_box2 run_box6 run_boxAt

def defT : Tab := ⟨4, 1, [3, 3, 3, 2, 2, 2, 2, 2, 2, 2, 2, 2, 2, 2, 2, 2, 2, 2, 2, 2, 2, 2, 8, 1]⟩
def darr : Nat → Array Value
  | 0 => #[.int .i64 4, .int .i64 1, .int .i64 0, .int .i64 0, .int .i64 0, .int .i64 0, .int .i64 0, .int .i64 0, .int .i64 0, .int .i64 0, .int .i64 0, .int .i64 0, .int .i64 0, .int .i64 0, .int .i64 0, .int .i64 0, .int .i64 0, .int .i64 0, .int .i64 0, .int .i64 0, .int .i64 0, .int .i64 0, .int .i64 0, .int .i64 0, .int .i64 0, .int .i64 0]
  | k + 1 => (darr k).setIfInBounds (2 + k) (.int .i64 2)
theorem darr_size (k : Nat) : (darr k).size = 26 := by
  induction k with
  | zero => rfl
  | succ k ih => simp [darr, ih]
theorem darr_at {k : Nat} (h : k < 24) : ∃ u, (darr k)[2 + k]? = some u := ⟨_, Array.getElem?_eq_getElem (by rw [darr_size]; omega)⟩
def darrF : Array Value := (((((darr 24).setIfInBounds 2 (.int .i64 3)).setIfInBounds 3 (.int .i64 3)).setIfInBounds 4 (.int .i64 3)).setIfInBounds 24 (.int .i64 8)).setIfInBounds 25 (.int .i64 1)
theorem darrF_eq : darrF = (tabCells defT).toArray := by kernel_rfl

theorem there_new2 (w : World) (o : Obj) (zs : Array Value) (ty n : Nat) (h : zs.size = n) : ((w.alloc o).alloc (.cells zs ty)).there (w.heap.size + 1) 0 n :=
  WholeBlk.there ⟨zs, ty, by simpa using blk_new (w.alloc o) (.cells zs ty), h⟩
theorem blk_set_far {w : World} {g g' : Nat} {o : Obj} (h : w.heap[g]? = some o) (hne : g ≠ g') (i : Nat) (u : Value) : (w.setCell ⟨g', i, none⟩ u).heap[g]? = some o := (Below.heap_setCell w ⟨g', i, none⟩ u g hne).trans h
theorem cells_of {w : World} {g ty : Nat} {cs : Array Value} {l : List Value} (h : w.heap[g]? = some (.cells cs ty (0, 0))) (e : cs = l.toArray) : ∀ j v, l[j]? = some v → w.cell? ((⟨g, 0, none⟩ : Addr).add j) = some v := fun j v hv => by
  rw [add_plain, blk_cell h, e]
  simpa using hv
structure DefS (w : World) (g0 g1 : Nat) (cs : Array Value) (W : World) : Prop where
  low : Below w.heap.size w W
  res : WholeBlk W g0 26
  tab : W.heap[g1]? = some (.cells cs 24 (0, 0))
theorem DefS.set {w : World} {g0 g1 : Nat} {cs : Array Value} {W : World} (h : DefS w g0 g1 cs W) (hg : w.heap.size ≤ g1) (hne : g0 ≠ g1) (i : Nat) (v : Value) : DefS w g0 g1 (cs.setIfInBounds i v) (W.setCell ⟨g1, i, none⟩ v) := by
  obtain ⟨zs, ty, h1, h2⟩ := h.res
  exact ⟨h.low.setCell hg v, ⟨zs, ty, blk_set_far h1 hne _ _, h2⟩, blk_set h.tab i v⟩
set_option maxRecDepth 100000 in
set_option maxHeartbeats 1000000 in
theorem default_any (w : World) : Calls Try.prog 34 #[] w fun e w' => e = .returned (tabV defT) ∧ Below w.heap.size w w' := by
  go_enter Try.func34, Try.ntmps34
  go_wp2_with (refine gate_ (.store 24 (.tmp 1) (.tmp 3)) rfl ?_; refine wpList_store_mid rfl 24 (.tmp 1) (.tmp 3) rfl (w.heap.size + 1) 0 (darr 0) (by rfl) (by rfl) (there_new2 w _ _ 24 _ rfl) (by kernel_rfl) (by kernel_rfl) ?_)
  refine abs_w (DefS w w.heap.size (w.heap.size + 1) (darr 0)) ?_ ?_
  · refine ⟨below_setCells (below_alloc (below_alloc (Below.refl _ _) _) _) (by omega) _ _, ?_, ?_⟩
    · exact ⟨_, 24, (setCells_far _ 0 _ (by omega)).trans (blk_alloc (blk_new w _) _), rfl⟩
    · have h := blk_new (w.alloc (.cells #[.int .i64 0, .int .i64 0, .int .i64 0, .int .i64 0, .int .i64 0, .int .i64 0, .int .i64 0, .int .i64 0, .int .i64 0, .int .i64 0, .int .i64 0, .int .i64 0, .int .i64 0, .int .i64 0, .int .i64 0, .int .i64 0, .int .i64 0, .int .i64 0, .int .i64 0, .int .i64 0, .int .i64 0, .int .i64 0, .int .i64 0, .int .i64 0, .int .i64 0, .int .i64 0] 24)) (.cells #[.int .i64 0, .int .i64 0, .int .i64 0, .int .i64 0, .int .i64 0, .int .i64 0, .int .i64 0, .int .i64 0, .int .i64 0, .int .i64 0, .int .i64 0, .int .i64 0, .int .i64 0, .int .i64 0, .int .i64 0, .int .i64 0, .int .i64 0, .int .i64 0, .int .i64 0, .int .i64 0, .int .i64 0, .int .i64 0, .int .i64 0, .int .i64 0, .int .i64 0, .int .i64 0] 24)
      rw [show ∀ o, (w.alloc o).heap.size = w.heap.size + 1 from fun o => by simp] at h
      exact blk_setCells h rfl
  rintro W hS
  have HS := Lib.hid hS
  obtain ⟨g0, hg0⟩ : ∃ g, w.heap.size = g := ⟨_, rfl⟩
  obtain ⟨g1, hg1⟩ : ∃ g, w.heap.size + 1 = g := ⟨_, rfl⟩
  have HG1 := Lib.hid (show w.heap.size ≤ g1 by omega)
  have HG0 := Lib.hid (show w.heap.size ≤ g0 by omega)
  have HNE := Lib.hid (show g0 ≠ g1 by omega)
  rw [hg1, hg0] at HS
  rw [hg1, hg0]
  clear hS hg0 hg1
  go_loopw [4] (fun i wr => ∃ k : Nat, k ≤ 24 ∧ i = .int .i64 k ∧ Hid (DefS w g0 g1 (darr k) wr)) (fun i _ => 24 - (intOf i).toNat)
  case atStart => exact ⟨0, Nat.zero_le _, rfl, HS⟩
  case round =>
    obtain ⟨k, hk, rfl, HD⟩ := hrel
    by_cases hlt : k < 24
    · obtain ⟨u, hu⟩ := darr_at hlt
      have c0 := (blk_cell HD.out.tab (2 + k)).trans hu
      have f0 := blk_frozen HD.out.tab (2 + k)
      have hi0 : (0 : Int) ≤ (k : Int) := by omega
      have hi1 : (k : Int) < 24 := by omega
      clear hu
      go_wp2
      go_roundw
      case rel => exact ⟨k + 1, by omega, by go_num, Lib.hid (HD.out.set HG1.out HNE.out (2 + k) (.int .i64 2))⟩
      case measure => simp [intOf]; omega
    · obtain rfl : k = 24 := by omega
      have h := HD.out.tab
      have c2 : wr.cell? ⟨g1, 2, none⟩ = some (.int .i64 2) := (blk_cell h 2).trans (by kernel_rfl)
      have c3 : wr.cell? ⟨g1, 3, none⟩ = some (.int .i64 2) := (blk_cell h 3).trans (by kernel_rfl)
      have c4 : wr.cell? ⟨g1, 4, none⟩ = some (.int .i64 2) := (blk_cell h 4).trans (by kernel_rfl)
      have c24 : wr.cell? ⟨g1, 24, none⟩ = some (.int .i64 2) := (blk_cell h 24).trans (by kernel_rfl)
      have c25 : wr.cell? ⟨g1, 25, none⟩ = some (.int .i64 2) := (blk_cell h 25).trans (by kernel_rfl)
      have f2 := blk_frozen h 2
      have f3 := blk_frozen h 3
      have f4 := blk_frozen h 4
      have f24 := blk_frozen h 24
      have f25 := blk_frozen h 25
      have D5 : Hid (DefS w g0 g1 darrF _) := Lib.hid (((((HD.out.set HG1.out HNE.out 2 (.int .i64 3)).set HG1.out HNE.out 3 (.int .i64 3)).set HG1.out HNE.out 4 (.int .i64 3)).set HG1.out HNE.out 24 (.int .i64 8)).set HG1.out HNE.out 25 (.int .i64 1))
      clear h
      go_wp2_with (first
        | (refine gate_ (.load 24 (.tmp 1)) rfl ?_; refine wpList_load_at rfl 24 (.tmp 1) rfl ⟨g1, 0, none⟩ (by rfl) (tabCells defT) (cells_of D5.out.tab darrF_eq) _ Try.underlying24 rfl (by kernel_rfl) ?_)
        | (refine gate_ (.store 24 (.tmp 0) (.tmp 21)) rfl ?_; refine wpList_store_mid rfl 24 (.tmp 0) (.tmp 21) rfl g0 0 (tabCells defT).toArray (by rfl) (by rfl) D5.out.res.there (by kernel_rfl) (by kernel_rfl) ?_))
      have hrr := run_setWhole (P := Try.prog) (n := 26) (vs := tabCells defT) (g := g0) D5.out.res rfl
      refine bodyPost_ret (v := tabV defT) (by simp [results, Try.results34, go_sem, hrr, tabV]) rfl ?_
      exact ⟨rfl, below_setCells D5.out.low HG0.out _ _⟩
end Go.Proofs.Ytmbfnhnemhojjaa
