/- Ranges: the sort of spans. -/
import Derived.Test.YtoolflmaaooplaaB5
import Derived.Test.YtoolflmaaooplaaLayS
namespace Go.Proofs.Ytoolflmaaooplaa
set_option linter.unusedVariables false
set_option linter.unusedSimpArgs false
open Go.RowKit Go.Maps Go.Sort Go.Lib Go.Shelf Go.Proofs.YtoolflmaaooplaaW.PrintWords Go.Proofs.YtoolflmaaooplaaW.PrintLast Go.Proofs.YtoolflmaaooplaaW.PrintMore FLib
attribute [local go_sem] below_alloc_T below_drew_T below_drewN_T

def cmpS (x y : Sp) : Int := cmpI x.lo y.lo
theorem ltS (x y : Sp) : ltOf cmpS x y = decide (x.lo < y.lo) := by
  unfold ltOf cmpS cmpI
  by_cases h1 : x.lo < y.lo
  · simp [h1]
  · by_cases h2 : y.lo < x.lo <;> simp [h1, h2]
theorem swoS : SWO (ltOf cmpS) where
  irrefl x := by rw [ltS]; simp
  trans x y z h1 h2 := by rw [ltS] at *; simp at *; omega
  ntrans x y z h1 h2 := by rw [ltS] at *; simp at *; omega
theorem isAgg71 (w : World) : (isAgg 71).run Try.prog w = .ok true w := by kernel_rfl
theorem sizeOf71 (w : World) : (Go.sizeOf 71).run Try.prog w = .ok 3 w := by kernel_rfl
theorem cmpLays (blk off size : Nat) (w : World) : CmpLays Try.prog 62 #[] Sp.cells 3 cmpS blk off size w :=
  fun m os dk _ x y => (cmps_any x y _).mono fun e w' h => ⟨h.1, 0, #[.cells x.cells.toArray 71] ++ #[.cells y.cells.toArray 71], by obtain ⟨-, rfl⟩ := h; rw [alloc_eq_grow, alloc_eq_grow, grow_grow]; rfl⟩
theorem flatK_at (l : List Sp) (i j : Nat) (hi : i < l.length) (hj : j < 3) : (flatK Sp.cells 3 l.toArray)[i * 3 + j]! = (l[i]).cells[j]! := by
  rw [get_flatK _ _ _ _ (by simp; omega)]
  have e1 : (i * 3 + j) / 3 = i := by omega
  have e2 : (i * 3 + j) % 3 = j := by omega
  rw [e1, e2]
  congr 1
  simp [hi]
theorem holds_row {w : World} {base g c : Nat} {l : List Sp} (h : w.ownsRow base 71 3 (.slice (some ⟨g, 0, none⟩) l.length c) l.length (sflat l)) : HoldsK Sp.cells 3 w g 0 l.toArray := by
  rcases h.2 with ⟨h2, -⟩ | ⟨g', c', cur, h1, -, h3, -⟩
  · cases h2
  · cases h1
    intro t ht
    have ht' : t < l.length * 3 := by simpa using ht
    obtain ⟨i, j, hj, rfl⟩ : ∃ i j, j < 3 ∧ t = i * 3 + j := ⟨t / 3, t % 3, by omega, by omega⟩
    have hi : i < l.length := by omega
    refine ⟨?_, blk_frozen h3 _⟩
    obtain ⟨p0, p1, p2⟩ := row_sp h (List.getElem?_eq_getElem hi)
    rw [Nat.zero_add]
    show _ = some (id _)
    rw [flatK_at l i j hi hj]
    have : j = 0 ∨ j = 1 ∨ j = 2 := by omega
    rcases this with rfl | rfl | rfl
    · exact p0
    · exact p1
    · exact p2
theorem mapBlock_other (w : World) (blk b : Nat) (f : Array Value → Array Value) (h : b ≠ blk) : (mapBlock w blk f).heap[b]? = w.heap[b]? := by
  unfold mapBlock
  simp [Array.getElem?_modify, Ne.symm h]
theorem keeps_sorted (w : World) (g n : Nat) (d : Array Sp) (os : Array Obj) : Keeps w (sortWorldK Sp.cells 3 w g 0 n d os) (fun b => b = g) := by
  refine ⟨rfl, rfl, rfl, ?_, fun b hb hg => ?_⟩
  · simp [sortWorldK, grow, putRowK, putRow, mapBlock, Sort.ahead]
  · have h1 : ((putRowK Sp.cells 3 (Sort.ahead w n) g 0 d).heap ++ os)[b]? = (putRowK Sp.cells 3 (Sort.ahead w n) g 0 d).heap[b]? := Array.getElem?_append_left (by simpa [putRowK, putRow, mapBlock, Sort.ahead] using hb)
    exact h1.trans (mapBlock_other _ _ _ _ hg)
theorem perm_list {l : List Sp} {d' : Array Sp} (h : PermIn 0 l.toArray.size l.toArray d') : d'.toList.Perm l ∧ d'.size = l.length := by
  obtain ⟨h1, -, h3⟩ := h
  have h1' : d'.size = l.length := by simpa using h1
  have e1 : d'.extract 0 l.toArray.size = d' := by rw [List.size_toArray, ← h1']; simp
  have e2 : l.toArray.extract 0 l.toArray.size = l.toArray := by simp
  rw [e1, e2] at h3
  exact ⟨by simpa using h3, h1'⟩
/-- The row's cells, each element's at its place. -/
def CellsAt (w : World) (g : Nat) (l : List Sp) : Prop := ∀ (k : Nat) (s : Sp), l[k]? = some s → w.cell? ⟨g, k * 3, none⟩ = some (.int .i64 s.lo) ∧ w.cell? ⟨g, k * 3 + 1, none⟩ = some (.int .i64 s.hi) ∧ w.cell? ⟨g, k * 3 + 2, none⟩ = some (.bool s.ex)
theorem sort_any (base g c : Nat) (l : List Sp) (hl : l.length ≤ 100000) (w : World) (h : w.ownsRow base 71 3 (.slice (some ⟨g, 0, none⟩) l.length c) l.length (sflat l)) :
    Calls Try.prog 61 #[.slice (some ⟨g, 0, none⟩) l.length c, .func (.func 62) #[] #[]] w fun e w' => e = .returned (.tuple #[]) ∧ ∃ l' : List Sp, l'.Perm l ∧ l'.Pairwise (fun a b => ¬ b.lo < a.lo) ∧ CellsAt w' g l' ∧ Keeps w w' (fun b => b = g) := by
  have hg : g < w.heap.size := row_lt h rfl
  have hH := holds_row h
  have eg : ∀ args w, (callFunc 62 args).run Try.prog w = .ok (.enter 62 args) w := enters_of Try.func62 (by kernel_rfl) rfl
  have hcon := AnyQ.slices_SortFunc laySpans 3 isAgg71 sizeOf71 Sp.cells (fun _ => rfl) (fun x v hv => by simp [Sp.cells] at hv; rcases hv with rfl | rfl | rfl <;> rfl) cmpS swoS 62 #[] g 0 c l.toArray w eg (cmpLays g 0 _ w) hH hg (by simp; omega)
  change Calls Try.prog 61 _ _ _ at hcon
  rw [List.size_toArray] at hcon
  refine hcon.mono ?_
  rintro e w' ⟨rfl, d', n, os, hp, hs, rfl⟩
  obtain ⟨hpl, hsz⟩ := perm_list (l := l) (by simpa using hp)
  refine ⟨rfl, d'.toList, hpl, ?_, ?_, keeps_sorted _ _ _ _ _⟩
  · rw [List.pairwise_iff_getElem]
    intro i j hi hj hij hlt
    have hj' : j < l.length := by simpa [hsz] using hj
    have := hs i j (Nat.zero_le _) hij (by simpa using hj')
    rw [ltS] at this
    have e1 : d'[j]! = d'.toList[j] := by simp at hj; simp [hj]
    have e2 : d'[i]! = d'.toList[i] := by simp at hi; simp [hi]
    rw [e1, e2] at this
    exact of_decide_eq_false this hlt
  · have hK := holdsK_sortWorldK_c Sp.cells 3 w g 0 l.toArray d' n os hH hg (by simpa using hsz)
    intro k s hk
    have hk' : k < d'.size := by have := (List.getElem?_eq_some_iff.1 hk).1; simpa using this
    have es : d'[k]! = s := by
      have := (List.getElem?_eq_some_iff.1 hk).2
      simp [hk']; simpa using this
    have key := fun (c : Nat) (v : Value) (hv : s.cells[c]? = some v) => HoldsK.cells hK (fun _ => rfl) hk' c v (by rw [es]; exact hv)
    have k0 := key 0 _ rfl
    have k1 := key 1 _ rfl
    have k2 := key 2 _ rfl
    rw [addmk] at k0 k1 k2
    rw [Nat.zero_add] at k0 k1 k2
    exact ⟨k0, k1, k2⟩
end Go.Proofs.Ytoolflmaaooplaa
