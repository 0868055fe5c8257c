/- The index checked: at. -/
import Derived.Test.YtmbfnhnemhojjaaB2
namespace Go.Proofs.Ytmbfnhnemhojjaa
set_option linter.unusedVariables false
set_option linter.unusedSimpArgs false
open Go.RowKit Go.Proofs.YtmbfnhnemhojjaaW.PrintWords Go.Proofs.YtmbfnhnemhojjaaW.PrintLast Go.Proofs.YtmbfnhnemhojjaaW.PrintMore PResponseCosts FLib

theorem array26 {cs : Array Value} (h : cs.size = 26) : ∃ c0 c1 c2 c3 c4 c5 c6 c7 c8 c9 c10 c11 c12 c13 c14 c15 c16 c17 c18 c19 c20 c21 c22 c23 c24 c25 : Value, cs = #[c0, c1, c2, c3, c4, c5, c6, c7, c8, c9, c10, c11, c12, c13, c14, c15, c16, c17, c18, c19, c20, c21, c22, c23, c24, c25] := by
  obtain ⟨l⟩ := cs
  match l, h with
  | [c0, c1, c2, c3, c4, c5, c6, c7, c8, c9, c10, c11, c12, c13, c14, c15, c16, c17, c18, c19, c20, c21, c22, c23, c24, c25], _ => exact ⟨c0, c1, c2, c3, c4, c5, c6, c7, c8, c9, c10, c11, c12, c13, c14, c15, c16, c17, c18, c19, c20, c21, c22, c23, c24, c25, rfl⟩

/-- A struct of many cells is built: one word, taken by a fact. -/
def HeldBuild (t : TypeId) (parts : Array (Nat × Value)) : Sem Value := Instr.build t parts
theorem hold_build69 (parts : Array (Nat × Value)) : Instr.build 69 parts = HeldBuild 69 parts := rfl
def HeldStore (t : TypeId) (a : Addr) (v : Value) : Sem Unit := storeVar t a v
theorem hold_store69 (a : Addr) (v : Value) : storeVar 69 a v = HeldStore 69 a v := rfl
theorem run_zero69 (w : World) : (HeldBuild 69 #[]).run Try.prog w = .ok (.agg #[.int .i64 0, .int .i64 0, .int .i64 0, .int .i64 0, .int .i64 0, .int .i64 0, .int .i64 0, .int .i64 0, .int .i64 0, .int .i64 0, .int .i64 0, .int .i64 0, .int .i64 0, .int .i64 0, .int .i64 0, .int .i64 0, .int .i64 0, .int .i64 0, .int .i64 0, .int .i64 0, .int .i64 0, .int .i64 0, .int .i64 0, .int .i64 0, .int .i64 0, .int .i64 0, .slice none 0 0]) w := by kernel_rfl
theorem run_build69 {cs : Array Value} (h : cs.size = 26) (A : Option Addr) (n c : Nat) (w : World) : (HeldBuild 69 #[(0, .agg cs), (1, .slice A n c)]).run Try.prog w = .ok (.agg (cs.push (.slice A n c))) w := by
  obtain ⟨c0, c1, c2, c3, c4, c5, c6, c7, c8, c9, c10, c11, c12, c13, c14, c15, c16, c17, c18, c19, c20, c21, c22, c23, c24, c25, rfl⟩ := array26 h
  kernel_rfl
theorem setCells_alloc {W : World} {ty : Nat} : ∀ (vs : List Value) (o : Nat) (zs : Array Value), o + vs.length ≤ zs.size →
    ∃ zs' : Array Value, (W.alloc (.cells zs ty)).setCells W.heap.size o vs = W.alloc (.cells zs' ty) ∧ zs'.toList = zs.toList.take o ++ vs ++ zs.toList.drop (o + vs.length)
  | [], o, zs, _ => ⟨zs, rfl, by simp⟩
  | v :: r, o, zs, h => by
    simp only [List.length_cons] at h
    obtain ⟨zs', h1, h2⟩ := setCells_alloc (W := W) (ty := ty) r (o + 1) (zs.setIfInBounds o v) (by simp; omega)
    refine ⟨zs', ?_, ?_⟩
    · rw [World.setCells, World.setCell_alloc_new, h1]
    · rw [h2, Array.toList_setIfInBounds]
      have ho : o < zs.toList.length := by rw [Array.length_toList]; omega
      rw [List.take_set, List.drop_set_of_lt (by omega)]
      simp only [List.length_cons]
      rw [show o + 1 + r.length = o + (r.length + 1) by omega]
      congr 1
      rw [List.take_add_one, List.getElem?_eq_getElem ho]
      simp only [Option.toList]
      rw [List.set_append_right _ _ (by simp; omega)]
      have hm : min o zs.size = o := Nat.min_eq_left (by rw [Array.length_toList] at ho; omega)
      simp [hm]
/-- The cells of a whole variable that has just been made are stored. -/
theorem run_storeAll {P : Program} {W : World} {cs zs : Array Value} {ty : Nat} (hz : zs.size = cs.size) (h1 : cs.all (·.oneCell') = true) : (storeCells ⟨W.heap.size, 0, none⟩ cs.toList 0).run P (W.alloc (.cells zs ty)) = .ok () (W.alloc (.cells cs ty)) := by
  have h2 := run_storeCells_cells (P := P) W.heap.size 0 cs.toList 0 (W.alloc (.cells zs ty)) (fun j hj => by
    rw [blk_cell (blk_new W (.cells zs ty))]
    rw [Array.length_toList] at hj
    rw [Array.getElem?_eq_getElem (show 0 + 0 + j < zs.size by omega)]
    rfl) (fun j _ => blk_frozen (blk_new W (.cells zs ty)) _)
    (fun v hv => (Array.all_eq_true_iff_forall_mem.1 h1) v (by simpa using hv))
  obtain ⟨zs', h3, h4⟩ := setCells_alloc (W := W) (ty := ty) cs.toList 0 zs (by simp [hz])
  simp only [Nat.add_zero] at h2
  rw [h2, h3]
  have h5 : zs' = cs := by
    apply Array.ext'
    rw [h4]
    simp [hz]
  rw [h5]
/-- A block of n cells. -/
def WholeBlk (w : World) (g n : Nat) : Prop := ∃ zs : Array Value, ∃ ty, w.heap[g]? = some (.cells zs ty (0, 0)) ∧ zs.size = n
theorem run_storeWhole {P : Program} {w : World} {g : Nat} {vs : List Value} (h : WholeBlk w g vs.length) (h1 : vs.all (·.oneCell') = true) : (storeCells ⟨g, 0, none⟩ vs 0).run P w = .ok () (w.setCells g 0 vs) := by
  obtain ⟨zs, ty, hb, hz⟩ := h
  have h2 := run_storeCells_cells (P := P) g 0 vs 0 w (fun j hj => by
    rw [blk_cell hb, Array.getElem?_eq_getElem (show 0 + 0 + j < zs.size by omega)]
    rfl) (fun j _ => blk_frozen hb _) (fun v hv => List.all_eq_true.1 h1 v hv)
  simpa using h2
theorem WholeBlk.there {w : World} {g n : Nat} (h : WholeBlk w g n) : w.there g 0 n := by
  obtain ⟨zs, ty, hb, hz⟩ := h
  intro j hj
  rw [blk_cell hb, blk_frozen hb, Array.getElem?_eq_getElem (show 0 + j < zs.size by omega)]
  exact ⟨rfl, rfl⟩
theorem blk_setCells {w : World} {g ty : Nat} {vs : List Value} {zs : Array Value} (hb : w.heap[g]? = some (.cells zs ty (0, 0))) (hz : zs.size = vs.length) : (w.setCells g 0 vs).heap[g]? = some (.cells vs.toArray ty (0, 0)) := by
  obtain ⟨cur, h1, h2, h3⟩ := setCells_row vs 0 w zs hb (by omega)
  rw [h1]
  have : cur = vs.toArray := by
    apply Array.ext'
    rw [h3]
    simp [hz]
  rw [this]
theorem run_setWhole {P : Program} {w : World} {g n : Nat} {vs : List Value} (h : WholeBlk w g vs.length) (hn : vs.length = n) : RunCells P ⟨g, 0, none⟩ n (w.setCells g 0 vs) = .ok vs.toArray (w.setCells g 0 vs) := by
  obtain ⟨zs, ty, hb, hz⟩ := h
  exact runCells_blk (blk_setCells hb hz) (by simpa using hn)
theorem below_setCells {B : Nat} {a w : World} {g : Nat} (h : Below B a w) (hg : B ≤ g) (vs : List Value) (o : Nat) : Below B a (w.setCells g o vs) := by
  obtain ⟨h1, h2, h3, h4⟩ := setCells_same g vs o w
  exact ⟨h1.trans h.os, h2.trans h.tape, h3.trans h.output, by rw [h4]; exact h.size, fun k hk => (setCells_far vs o k (by omega)).trans (h.block k hk)⟩
attribute [local go_sem ↓] hold_build69 hold_store69
attribute [local go_sem] run_zero69
attribute [local go_sem] run_setWhole
attribute [local go_sem ↓] hold_cells hold_from
attribute [local go_sem] below_alloc_T below_drew_T below_drewN_T run_box run_box2

/-- What holds between at's begin and its end. -/
structure AtS (w : World) (q g : Nat) (cs : Array Value) (w' : World) : Prop where
  low : Below w.heap.size w w'
  box : w'.heap[q]? = some (.cells cs 24 (0, 0))
  whole : WholeBlk w' g 27
theorem AtS.call {w : World} {q g : Nat} {cs : Array Value} {w1 w2 : World} (h : AtS w q g cs w1) (hb : Below w1.heap.size w1 w2) : AtS w q g cs w2 := by
  obtain ⟨zs, ty, h1, h2⟩ := h.whole
  exact ⟨below_step h.low hb, blk_below h.box hb, zs, ty, blk_below h1 hb, h2⟩
theorem AtS.store {w : World} {q g : Nat} {cs : Array Value} {w1 : World} (h : AtS w q g cs w1) (hq : q ≠ g) (hg : w.heap.size ≤ g) {vs : List Value} (hl : vs.length = 27) : AtS w q g cs (w1.setCells g 0 vs) := by
  obtain ⟨zs, ty, h1, h2⟩ := h.whole
  exact ⟨below_setCells h.low hg vs 0, (setCells_far vs 0 q hq).trans h.box, vs.toArray, ty, blk_setCells h1 (by omega), by simpa using hl⟩
theorem AtS.run {w : World} {q g : Nat} {cs : Array Value} (h26 : cs.size = 26) (h1 : cs.all (·.oneCell') = true) (A : Option Addr) (n c : Nat) : ∀ w1, AtS w q g cs w1 → (HeldStore 69 ⟨g, 0, none⟩ (.agg (cs.push (.slice A n c)))).run Try.prog w1 = .ok () (w1.setCells g 0 (cs.push (.slice A n c)).toList) := fun w1 h =>
  run_storeVar_mid w1 g 0 69 _ (by rw [Array.size_push, h26]; exact h.whole.there) (by rw [Array.size_push, h26]; kernel_rfl) (by rw [Array.all_push, h1]; rfl)
theorem AtS.made (w : World) (cs zs : Array Value) (hz : zs.size = 27) : AtS w w.heap.size (w.heap.size + 1) cs ((w.alloc (.cells cs 24)).alloc (.cells zs 69)) :=
  ⟨below_alloc (below_alloc (Below.refl _ _) _) _, blk_alloc (blk_new _ _) _, zs, 69, by simpa using blk_new (w.alloc (.cells cs 24)) (.cells zs 69), hz⟩
def z27 : Array Value := #[.int .i64 0, .int .i64 0, .int .i64 0, .int .i64 0, .int .i64 0, .int .i64 0, .int .i64 0, .int .i64 0, .int .i64 0, .int .i64 0, .int .i64 0, .int .i64 0, .int .i64 0, .int .i64 0, .int .i64 0, .int .i64 0, .int .i64 0, .int .i64 0, .int .i64 0, .int .i64 0, .int .i64 0, .int .i64 0, .int .i64 0, .int .i64 0, .int .i64 0, .int .i64 0, .slice none 0 0]
def atI (t : Tab) (l : List S33) (i : Int) : Int := if chkI t l = 0 then (if i < 0 ∨ (l.length : Int) ≤ i then 34 else 0) else chkI t l
/-- What at returns. -/
def AtPost (t : Tab) (l : List S33) (i : Int) (w : World) (e : Ending) (w' : World) : Prop :=
  ∃ cs : Array Value, e = .returned (.tuple #[.agg cs, .int .i64 (atI t l i)]) ∧ cs.size = 27 ∧ cs.all (·.oneCell') = true ∧ Below w.heap.size w w' ∧
    (atI t l i = 0 → ∃ A c, AnaC cs t (.slice A l.length c) ∧ Kd.R k33 33 w' w.heap.size (fun _ => True) (.slice A l.length c) l)

set_option maxRecDepth 100000 in
set_option maxHeartbeats 400000 in
theorem at_any (t : Tab) (ht : t.costs.length = 24) (A : Option Addr) (c : Nat) (l : List S33) (i : Int) (w : World) (hC : Kd.C k33 w A l.length l) :
    Calls Try.prog 35 #[tabV t, .slice A l.length c, .int .i64 i] w (AtPost t l i w) := by
  have HT := Lib.hid (check_any t ht A c l)
  have HCL := Lib.hid (clone_any A c l)
  have HOK := Lib.hid (fun h => chk_ok (l := l) ht h)
  have HTC := Lib.hid (tabC ht)
  have HC := Lib.hid hC
  have hsz := tcells_len ht
  unfold tabV at HT ⊢
  generalize (tabCells t).toArray = cs at HT HTC hsz ⊢
  have HE := Lib.hid (show atI t l i = if chkI t l = 0 then (if i < 0 ∨ (l.length : Int) ≤ i then 34 else 0) else chkI t l from rfl)
  clear ht hC
  go_enter Try.func35, Try.ntmps35
  go_wp2_with fail
  refine (HT.out _ (Kd.C_below HC.out (below_alloc (below_alloc (Below.refl _ _) _) _))).mono ?_
  rintro e w1 ⟨rfl, hb1⟩
  have hs1 : AtS w w.heap.size (w.heap.size + 1) cs w1 := (AtS.made w cs _ rfl).call hb1
  have HS1 := Lib.hid hs1
  have HC1 := Lib.hid (Kd.C_below HC.out hs1.low)
  clear hb1 hs1
  obtain ⟨q, hq⟩ : ∃ q, w.heap.size = q := ⟨_, rfl⟩
  obtain ⟨g, hg⟩ : ∃ g, w.heap.size + 1 = g := ⟨_, rfl⟩
  rw [hg] at HS1 ⊢
  have HG := Lib.hid hg
  have HG1 := Lib.hid (show w.heap.size ≤ g by omega)
  have HQG := Lib.hid (show w.heap.size ≠ g by omega)
  clear hq hg
  have hw1 := HS1.out.whole
  by_cases h0 : chkI t l = 0
  · have HSet := Lib.hid (HOK.out h0)
    have HE0 := Lib.hid (show atI t l i = if i < 0 ∨ (l.length : Int) ≤ i then 34 else 0 by rw [HE.out, if_pos h0])
    rw [h0]
    clear h0
    by_cases hi : i < 0
    · have HEE := Lib.hid (show atI t l i = 34 by rw [HE0.out, if_pos (.inl hi)])
      go_wp2_with (refine gate_ (.store 69 (.tmp 6) (.tmp 24)) rfl ?_; refine wpList_store_mid rfl 69 (.tmp 6) (.tmp 24) rfl g 0 z27 (by rfl) (by rfl) hw1.there (by kernel_rfl) (by kernel_rfl) ?_)
      have hrr : RunCells Try.prog ⟨g, 0, none⟩ 27 (w1.setCells g 0 z27.toList) = .ok z27 (w1.setCells g 0 z27.toList) := run_setWhole hw1 rfl
      refine bodyPost_ret (v := .tuple #[.agg z27, .int .i64 34]) (by simp [results, Try.results35, go_sem, hrr]) rfl ?_
      exact ⟨z27, by rw [HEE.out], rfl, by kernel_rfl, below_setCells HS1.out.low HG1.out _ _, fun h => by rw [HEE.out] at h; cases h⟩
    by_cases hi2 : (l.length : Int) ≤ i
    · have HEE := Lib.hid (show atI t l i = 34 by rw [HE0.out, if_pos (.inr hi2)])
      go_wp2_with (refine gate_ (.store 69 (.tmp 6) (.tmp 24)) rfl ?_; refine wpList_store_mid rfl 69 (.tmp 6) (.tmp 24) rfl g 0 z27 (by rfl) (by rfl) hw1.there (by kernel_rfl) (by kernel_rfl) ?_)
      have hrr : RunCells Try.prog ⟨g, 0, none⟩ 27 (w1.setCells g 0 z27.toList) = .ok z27 (w1.setCells g 0 z27.toList) := run_setWhole hw1 rfl
      refine bodyPost_ret (v := .tuple #[.agg z27, .int .i64 34]) (by simp [results, Try.results35, go_sem, hrr]) rfl ?_
      exact ⟨z27, by rw [HEE.out], rfl, by kernel_rfl, below_setCells HS1.out.low HG1.out _ _, fun h => by rw [HEE.out] at h; cases h⟩
    have HEE := Lib.hid (show atI t l i = 0 by rw [HE0.out, if_neg (by omega)])
    go_wp2
    have hr26 : ∀ w', AtS w w.heap.size g cs w' → RunCells Try.prog ⟨w.heap.size, 0, none⟩ 26 w' = .ok cs w' := fun w' h => runCells_blk h.box hsz
    have hwb : ∀ w', AtS w w.heap.size g cs w' → WholeBlk w' g 27 := fun w' h => h.whole
    have hbld := fun A n c w => run_build69 hsz A n c w
    have hst := fun A n c => AtS.run (w := w) (q := w.heap.size) (g := g) hsz HTC.out.one A n c
    have hs1 : AtS w w.heap.size g cs w1 := HS1.out
    have HCLX := Lib.hid (HCL.out HSet.out.pos (by have := HSet.out.le; omega))
    clear hw1 
    go_region_held3 (fun w' => AtS w w.heap.size g cs w') (first | assumption | exact AtS.call (by assumption) (below_drew (Below.refl _ _)) | exact AtS.call (by assumption) hb2 | exact AtS.store (by assumption) HQG.out HG1.out (by simp [hsz]))
      (first | (go_at_call 49; refine (HCLX.out w1.drew HC1.out).mono ?_; rintro e w2 ⟨v2, rfl, hR2, hb2⟩; obtain ⟨A2, c2, rfl⟩ := Kd.R_slice hR2))
    have hs2 : AtS w w.heap.size g cs w2 := AtS.call hs1 (below_then (below_drew (Below.refl _ _)) (Nat.le_refl _) hb2)
    have hwh := hs2.whole
    have hrr : RunCells Try.prog ⟨g, 0, none⟩ 27 (w2.setCells g 0 (cs.toList ++ [.slice A2 l.length c2])) = .ok (cs.push (.slice A2 l.length c2)) (w2.setCells g 0 (cs.toList ++ [.slice A2 l.length c2])) := by
      have := run_setWhole (P := Try.prog) (n := 27) (w := w2) (g := g) (vs := cs.toList ++ [.slice A2 l.length c2]) (by simpa [hsz] using hwh) (by simp [hsz])
      have e : (cs.toList ++ [Value.slice A2 l.length c2]).toArray = cs.push (Value.slice A2 l.length c2) := by apply Array.ext'; simp
      rw [e] at this
      exact this
    have HRR := Lib.hid hrr
    clear hr26 hwb hbld hst hrr
    go_wp2
    refine bodyPost_ret (v := .tuple #[.agg (cs.push (.slice A2 l.length c2)), .int .i64 0]) (by have hrr := HRR.out; simp [results, Try.results35, go_sem, hrr]) rfl ?_
    refine ⟨_, by rw [HEE.out], by simp [hsz], by rw [Array.all_push, HTC.out.one]; rfl, below_setCells hs2.low HG1.out _ _, fun _ => ⟨A2, c2, HTC.out.ana _, ?_⟩⟩
    have hlt : g < w1.heap.size := by
      obtain ⟨zs, ty, hz, -⟩ := HS1.out.whole
      exact blk_lt hz
    refine Kd.R_lower (Kd.R_mono (Kd.R_step (Kd.R_bound hR2) (fun k hk _ => setCells_far _ 0 k ?_)) (fun _ _ => trivial)) (HS1.out.low.size)
    have := hk.2.1
    simp at this
    omega
  · have HEE := Lib.hid (show atI t l i = chkI t l by rw [HE.out, if_neg h0])
    have HNZ := Lib.hid h0
    have hd : (chkI t l != 0) = true := by simpa using h0
    clear h0
    have hcz : (chkI t l == 0) = false := by simpa using HNZ.out
    go_wp2_with (refine gate_ (.store 69 (.tmp 6) (.tmp 14)) rfl ?_; refine wpList_store_mid rfl 69 (.tmp 6) (.tmp 14) rfl g 0 z27 (by rfl) (by rfl) hw1.there (by kernel_rfl) (by kernel_rfl) ?_)
    have hrr : RunCells Try.prog ⟨g, 0, none⟩ 27 (w1.setCells g 0 z27.toList) = .ok z27 (w1.setCells g 0 z27.toList) := run_setWhole hw1 rfl
    refine bodyPost_ret (v := .tuple #[.agg z27, .int .i64 (chkI t l)]) (by simp [results, Try.results35, go_sem, hrr]) rfl ?_
    exact ⟨z27, by rw [HEE.out], rfl, by kernel_rfl, below_setCells HS1.out.low HG1.out _ _, fun h => absurd (HEE.out ▸ h) HNZ.out⟩
end Go.Proofs.Ytmbfnhnemhojjaa
