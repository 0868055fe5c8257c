/- The chapter's example. -/
import Derived.Test.YtmbfnhnemhojjaaD1
namespace Go.Proofs.Ytmbfnhnemhojjaa
set_option linter.unusedVariables false
set_option linter.unusedSimpArgs false
open Go.RowKit Go.Proofs.YtmbfnhnemhojjaaW.PrintWords Go.Proofs.YtmbfnhnemhojjaaW.PrintLast Go.Proofs.YtmbfnhnemhojjaaW.PrintMore PResponseCosts FLib

theorem hold_store24 (a : Addr) (v : Value) : storeVar 24 a v = HeldStore 24 a v := rfl
theorem hold_store36 (a : Addr) (v : Value) : storeVar 36 a v = HeldStore 36 a v := rfl
theorem run_heldT {W : World} {cs zs : Array Value} {ty : Nat} (hi : (Try.prog.info? ty).map (·.size) = some 26) (hz : zs.size = 26) (hs : cs.size = 26) (h1 : One cs) : (HeldStore ty ⟨W.heap.size, 0, none⟩ (.agg cs)).run Try.prog (W.alloc (.cells zs ty)) = .ok () (W.alloc (.cells cs ty)) := by
  have h2 := run_storeAll (P := Try.prog) (W := W) (cs := cs) (zs := zs) (ty := ty) (by omega) h1
  cases hq : Try.prog.info? ty with
  | none => simp [hq] at hi
  | some i =>
    have hs' : i.size = 26 := by simpa [hq] using hi
    simp [HeldStore, storeVar, sizeOf, typeInfo, hq, Value.cells, hs', hs, h2]
theorem run_held24 {W : World} {cs : Array Value} (hs : cs.size = 26) (h1 : One cs) : (HeldStore 24 ⟨W.heap.size, 0, none⟩ (.agg cs)).run Try.prog (W.alloc (.cells #[.int .i64 0, .int .i64 0, .int .i64 0, .int .i64 0, .int .i64 0, .int .i64 0, .int .i64 0, .int .i64 0, .int .i64 0, .int .i64 0, .int .i64 0, .int .i64 0, .int .i64 0, .int .i64 0, .int .i64 0, .int .i64 0, .int .i64 0, .int .i64 0, .int .i64 0, .int .i64 0, .int .i64 0, .int .i64 0, .int .i64 0, .int .i64 0, .int .i64 0, .int .i64 0] 24)) = .ok () (W.alloc (.cells cs 24)) := run_heldT (by kernel_rfl) rfl hs h1
theorem run_held36 {W : World} {cs : Array Value} (hs : cs.size = 26) (h1 : One cs) : (HeldStore 36 ⟨W.heap.size, 0, none⟩ (.agg cs)).run Try.prog (W.alloc (.cells #[.int .i64 0, .int .i64 0, .int .i64 0, .int .i64 0, .int .i64 0, .int .i64 0, .int .i64 0, .int .i64 0, .int .i64 0, .int .i64 0, .int .i64 0, .int .i64 0, .int .i64 0, .int .i64 0, .int .i64 0, .int .i64 0, .int .i64 0, .int .i64 0, .int .i64 0, .int .i64 0, .int .i64 0, .int .i64 0, .int .i64 0, .int .i64 0, .int .i64 0, .int .i64 0] 36)) = .ok () (W.alloc (.cells cs 36)) := run_heldT (by kernel_rfl) rfl hs h1
attribute [local go_sem ↓] hold_cells hold_from hold_store24 hold_store36
attribute [local go_sem] below_alloc_T below_drew_T below_drewN_T run_box run_box2 run_box6 run_boxAt run_held24 run_held36

def exA : S33 := ⟨10, 100, 50, 0, 10, 0⟩
def exB : S33 := ⟨20, 20, 20, 0, 2, 0⟩
theorem ex_one : bndR defT [exA] 0 = .tuple #[.int .i64 18, .int .i64 0] := by
  have h0 : atI defT [exA] 0 = 0 := by decide +kernel
  have h1 : bndO (demI defT [exA] 0 (baseI defT [exA] 0)) 1000000 = some 18 := bndO_some.2 ⟨by omega, by decide +kernel, by decide +kernel⟩
  unfold bndR
  rw [if_pos h0]
  show bndT (bndO (demI defT [exA] 0 (baseI defT [exA] 0)) 1000000) = _
  rw [h1]
  rfl
theorem ex_two : bndR defT [exA, exB] 0 = .tuple #[.int .i64 54, .int .i64 0] := by
  have h0 : atI defT [exA, exB] 0 = 0 := by decide +kernel
  have h1 : bndO (demI defT [exA, exB] 0 (baseI defT [exA, exB] 0)) 1000000 = some 54 := bndO_some.2 ⟨by omega, by decide +kernel, by decide +kernel⟩
  unfold bndR
  rw [if_pos h0]
  show bndT (bndO (demI defT [exA, exB] 0 (baseI defT [exA, exB] 0)) 1000000) = _
  rw [h1]
  rfl
/-- A literal of two tasks. -/
theorem lit2 (W : World) (q : Nat) (h : W.heap[q]? = some (.cells #[.int .i64 10, .int .i64 100, .int .i64 50, .int .i64 0, .int .i64 10, .int .i64 0, .int .i64 20, .int .i64 20, .int .i64 20, .int .i64 0, .int .i64 2, .int .i64 0] 33 (0, 0))) :
    Kd.C k33 W (some ⟨q, 0, none⟩) 2 [exA, exB] := by
  refine ⟨rfl, by decide, fun _ => ⟨_, rfl, fun j p hj => ?_⟩⟩
  match j, hj with
  | 0, hj =>
    obtain rfl : exA = p := by simpa using hj
    refine ⟨tkCells exA, rfl, k33_mk W exA, fun j u hu => ?_⟩
    have hl : j < 6 := by have := (List.getElem?_eq_some_iff.1 hu).1; simpa [tkCells] using this
    rw [add_plain, blk_cell h]
    match j, hl with
    | 0, _ | 1, _ | 2, _ | 3, _ | 4, _ | 5, _ => simpa [tkCells, exA] using hu
  | 1, hj =>
    obtain rfl : exB = p := by simpa using hj
    refine ⟨tkCells exB, rfl, k33_mk W exB, fun j u hu => ?_⟩
    have hl : j < 6 := by have := (List.getElem?_eq_some_iff.1 hu).1; simpa [tkCells] using this
    rw [add_plain, blk_cell h]
    match j, hl with
    | 0, _ | 1, _ | 2, _ | 3, _ | 4, _ | 5, _ => simpa [tkCells, exB, show k33.sz = 6 from rfl] using hu
  | j + 2, hj => simp at hj

set_option maxRecDepth 100000 in
set_option maxHeartbeats 1000000 in
theorem awake_any (w : World) : Calls Try.prog 9 #[] w fun e w' => e = .returned (.bool true) ∧ Below w.heap.size w w' := by
  have H1 := Lib.hid (fun A c w hC => Bound_any defT rfl A c [exA] 0 w hC)
  have H2 := Lib.hid (fun A c w hC => Bound_any defT rfl A c [exA, exB] 0 w hC)
  rw [ex_one] at H1
  rw [ex_two] at H2
  have HD := Lib.hid default_any
  have hsz := tcells_len (t := defT) rfl
  have hone : One (tabCells defT).toArray := (show (tabCells defT).toArray.all (·.oneCell') = true by kernel_rfl)
  unfold tabV at H1 H2 HD
  generalize (tabCells defT).toArray = cs at H1 H2 HD hsz hone
  go_enter Try.func9, Try.ntmps9
  go_wp2_with fail
  refine (HD.out _).mono ?_
  rintro e w1 ⟨rfl, hb1⟩
  have HB := Lib.hid hb1
  clear hb1 HD
  go_wp2
  refine abs_w (fun W => W.heap[w1.heap.size]? = some (.cells cs 24 (0, 0)) ∧ W.heap[w1.heap.size + 1]? = some (.cells #[.int .i64 10, .int .i64 100, .int .i64 50, .int .i64 0, .int .i64 10, .int .i64 0, .int .i64 20, .int .i64 20, .int .i64 20, .int .i64 0, .int .i64 2, .int .i64 0] 33 (0, 0)) ∧ Below w1.heap.size w1 W)
    ⟨blk_alloc (blk_new _ _) _, by simpa using blk_new (w1.alloc (.cells cs 24)) (.cells #[.int .i64 10, .int .i64 100, .int .i64 50, .int .i64 0, .int .i64 10, .int .i64 0, .int .i64 20, .int .i64 20, .int .i64 20, .int .i64 0, .int .i64 2, .int .i64 0] 33), below_alloc (below_alloc (Below.refl _ _) _) _⟩ ?_
  rintro W ⟨hq0, hq1, hB⟩
  have HB1 := Lib.hid (below_step HB.out hB)
  generalize w1.heap.size + 1 = q1 at hq1 ⊢
  generalize w1.heap.size = q at hq0 ⊢
  have l0 := later_whole (P := Try.prog) hq0 hsz
  have HL2 := Lib.hid (fun w' (hw : Below W.heap.size W w') => lit2 w' q1 (later_blk hq1 w' hw))
  have HC1 : Hid (∀ w', Below W.heap.size W w' → Kd.C k33 w' (some ⟨q1, 0, none⟩) [exA].length [exA]) := Lib.hid (fun w' hw => Kd.C_take (lit2 w' q1 (later_blk hq1 w' hw)) (m := 1) (by decide))
  clear hq0 hq1 hB
  go_region_held3 (fun w' => Below W.heap.size W w') (first | assumption | exact below_drew (Below.refl _ _) | exact below_step (by assumption) hb1)
    (first | (go_at_call 10; refine (H1.out (some ⟨q1, 0, none⟩) 2 _ (HC1.out _ (by assumption))).mono ?_; rintro e w3 ⟨rfl, hb1⟩))
  refine abs_e (fun w' => Below W.heap.size W w') (by assumption) ?_
  clear hb1
  rintro w2 hB2
  go_wp2_with (go_at_call 10; refine (H2.out (some ⟨q1, 0, none⟩) 2 _ (HL2.out _ hB2)).mono ?_; rintro e w3 ⟨rfl, hb3⟩)
  go_ret
  exact ⟨rfl, below_step HB1.out (below_step hB2 hb3)⟩
end Go.Proofs.Ytmbfnhnemhojjaa
