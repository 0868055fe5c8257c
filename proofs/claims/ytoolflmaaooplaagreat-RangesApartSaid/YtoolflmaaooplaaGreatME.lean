/- Ranges: Granted; the first example. -/
import Derived.Test.YtoolflmaaooplaaGreatMD
namespace Go.Proofs.YtoolflmaaooplaaGreat
section
set_option linter.unusedVariables false
set_option linter.unusedSimpArgs false
open Go.RowKit Go.Maps Go.Sort Go.Lib Go.Shelf Go.Proofs.YtoolflmaaooplaaGreatW.PrintWords Go.Proofs.YtoolflmaaooplaaGreatW.PrintLast Go.Proofs.YtoolflmaaooplaaGreatW.PrintMore FLib
attribute [local go_sem] below_alloc_T below_drew_T below_drewN_T
theorem set_nil (l : Lk) (b : Bool) (w : World) : Calls Tryz.prog 14 #[.pointer none, lkV l, .bool b] w fun e w' => e = .returned (.tuple #[.bool false, .slice none 0 0, .int .i64 35]) ∧ Below w.heap.size w w' := by
  simp only [lkV]
  go_enter Tryz.func14, Tryz.ntmps14
  go_wp2
  refine bodyPost_ret (v := .tuple #[.bool false, .slice none 0 0, .int .i64 35]) (by simp [results, Tryz.results14, go_sem]) rfl ?_
  exact ⟨rfl, below_alloc (Below.refl _ _) _⟩
theorem release_nil (o s n : Int) (w : World) : Calls Tryz.prog 31 #[.pointer none, .int .i64 o, .int .i64 s, .int .i64 n] w fun e w' => e = .returned (.tuple #[.slice none 0 0, .int .i64 35]) ∧ Below w.heap.size w w' := by
  go_enter Tryz.func31, Tryz.ntmps31
  go_wp2
  refine bodyPost_ret (v := .tuple #[.slice none 0 0, .int .i64 35]) (by simp [results, Tryz.results31, go_sem]) rfl ?_
  exact ⟨rfl, Below.refl _ _⟩
theorem test_nil (l : Lk) (w : World) : Calls Tryz.prog 37 #[.pointer none, lkV l] w fun e w' => e = .returned (.tuple #[lkV ⟨0, 0, 0, false⟩, .bool false, .int .i64 35]) ∧ Below w.heap.size w w' := by
  simp only [lkV]
  go_enter Tryz.func37, Tryz.ntmps37
  go_wp2
  refine bodyPost_ret (v := .tuple #[.agg #[.int .i64 0, .int .i64 0, .int .i64 0, .bool false], .bool false, .int .i64 35]) (by simp [results, Tryz.results37, go_sem]) rfl ?_
  exact ⟨rfl, below_alloc (below_alloc (below_alloc (below_alloc (Below.refl _ _) _) _) _) _⟩
theorem cancel_nil (o : Int) (w : World) : Calls Tryz.prog 33 #[.pointer none, .int .i64 o] w fun e w' => e = .returned (.int .i64 35) ∧ Below w.heap.size w w' := by
  go_enter Tryz.func33, Tryz.ntmps33
  go_wp2
  go_ret
  exact ⟨rfl, Below.refl _ _⟩
theorem drop_nil (o : Int) (w : World) : Calls Tryz.prog 35 #[.pointer none, .int .i64 o] w fun e w' => e = .returned (.slice none 0 0) ∧ Below w.heap.size w w' := by
  go_enter Tryz.func35, Tryz.ntmps35
  go_wp2
  go_ret
  exact ⟨rfl, Below.refl _ _⟩
theorem check_nil (o s n : Int) (b : Bool) (w : World) : Calls Tryz.prog 39 #[.pointer none, .int .i64 o, .int .i64 s, .int .i64 n, .bool b] w fun e w' => e = .returned (.int .i64 35) ∧ Below w.heap.size w w' := by
  go_enter Tryz.func39, Tryz.ntmps39
  go_wp2
  go_ret
  exact ⟨rfl, Below.refl _ _⟩
theorem granted_nil (w : World) : Calls Tryz.prog 6 #[.pointer none] w fun e w' => e = .returned (.slice none 0 0) ∧ Below w.heap.size w w' := by
  go_enter Tryz.func6, Tryz.ntmps6
  go_wp2
  go_ret
  exact ⟨rfl, Below.refl _ _⟩
theorem waiting_nil (w : World) : Calls Tryz.prog 10 #[.pointer none] w fun e w' => e = .returned (.slice none 0 0) ∧ Below w.heap.size w w' := by
  go_enter Tryz.func10, Tryz.ntmps10
  go_wp2
  go_ret
  exact ⟨rfl, Below.refl _ _⟩
end
section
set_option linter.unusedVariables false
set_option linter.unusedSimpArgs false
open Go.RowKit Go.Maps Go.Sort Go.Lib Go.Shelf Go.Proofs.YtoolflmaaooplaaGreatW.PrintWords Go.Proofs.YtoolflmaaooplaaGreatW.PrintLast Go.Proofs.YtoolflmaaooplaaGreatW.PrintMore FLib
attribute [local go_sem] below_alloc_T below_drew_T below_drewN_T

theorem TG.setq {W : World} {p mb : Nat} {qv qv' : Value} {G : List Ent} {Q Q' : List Lk} (h : TG W p mb qv G Q) (hr : W.ownsRow 0 29 4 qv' Q'.length (lflat Q')) (h1 : qv'.ownBlock ≠ some p) (h2 : qv'.ownBlock ≠ some mb)
    (h3 : ∀ e ∈ G, qv'.ownBlock ≠ some e.g) : TG (W.setCell ⟨p, 1, none⟩ qv') p mb qv' G Q' := by
  obtain ⟨D, hD, hL⟩ := h.map
  have hb : ∀ k, k ≠ p → (W.setCell ⟨p, 1, none⟩ qv').heap[k]? = W.heap[k]? := fun k hk => Below.heap_setCell _ _ _ _ hk
  have hpm : mb ≠ p := fun e => by
    obtain ⟨es, clock, ho, -⟩ := hD
    have := h.hdr; rw [← e, ho] at this; cases this
  refine ⟨blk_put h.hdr 1 qv' rfl, ⟨D, ?_, hL⟩, fun e he => own_move (h.row e he) (fun k hk => hb k (by have := (h.sepr e he).1; simp [entV, Value.ownBlock] at hk; omega)), fun e he => ⟨(h.sepr e he).1, (h.sepr e he).2.1, h3 e he⟩,
    own_move hr (fun k hk => hb k (fun e => h1 (e ▸ hk))), ⟨h1, h2⟩, h.len⟩
  obtain ⟨es, clock, ho, F', hs, e⟩ := hD
  exact ⟨es, clock, (hb _ hpm).trans ho, F', hs, e⟩
theorem idx_nil (fv : Value) (w : World) : Calls Tryz.prog 19 #[.slice none 0 0, fv] w fun e w' => e = .returned (.int .i64 (-1)) ∧ w = w' := by
  go_enter Tryz.func19, Tryz.ntmps19
  go_wp2
  refine wp_loop_rounds 1 ?_
  rw [rounds_succ]
  go_wp2
  go_ret
  exact ⟨rfl, rfl⟩
theorem del_nil (fv : Value) (w : World) : Calls Tryz.prog 48 #[.slice none 0 0, fv] w fun e w' => e = .returned (.slice none 0 0) ∧ w = w' := by
  have HI := Lib.hid (fun w => idx_nil fv w)
  go_enter Tryz.func48, Tryz.ntmps48
  go_wp2_with fail
  refine (HI.out _).mono ?_
  rintro e w1 ⟨rfl, rfl⟩
  go_wp2
  go_ret
  exact ⟨rfl, rfl⟩
set_option maxRecDepth 100000 in
set_option maxHeartbeats 1000000 in
theorem scan_nil (p mb : Nat) (G : List Ent) (w : World) (h : TG w p mb (.slice none 0 0) G []) :
    Calls Tryz.prog 27 #[.pointer (some ⟨p, 0, none⟩)] w fun e w' => e = .returned (.slice none 0 0) ∧ TG w' p mb (.slice none 0 0) G [] ∧ Keeps w w' (fun b => b = p) := by
  have HD := Lib.hid (fun fv w => del_nil fv w)
  have HT := Lib.hid h
  have hp := blk_lt h.hdr
  clear h
  go_enter Tryz.func27, Tryz.ntmps27
  go_wp2
  refine abs_w (fun W1 => W1.heap.size = w.heap.size + 3 ∧ W1.heap[w.heap.size]? = some (.cells #[.pointer (some ⟨p, 0, none⟩)] 24 (0, 0)) ∧ W1.heap[w.heap.size + 1]? = some (.cells #[.slice none 0 0] 35 (0, 0)) ∧ W1.heap[w.heap.size + 1 + 1]? = some (.cells #[.bool true] 4 (0, 0)) ∧ Below w.heap.size w W1) ?_ ?_
  · refine ⟨by simp, blk_alloc (blk_alloc (blk_new _ _) _) _, ?_, ?_, below_alloc (below_alloc (below_alloc (Below.refl _ _) _) _) _⟩
    · have := blk_alloc (blk_new (w.alloc (.cells #[.pointer (some ⟨p, 0, none⟩)] 24)) (.cells #[.slice none 0 0] 35)) (.cells #[.bool true] 4)
      simpa using this
    · have := blk_new ((w.alloc (.cells #[.pointer (some ⟨p, 0, none⟩)] 24)).alloc (.cells #[.slice none 0 0] 35)) (.cells #[.bool true] 4)
      simpa using this
  rintro W1 ⟨hz, h0, h1, h2, hb⟩
  have hT1 := HT.out.below hb
  have HZ := Lib.hid hz
  have HB := Lib.hid hb
  have HH := Lib.hid (And.intro h0 (And.intro h1 (And.intro h2 hT1)))
  have a0 : W1.cell? ⟨w.heap.size, 0, none⟩ = some (.pointer (some ⟨p, 0, none⟩)) := blk_cell h0 0
  have a1 : W1.cell? ⟨w.heap.size + 1, 0, none⟩ = some (.slice none 0 0) := blk_cell h1 0
  have a2 : W1.cell? ⟨w.heap.size + 1 + 1, 0, none⟩ = some (.bool true) := blk_cell h2 0
  have a3 : W1.frozen? ⟨w.heap.size + 1 + 1, 0, none⟩ = false := blk_frozen h2 0
  have a4 : W1.cell? ⟨p, 1, none⟩ = some (.slice none 0 0) := blk_cell hT1.hdr 1
  have a5 : W1.frozen? ⟨p, 1, none⟩ = false := blk_frozen hT1.hdr 1
  have n1 : p ≠ w.heap.size := by omega
  have m1 : w.heap.size ≠ p := by omega
  have m2 : w.heap.size + 1 ≠ p := by omega
  have m3 : w.heap.size + 1 + 1 ≠ p := by omega
  have n2 : p ≠ w.heap.size + 1 := by omega
  have n3 : p ≠ w.heap.size + 1 + 1 := by omega
  have n4 : w.heap.size ≠ w.heap.size + 1 + 1 := by omega
  have n5 : w.heap.size + 1 ≠ w.heap.size + 1 + 1 := by omega
  clear hz h0 h1 h2 hb hT1
  refine wp_loop_rounds 2 ?_
  rw [rounds_succ]
  go_wp2
  refine abs_w (fun W2 => TG W2 p mb (.slice none 0 0) G [] ∧ Keeps w W2 (fun _ => False) ∧ W2.heap[w.heap.size]? = some (.cells #[.pointer (some ⟨p, 0, none⟩)] 24 (0, 0)) ∧ W2.heap[w.heap.size + 1]? = some (.cells #[.slice none 0 0] 35 (0, 0)) ∧ W2.heap[w.heap.size + 1 + 1]? = some (.cells #[.bool false] 4 (0, 0))) ?_ ?_
  · obtain ⟨h0, h1, h2, hT⟩ := HH.out
    exact ⟨hT.keep ((Keeps.refl W1 (fun b => b = w.heap.size + 1 + 1)).set _ _ (.inl rfl)) (fun k hk ho => by have := HT.out.own_lt (k := k) ho; omega), (Keeps.of_below HB.out _).set _ _ (.inr (by show w.heap.size ≤ w.heap.size + 1 + 1; omega)),
      (Below.heap_setCell _ _ _ _ n4).trans h0, (Below.heap_setCell _ _ _ _ n5).trans h1, blk_put h2 0 _ rfl⟩
  clear a0 a1 a2 a3 a4 a5
  rintro W2 ⟨hT2, hK2, h0, h1, h2⟩
  have hpb := hT2.hdr
  have HT2 := Lib.hid (And.intro hT2 hK2)
  have x0 : ∀ w' : World, w'.heap[w.heap.size]? = some (.cells #[.pointer (some ⟨p, 0, none⟩)] 24 (0, 0)) → w'.cell? ⟨w.heap.size, 0, none⟩ = some (.pointer (some ⟨p, 0, none⟩)) := fun w' h => blk_cell h 0
  have x1 : ∀ w' : World, w'.heap[p]? = some (.cells #[.map (some mb), .slice none 0 0] 48 (0, 0)) → w'.cell? ⟨p, 1, none⟩ = some (.slice none 0 0) := fun w' h => blk_cell h 1
  have x2 : ∀ w' : World, w'.heap[p]? = some (.cells #[.map (some mb), .slice none 0 0] 48 (0, 0)) → w'.frozen? ⟨p, 1, none⟩ = false := fun w' h => blk_frozen h 1
  have H12 := Lib.hid (And.intro h1 h2)
  clear hT2 hK2 h1 h2
  refine region_p (fun a a' w' => (∃ v6 v7 v8 v9 v10 v11 v12 v13 v14 : Value, a' = { tmps := ((((((((a.tmps.setIfInBounds 6 v6).setIfInBounds 7 v7).setIfInBounds 8 v8).setIfInBounds 9 v9).setIfInBounds 10 v10).setIfInBounds 11 v11).setIfInBounds 12 v12).setIfInBounds 13 v13).setIfInBounds 14 v14, defers := a.defers }) ∧ w' = (W2.setCell ⟨p, 1, none⟩ (.slice none 0 0)).drew) ?_ ?_
  · go_region_held3 (fun w' => w'.heap[w.heap.size]? = some (.cells #[.pointer (some ⟨p, 0, none⟩)] 24 (0, 0)) ∧ w'.heap[p]? = some (.cells #[.map (some mb), .slice none 0 0] 48 (0, 0)))
      (repeat (first | assumption | apply And.intro | apply blk_drew | (refine blk_far ?_ (by assumption) _) | (refine blk_put (cs := #[.map (some mb), .slice none 0 0]) ?_ 1 _ rfl)))
      (first | (go_at_call 48; refine (HD.out _ _).mono ?_; rintro e w3 ⟨rfl, rfl⟩))
    all_goals exact ⟨rfl, ⟨_, _, _, _, _, _, _, _, _, rfl⟩, rfl⟩
  · rintro a' W3 ⟨⟨v6, v7, v8, v9, v10, v11, v12, v13, v14, rfl⟩, rfl⟩
    simp only [List.setIfInBounds_toArray, List.set_cons_zero, List.set_cons_succ]
    obtain ⟨h1, h2⟩ := H12.out
    obtain ⟨hT2, hK2⟩ := HT2.out
    refine abs_e (fun W4 => TG W4 p mb (.slice none 0 0) G [] ∧ Keeps w W4 (fun b => b = p) ∧ W4.heap[w.heap.size + 1]? = some (.cells #[.slice none 0 0] 35 (0, 0)) ∧ W4.heap[w.heap.size + 1 + 1]? = some (.cells #[.bool false] 4 (0, 0))) ?_ ?_
    · exact ⟨(hT2.setq (Q' := []) (World.ownsRow_nil _ _ _ _) (by simp [Value.ownBlock]) (by simp [Value.ownBlock]) (by simp [Value.ownBlock])).below (below_drew (Below.refl _ _)), ((hK2.mono (G := fun b => b = p) (fun _ h => h.elim)).set ⟨p, 1, none⟩ _ (.inl rfl)).drew, blk_drew (blk_far h1 m2 _), blk_drew (blk_far h2 m3 _)⟩
    clear h0 hpb x0 x1 x2 h1 h2 hT2 hK2
    rintro W4 ⟨hT4, hK4, h1, h2⟩
    have y2 : W4.cell? ⟨w.heap.size + 1 + 1, 0, none⟩ = some (.bool false) := blk_cell h2 0
    have H4 := Lib.hid (And.intro hT4 (And.intro hK4 h1))
    clear hT4 hK4 h1 h2
    go_wp2
    refine abs_w (fun W5 => TG W5 p mb (.slice none 0 0) G [] ∧ Keeps w W5 (fun b => b = p) ∧ W5.cell? ⟨w.heap.size + 1, 0, none⟩ = some (.slice none 0 0) ∧ W5.cell? ⟨W4.heap.size, 0, none⟩ = some (.bool false)) ?_ ?_
    · obtain ⟨hT4, hK4, h1⟩ := H4.out
      exact ⟨hT4.below ((Below.refl _ _).alloc (Nat.le_refl _) _), hK4.alloc _, blk_cell (blk_alloc h1 _) 0, blk_cell (blk_new _ _) 0⟩
    rintro W5 ⟨hT5, hK5, y1, y3⟩
    have H5 := Lib.hid (And.intro hT5 hK5)
    clear hT5 hK5
    go_wp2
    go_ret
    exact ⟨rfl, H5.out⟩
end
section
set_option linter.unusedVariables false
set_option linter.unusedSimpArgs false
open Go.RowKit Go.Maps Go.Sort Go.Lib Go.Shelf Go.Proofs.YtoolflmaaooplaaGreatW.PrintWords Go.Proofs.YtoolflmaaooplaaGreatW.PrintLast Go.Proofs.YtoolflmaaooplaaGreatW.PrintMore FLib
attribute [local go_sem] below_alloc_T below_drew_T below_drewN_T

theorem okL_sum {o s l : Int} (h : okL o s l = true) : -1000000 ≤ s + l ∧ s + l ≤ 1000000 := by have := okL_iff.1 h; omega
theorem okL_wf {o s l : Int} (h : okL o s l = true) (hw : o ≤ 9223372036854775807) : (Lit.int .i64 o).wf = true := by
  have := (okL_iff.1 h).1
  simp [Lit.wf, IntKind.min, IntKind.max, IntKind.bits, IntKind.signed]
  omega
set_option maxRecDepth 100000 in
set_option maxHeartbeats 1000000 in
theorem set_conf (p mb : Nat) (G : List Ent) (hs : GSort G) (hok : GOk G) (l : Lk) (hl : okL l.own l.st l.len = true) (hc : (confL G l).isEmpty = false) (w : World) (h : TG w p mb (.slice none 0 0) G []) :
    Calls Tryz.prog 14 #[.pointer (some ⟨p, 0, none⟩), lkV l, .bool false] w fun e w' => e = .returned (.tuple #[.bool false, .slice none 0 0, .int .i64 2]) ∧ TG w' p mb (.slice none 0 0) G [] ∧ Below w.heap.size w w' := by
  have HT := Lib.hid h
  have HV := Lib.hid (fun w => valid_any l.own l.st l.len w)
  rw [hl] at HV
  have HW := Lib.hid (fun w h => waits_any p mb (.slice none 0 0) G [] (by simp) l.own w h)
  have HF := Lib.hid (fun w h => free_any p mb (.slice none 0 0) G [] hs hok l (okL_sum hl) w h)
  rw [hc] at HF
  clear h hs hok hl hc
  have hb1 := below_alloc (Below.refl w.heap.size w) (.cells l.cells.toArray 29)
  have hbx := blk_new w (.cells l.cells.toArray 29)
  have HB := Lib.hid (And.intro hb1 hbx)
  clear hb1 hbx
  simp only [lkV, Lk.cells] at HF HB ⊢
  go_enter Tryz.func14, Tryz.ntmps14
  go_wp2_with fail
  refine (HV.out _).mono ?_
  rintro e w1 ⟨rfl, rfl⟩
  go_wp2_with fail
  refine (HW.out _ (HT.out.below HB.out.1)).mono ?_
  rintro e w2 ⟨rfl, hb2⟩
  have hT2 := (HT.out.below HB.out.1).below hb2
  have hx2 := blk_below HB.out.2 hb2
  have z0 : w2.cell? ⟨w.heap.size, 0, none⟩ = some (.int .i64 l.own) := blk_cell hx2 0
  have z1 : w2.cell? ⟨w.heap.size, 1, none⟩ = some (.int .i64 l.st) := blk_cell hx2 1
  have z2 : w2.cell? ⟨w.heap.size, 2, none⟩ = some (.int .i64 l.len) := blk_cell hx2 2
  have z3 : w2.cell? ⟨w.heap.size, 3, none⟩ = some (.bool l.ex) := blk_cell hx2 3
  have H2 := Lib.hid (And.intro hT2 (HB.out.1.trans (hb2.mono (by simp))))
  have hw0 : waitI [] l.own = -1 := rfl
  rw [hw0]
  clear hT2 hx2 hb2 hw0
  go_wp2_with fail
  refine (HF.out _ H2.out.1).mono ?_
  rintro e w3 ⟨rfl, hb3⟩
  have H3 := Lib.hid (And.intro (H2.out.1.below hb3) (H2.out.2.trans (hb3.mono H2.out.2.size)))
  clear hb3
  go_wp2
  refine bodyPost_ret (v := .tuple #[.bool false, .slice none 0 0, .int .i64 2]) (by simp [results, Tryz.results14, go_sem]) rfl ?_
  exact ⟨rfl, H3.out⟩

set_option maxRecDepth 100000 in
set_option maxHeartbeats 1000000 in
theorem set_free (p mb : Nat) (G : List Ent) (hs : GSort G) (hok : GOk G) (hG : G.length < 1000) (l : Lk) (hl : okL l.own l.st l.len = true) (hwf : (Lit.int .i64 l.own).wf = true) (hc : (confL G l).isEmpty = true)
    (hcnt : ∀ l' : List Sp, l'.Perm (cutP (spansOf G l.own) (spanI l).lo (spanI l).hi ++ [spanI l]) → l'.Pairwise (fun a b => ¬ b.lo < a.lo) → 0 < (joinP l').length ∧ (joinP l').length + cntG G l.own ≤ 200) (w : World) (h : TG w p mb (.slice none 0 0) G []) :
    Calls Tryz.prog 14 #[.pointer (some ⟨p, 0, none⟩), lkV l, .bool false] w fun e w' => e = .returned (.tuple #[.bool true, .slice none 0 0, .int .i64 0]) ∧
      ∃ (g c : Nat) (l' : List Sp), l'.Perm (cutP (spansOf G l.own) (spanI l).lo (spanI l).hi ++ [spanI l]) ∧ l'.Pairwise (fun a b => ¬ b.lo < a.lo) ∧ TG w' p mb (.slice none 0 0) (gPut G ⟨l.own, g, c, joinP l'⟩) [] ∧ Keeps w w' (fun b => b = p ∨ b = mb) := by
  have HT := Lib.hid h
  have HV := Lib.hid (fun w => valid_any l.own l.st l.len w)
  rw [hl] at HV
  have HW := Lib.hid (fun w h => waits_any p mb (.slice none 0 0) G [] (by simp) l.own w h)
  have HF := Lib.hid (fun w h => free_any p mb (.slice none 0 0) G [] hs hok l (okL_sum hl) w h)
  rw [hc] at HF
  have HWI := Lib.hid (fun w h => with_any p mb (.slice none 0 0) G [] hok l (okL_sum hl) hwf w h)
  have HCN := Lib.hid hcnt
  have HCO := Lib.hid (fun a n c hn w h => count_any p mb (.slice none 0 0) G [] hs hok.len l.own a n c hn w h)
  have HPU := Lib.hid (fun e (he : e.own = l.own) hne hl w h hr h1 h2 h3 => put_ins p mb (.slice none 0 0) G [] hs e (by rw [he]; exact hwf) hne hl hG w h hr h1 h2 h3)
  have HSC := Lib.hid (fun G' w h => scan_nil p mb G' w h)
  clear h hs hok hl hc hcnt hwf hG
  have hb1 := below_alloc (Below.refl w.heap.size w) (.cells l.cells.toArray 29)
  have hbx := blk_new w (.cells l.cells.toArray 29)
  have HB := Lib.hid (And.intro hb1 hbx)
  clear hb1 hbx
  simp only [lkV, Lk.cells] at HF HB HWI ⊢
  generalize cutP (spansOf G l.own) (spanI l).lo (spanI l).hi ++ [spanI l] = C at HCN HWI ⊢
  go_enter Tryz.func14, Tryz.ntmps14
  go_wp2_with fail
  refine (HV.out _).mono ?_
  rintro e w1 ⟨rfl, rfl⟩
  go_wp2_with fail
  refine (HW.out _ (HT.out.below HB.out.1)).mono ?_
  rintro e w2 ⟨rfl, hb2⟩
  have hT2 := (HT.out.below HB.out.1).below hb2
  have hx2 := blk_below HB.out.2 hb2
  have z0 : w2.cell? ⟨w.heap.size, 0, none⟩ = some (.int .i64 l.own) := blk_cell hx2 0
  have z1 : w2.cell? ⟨w.heap.size, 1, none⟩ = some (.int .i64 l.st) := blk_cell hx2 1
  have z2 : w2.cell? ⟨w.heap.size, 2, none⟩ = some (.int .i64 l.len) := blk_cell hx2 2
  have z3 : w2.cell? ⟨w.heap.size, 3, none⟩ = some (.bool l.ex) := blk_cell hx2 3
  have H2 := Lib.hid (And.intro hT2 (HB.out.1.trans (hb2.mono (by simp))))
  have hw0 : waitI [] l.own = -1 := rfl
  rw [hw0]
  clear hT2 hx2 hb2 hw0
  go_wp2_with fail
  refine (HF.out _ H2.out.1).mono ?_
  rintro e w3 ⟨rfl, hb3⟩
  replace z0 := pw_cell_below hb3 z0
  replace z1 := pw_cell_below hb3 z1
  replace z2 := pw_cell_below hb3 z2
  replace z3 := pw_cell_below hb3 z3
  have H3 := Lib.hid (And.intro (H2.out.1.below hb3) (H2.out.2.trans (hb3.mono H2.out.2.size)))
  clear hb3 H2
  go_wp2_with fail
  refine (HWI.out _ H3.out.1).mono ?_
  rintro e w4 ⟨u, rfl, l', hp, hsrt, hu, hb4⟩
  replace z0 := pw_cell_below hb4 z0
  have H4 := Lib.hid (And.intro (H3.out.1.below hb4) (H3.out.2.trans (hb4.mono H3.out.2.size)))
  have HC := Lib.hid (HCN.out l' hp hsrt)
  have HP := Lib.hid (And.intro hp hsrt)
  have hu2 := own_base (base := w.heap.size) hu H3.out.2.size
  clear hp hsrt hb4 z1 z2 z3 hu HCN
  rcases row_form hu2 with ⟨-, hz⟩ | ⟨g, c, rfl⟩
  · have := HC.out.1; omega
  have HU := Lib.hid hu2
  have hn : (joinP l').length ≤ 200 := by have := HC.out.2; omega
  have HNN := Lib.hid hn
  have HCO2 := Lib.hid (HCO.out (some ⟨g, 0, none⟩) (joinP l').length c (by omega) w4 H4.out.1)
  have d1 : decide ((200 : Int) < (((joinP l').length + cntG G l.own : Nat) : Int)) = false := decide_eq_false (by have := HC.out.2; omega)
  obtain ⟨N, hN⟩ : ∃ N : Nat, (joinP l').length + cntG G l.own = N := ⟨_, rfl⟩
  rw [hN] at HCO2 d1
  clear hu2 hN hn
  go_wp2_with fail
  refine HCO2.out.mono ?_
  rintro e w5 ⟨rfl, hb5⟩
  replace z0 := pw_cell_below hb5 z0
  have H5 := Lib.hid (And.intro (H4.out.1.below hb5) (And.intro (H4.out.2.trans (hb5.mono H4.out.2.size)) (pw_own_below HU.out hb5)))
  clear hb5
  have HPU2 := Lib.hid (HPU.out ⟨l.own, g, c, joinP l'⟩ rfl HC.out.1 (by have := HNN.out; show (joinP l').length ≤ 100000; omega) w5 H5.out.1 (own_base H5.out.2.2 (Nat.zero_le _)) (fun e => by have h1 := (H5.out.2.2.lt g rfl).1; have h2 := HT.out.own_lt (k := p) (.inl rfl); dsimp only at e; omega)
    (fun e => by have h1 := (H5.out.2.2.lt g rfl).1; have h2 := HT.out.own_lt (k := mb) (.inr (.inl rfl)); dsimp only at e; omega) (by simp [Value.ownBlock]))
  simp only [entV] at HPU2
  go_wp2_with fail
  refine HPU2.out.mono ?_
  rintro e w6 ⟨rfl, hT6, hg6⟩
  have H6 := Lib.hid (And.intro hT6 hg6)
  clear hT6 hg6
  go_wp2_with fail
  refine (HSC.out _ _ H6.out.1).mono ?_
  rintro e w7 ⟨rfl, hT7, hK7⟩
  have H7 := Lib.hid (And.intro hT7 hK7)
  clear hT7 hK7
  go_wp2
  refine bodyPost_ret (v := .tuple #[.bool true, .slice none 0 0, .int .i64 0]) (by simp [results, Tryz.results14, go_sem]) rfl ?_
  have hk : Keeps w w6 (fun b => b = p ∨ b = mb) := (Keeps.of_below H5.out.2.1 _).grown H6.out.2 (fun k hk => by cases hk; exact .inl (.inr rfl))
  exact ⟨rfl, g, c, l', HP.out.1, HP.out.2, H7.out.1, hk.trans H7.out.2 (fun i hi => .inl (.inl hi))⟩
end
section
set_option linter.unusedVariables false
set_option linter.unusedSimpArgs false
open Go.RowKit Go.Maps Go.Sort Go.Lib Go.Shelf Go.Proofs.YtoolflmaaooplaaGreatW.PrintWords Go.Proofs.YtoolflmaaooplaaGreatW.PrintLast Go.Proofs.YtoolflmaaooplaaGreatW.PrintMore FLib
attribute [local go_sem] below_alloc_T below_drew_T below_drewN_T

/-- The granted locks, in the order of their owners. -/
def grantL (G : List Ent) : List Lk := G.flatMap (fun e => e.l.map (fun s => lockI s e.own))
def granP (G : List Ent) (i : Nat) (e : Ent) (j : Nat) : List Lk := grantL (G.take i) ++ (e.l.take j).map (fun s => lockI s e.own)
theorem granP_zero (G : List Ent) (i : Nat) (e : Ent) : granP G i e 0 = grantL (G.take i) := by simp [granP]
theorem granP_all {G : List Ent} {i : Nat} {e : Ent} (h : G[i]? = some e) : granP G i e e.l.length = grantL (G.take (i + 1)) := by
  unfold granP grantL
  rw [List.take_add_one, h, List.flatMap_append, List.take_length]
  simp
theorem granP_step {e : Ent} {j : Nat} {s : Sp} (hs : e.l[j]? = some s) (G : List Ent) (i : Nat) : granP G i e (j + 1) = granP G i e j ++ [lockI s e.own] := by
  unfold granP
  rw [List.take_add_one, hs, List.map_append, List.append_assoc]
  rfl
theorem lflat_snoc (L : List Lk) (x : Lk) : lflat (L ++ [x]) = lflat L ++ x.cells := by unfold lflat; simp
theorem grantL_len (G : List Ent) (h : ∀ e ∈ G, e.l.length ≤ 1000) : (grantL G).length ≤ 1000 * G.length := by
  induction G with
  | nil => simp [grantL]
  | cons e G ih =>
    unfold grantL at ih ⊢
    rw [List.flatMap_cons, List.length_append, List.length_map, List.length_cons]
    have := ih (fun x hx => h x (List.mem_cons_of_mem _ hx))
    have := h e (List.mem_cons_self ..)
    omega
set_option maxRecDepth 100000 in
set_option maxHeartbeats 2000000 in
theorem granted_any (p mb : Nat) (qv : Value) (G : List Ent) (Q : List Lk) (hs : GSort G) (hok : GOk G) (w : World) (h : TG w p mb qv G Q) :
    Calls Tryz.prog 6 #[.pointer (some ⟨p, 0, none⟩)] w fun e w' => ∃ u, e = .returned u ∧ w'.ownsRow w.heap.size 29 4 u (grantL G).length (lflat (grantL G)) ∧ Below w.heap.size w w' := by
  have HO := Lib.hid (owners_any p mb qv G Q hs w h)
  have HT := Lib.hid h
  have HS := Lib.hid hs
  have HOK := Lib.hid hok
  have HGL := Lib.hid h.len
  obtain ⟨i0, hi0, hz0, hz1, hz2⟩ := info_parts info23
  have HI := Lib.hid (And.intro hi0 (And.intro hz0 (And.intro hz1 hz2)))
  clear h hs hok hi0 hz0 hz1 hz2
  go_enter Tryz.func6, Tryz.ntmps6
  go_wp2_with fail
  refine HO.out.mono ?_
  rintro e w4 ⟨⟨u, rfl, hrow⟩, hb4⟩
  unfold IRow at hrow
  rw [List.length_map] at hrow
  have H4 := Lib.hid (And.intro hrow (And.intro hb4 (HT.out.below hb4)))
  rcases row_form hrow with ⟨rfl, hz⟩ | ⟨gb, cb, rfl⟩
  · have hG : G = [] := List.eq_nil_of_length_eq_zero hz
    subst hG
    clear hrow hb4 hz
    go_wp2
    refine wp_loop_rounds 1 ?_
    rw [rounds_succ]
    go_wp2
    go_ret
    exact ⟨_, rfl, World.ownsRow_nil _ _ _ _, H4.out.2.1⟩
  · clear hrow hb4
    go_wp2
    go_loopw [13, 3] (fun i u wr => ∃ k : Nat, k ≤ G.length ∧ i = .int .i64 k ∧ Hid (Below w4.heap.size w4 wr) ∧ Hid (wr.ownsRow w4.heap.size 29 4 u (grantL (G.take k)).length (lflat (grantL (G.take k))))) (fun i _ _ => G.length - (RowKit.intOf i).toNat)
    case atStart => exact ⟨0, Nat.zero_le _, rfl, Lib.hid (Below.refl _ _), Lib.hid (World.ownsRow_nil _ _ _ _)⟩
    case round =>
      obtain ⟨k, hk, rfl, hB, hown⟩ := hrel
      have hlr : (G.length : Int) ≤ 1000 := by have := HGL.out; omega
      by_cases hlt : k < G.length
      · obtain ⟨en, hen⟩ : ∃ en, G[k]? = some en := ⟨_, List.getElem?_eq_getElem hlt⟩
        have hmem := List.mem_of_getElem? hen
        have hT := H4.out.2.2.below hB.out
        have a1 : wr.cell? ⟨p, 0, none⟩ = some (.map (some mb)) := blk_cell hT.hdr 0
        have a2 : wr.cell? ⟨gb, k, none⟩ = some (.int .i64 en.own) := by
          have h1 := H4.out.1.cells (g := gb) rfl k (.int .i64 en.own) (by simp [hen, encZ])
          rw [addmk, Nat.zero_add] at h1
          exact pw_cell_below hB.out h1
        have a3 := hT.run_look (HOK.out.own en hmem)
        rw [gAt_at HS.out hen] at a3
        simp only [entV] at a3
        have hk0 : (0 : Int) ≤ (k : Int) := by omega
        have hk1 : (k : Int) < (G.length : Int) := by omega
        have HEN := Lib.hid hen
        have HM := Lib.hid hmem
        have HLT := Lib.hid hlt
        have hll : (en.l.length : Int) ≤ 1000 := by have := HOK.out.len en hmem; omega
        have HGN := Lib.hid (fun j => show (granP G k en j).length ≤ 1000000 + 1000 by
          have h1 := grantL_len (G.take k) (fun e he => HOK.out.len e (List.mem_of_mem_take he))
          have h2 := HOK.out.len en hmem
          have h3 := HGL.out
          unfold granP
          rw [List.length_append, List.length_map, List.length_take]
          rw [List.length_take] at h1
          have h4 : 1000 * min k G.length ≤ 1000 * 1000 := Nat.mul_le_mul_left _ (by omega)
          omega)
        clear hen hmem hT hlt
        go_wp2
        go_loopw [24, 3] (fun i u wr => ∃ j : Nat, j ≤ en.l.length ∧ i = .int .i64 j ∧ Hid (Below w4.heap.size w4 wr) ∧ Hid (wr.ownsRow w4.heap.size 29 4 u (granP G k en j).length (lflat (granP G k en j)))) (fun i _ _ => en.l.length - (RowKit.intOf i).toNat)
        case atStart => exact ⟨0, Nat.zero_le _, rfl, hB, by rw [granP_zero]; exact hown⟩
        case round =>
          clear hB hown a1 a2 a3 hk0 hk1
          obtain ⟨j, hj, rfl, hB, hown⟩ := hrel
          by_cases hlt2 : j < en.l.length
          · obtain ⟨s, hs⟩ : ∃ s, en.l[j]? = some s := ⟨_, List.getElem?_eq_getElem hlt2⟩
            have hT := H4.out.2.2.below hB.out
            obtain ⟨p0, p1, p2⟩ := row_sp (hT.row en HM.out) hs
            have hk0 : (0 : Int) ≤ (j : Int) := by omega
            have hk1 : (j : Int) < (en.l.length : Int) := by omega
            have hsm := HOK.out.sp en HM.out s (List.mem_of_getElem? hs)
            have HST := Lib.hid (granP_step hs G k)
            have HLT2 := Lib.hid hlt2
            have HLK := Lib.hid (fun w => lock_any s en.own hsm w)
            have hgn := HGN.out j
            generalize lockI s en.own = K at HLK HST
            obtain ⟨s0, s1, s2⟩ := s
            obtain ⟨k0, k1, k2, k3⟩ := K
            simp only [spV, lkV] at HLK p0 p1 p2
            generalize granP G k en j = X at hown HST hgn
            obtain ⟨n, hn⟩ : ∃ n, X.length = n := ⟨_, rfl⟩
            rw [hn] at hown hgn
            have HN := Lib.hid (And.intro hn hgn)
            clear hs hlt2 hT hsm hn hgn
            go_wp2_with fail
            refine (HLK.out _).mono ?_
            rintro e w5 ⟨rfl, hb5⟩
            have hB5 := below_step (below_alloc hB.out _) hb5
            have HR5 := Lib.hid (And.intro hB5 (pw_own_below hown.out ((below_alloc (Below.refl wr.heap.size wr) _).trans (hb5.mono (by simp)))))
            clear hb5 hB5 p0 p1 p2
            go_wp2_with (at_builtin; refine wpList_append_own (w5.alloc (.cells #[.int .i64 k0, .int .i64 k1, .int .i64 k2, .bool k3] 29)) rfl (.tmp 28) (.tmp 32) 26 rfl w4.heap.size 29 i0 (.agg #[.int .i64 0, .int .i64 0, .int .i64 0, .bool false]) 4 32 Tryz.underlying26 HI.out.1 HI.out.2.1 HI.out.2.2.1 HI.out.2.2.2 rfl (by decide) _ n (lflat X) rfl (World.ownsRow.alloc HR5.out.2 _) ⟨w5.heap.size, 0, none⟩ 1 1 [.int .i64 k0, .int .i64 k1, .int .i64 k2, .bool k3] rfl rfl (fun j z h => cells_new j z h) (by simp [Value.oneCell']) (by have := HN.out.2; unfold maxLen; omega) (by have := HN.out.2; omega) (by have := HR5.out.1.size; simp; omega) ?_; intro v' w6 hown' hg6 hnil6)
            have HN6 := Lib.hid (show w6.ownsRow w4.heap.size 29 4 v' (granP G k en (j + 1)).length (lflat (granP G k en (j + 1))) by
              rw [HST.out, lflat_snoc, List.length_append, HN.out.1]
              exact hown')
            have HB6 := Lib.hid (show Below w4.heap.size w4 w6 from (below_alloc HR5.out.1 _).grown hg6 (by have := HR5.out.1.size; simp; omega) (fun i hi => (HR5.out.2.lt i hi).1))
            clear hown' hg6 hnil6
            go_roundw
            case rel => exact ⟨j + 1, by have := HLT2.out; omega, by go_num, HB6, HN6⟩
            case measure => simp [RowKit.intOf]; have := HLT2.out; omega
          · obtain rfl : j = en.l.length := by omega
            have HN := Lib.hid (show wr.ownsRow w4.heap.size 29 4 _ (grantL (G.take (k + 1))).length (lflat (grantL (G.take (k + 1)))) by rw [← granP_all HEN.out]; exact hown.out)
            go_wp2
            go_roundw
            case rel => exact ⟨k + 1, by have := HLT.out; omega, by go_num, hB, HN⟩
            case measure => simp [RowKit.intOf]; have := HLT.out; omega
      · obtain rfl : k = G.length := by omega
        rw [List.take_length] at hown
        go_wp2
        go_ret
        exact ⟨_, rfl, own_base hown.out H4.out.2.1.size, H4.out.2.1.trans (hB.out.mono H4.out.2.1.size)⟩
end
section
set_option linter.unusedVariables false
set_option linter.unusedSimpArgs false
open Go.RowKit Go.Maps Go.Sort Go.Lib Go.Shelf Go.Proofs.YtoolflmaaooplaaGreatW.PrintWords Go.Proofs.YtoolflmaaooplaaGreatW.PrintLast Go.Proofs.YtoolflmaaooplaaGreatW.PrintMore FLib
attribute [local go_sem] below_alloc_T below_drew_T below_drewN_T

theorem GSort.nil : GSort [] := List.Pairwise.nil
theorem GOk.nil : GOk [] := ⟨by simp, by simp, by simp⟩
theorem cellOf_own {w : World} {base g c : Nat} {L : List Lk} {x : Lk} (h : w.ownsRow base 29 4 (.slice (some ⟨g, 0, none⟩) L.length c) L.length (lflat L)) (hx : L[0]? = some x) :
    w.cell? ⟨g, 0, none⟩ = some (.int .i64 x.own) ∧ w.cell? ⟨g, 1, none⟩ = some (.int .i64 x.st) ∧ w.cell? ⟨g, 2, none⟩ = some (.int .i64 x.len) ∧ w.cell? ⟨g, 3, none⟩ = some (.bool x.ex) := by
  obtain ⟨p0, p1, p2, p3⟩ := row_lk h hx
  simp only [Nat.zero_mul, Nat.zero_add] at p0 p1 p2 p3
  exact ⟨p0, p1, p2, p3⟩
set_option maxRecDepth 100000 in
set_option maxHeartbeats 1000000 in
theorem awake_any (w : World) : Calls Tryz.prog 4 #[] w fun e w' => e = .returned (.bool true) ∧ Below w.heap.size w w' := by
  have HN := Lib.hid (newT_any w)
  have HF := Lib.hid (fun p mb w h => set_free p mb [] GSort.nil GOk.nil (by simp) ⟨1, 0, 10, true⟩ rfl rfl rfl (fun l' hp _ => by
    have e : l' = [(⟨0, 10, true⟩ : Sp)] := List.perm_singleton.1 hp
    subst e; decide) w h)
  have HG := Lib.hid (fun p mb g c (l' : List Sp) (hp : l'.Perm (cutP (spansOf [] (1 : Int)) (spanI ⟨1, 0, 10, true⟩).lo (spanI ⟨1, 0, 10, true⟩).hi ++ [spanI ⟨1, 0, 10, true⟩])) w (h : TG w p mb (.slice none 0 0) (gPut [] ⟨1, g, c, joinP l'⟩) []) => show TG w p mb (.slice none 0 0) [⟨1, g, c, [⟨0, 10, true⟩]⟩] [] by
    have e : l' = [(⟨0, 10, true⟩ : Sp)] := List.perm_singleton.1 hp
    subst e; exact h)
  have hs1 : ∀ g c, GSort [⟨1, g, c, [⟨0, 10, true⟩]⟩] := fun g c => List.pairwise_singleton _ _
  have ho1 : ∀ g c, GOk [⟨1, g, c, [⟨0, 10, true⟩]⟩] := fun g c => ⟨fun e he => by rw [List.mem_singleton] at he; subst he; rfl, fun e he => by rw [List.mem_singleton] at he; subst he; simp, fun e he s hs => by
    rw [List.mem_singleton] at he; subst he
    rw [List.mem_singleton] at hs; subst hs; decide⟩
  have HC := Lib.hid (fun p mb g c w h => set_conf p mb [⟨1, g, c, [⟨0, 10, true⟩]⟩] (hs1 g c) (ho1 g c) ⟨2, 9, 0, false⟩ rfl rfl w h)
  have HGR := Lib.hid (fun p mb g c w h => granted_any p mb (.slice none 0 0) [⟨1, g, c, [⟨0, 10, true⟩]⟩] [] (hs1 g c) (ho1 g c) w h)
  clear hs1 ho1
  simp only [lkV] at HF HC
  go_enter Tryz.func4, Tryz.ntmps4
  go_wp2_with fail
  refine HN.out.mono ?_
  rintro e w1 ⟨rfl, hT1, hb1⟩
  have H1 := Lib.hid (And.intro hT1 hb1)
  clear hT1 hb1
  go_wp2_with fail
  refine (HF.out _ _ _ H1.out.1).mono ?_
  rintro e w2 ⟨rfl, g, c, l', hp, -, hT2, hk2⟩
  have H2 := Lib.hid (And.intro (HG.out _ _ g c l' hp w2 hT2) (H1.out.2.trans (hk2.below H1.out.2.size (fun i hi => by omega))))
  clear hp hT2 hk2 l'
  go_wp2_with fail
  refine (HC.out _ _ g c _ H2.out.1).mono ?_
  rintro e w3 ⟨rfl, hT3, hb3⟩
  have H3 := Lib.hid (And.intro hT3 (H2.out.2.trans (hb3.mono H2.out.2.size)))
  clear hT3 hb3
  go_wp2_with fail
  refine (HGR.out _ _ g c _ H3.out.1).mono ?_
  rintro e w4 ⟨u, rfl, hu, hb4⟩
  have hb := H3.out.2.trans (hb4.mono H3.out.2.size)
  have hgl : grantL [⟨1, g, c, [⟨0, 10, true⟩]⟩] = [⟨1, 0, 10, true⟩] := rfl
  rw [hgl] at hu
  obtain ⟨g4, c4, rfl⟩ := row_some (n := 0) hu
  obtain ⟨r0, r1, r2, r3⟩ := cellOf_own hu rfl
  have HB := Lib.hid hb
  clear hu hb hb4 hgl
  go_wp2
  go_ret
  exact ⟨rfl, HB.out⟩
end
end Go.Proofs.YtoolflmaaooplaaGreat
