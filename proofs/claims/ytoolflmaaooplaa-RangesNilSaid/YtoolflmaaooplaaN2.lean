/- Ranges: scan where nobody waits. -/
import Derived.Test.YtoolflmaaooplaaN1
namespace Go.Proofs.Ytoolflmaaooplaa
set_option linter.unusedVariables false
set_option linter.unusedSimpArgs false
open Go.RowKit Go.Maps Go.Sort Go.Lib Go.Shelf Go.Proofs.YtoolflmaaooplaaW.PrintWords Go.Proofs.YtoolflmaaooplaaW.PrintLast Go.Proofs.YtoolflmaaooplaaW.PrintMore FLib
attribute [local go_sem] below_alloc_T below_drew_T below_drewN_T

theorem TG.setq {W : World} {p mb : Nat} {qv qv' : Value} {G : List Ent} {Q Q' : List Lk} (h : TG W p mb qv G Q) (hr : W.ownsRow 0 23 4 qv' Q'.length (lflat Q')) (h1 : qv'.ownBlock ≠ some p) (h2 : qv'.ownBlock ≠ some mb)
    (h3 : ∀ e ∈ G, qv'.ownBlock ≠ some e.g) : TG (W.setCell ⟨p, 1, none⟩ qv') p mb qv' G Q' := by
  obtain ⟨D, hD, hL⟩ := h.map
  have hb : ∀ k, k ≠ p → (W.setCell ⟨p, 1, none⟩ qv').heap[k]? = W.heap[k]? := fun k hk => Below.heap_setCell _ _ _ _ hk
  have hpm : mb ≠ p := fun e => by
    obtain ⟨es, clock, ho, -⟩ := hD
    have := h.hdr; rw [← e, ho] at this; cases this
  refine ⟨blk_put h.hdr 1 qv' rfl, ⟨D, ?_, hL⟩, fun e he => own_move (h.row e he) (fun k hk => hb k (by have := (h.sepr e he).1; simp [entV, Value.ownBlock] at hk; omega)), fun e he => ⟨(h.sepr e he).1, (h.sepr e he).2.1, h3 e he⟩,
    own_move hr (fun k hk => hb k (fun e => h1 (e ▸ hk))), ⟨h1, h2⟩, h.len⟩
  obtain ⟨es, clock, ho, F', hs, e⟩ := hD
  exact ⟨es, clock, (hb _ hpm).trans ho, F', hs, e⟩
theorem idx_nil (fv : Value) (w : World) : Calls Try.prog 46 #[.slice none 0 0, fv] w fun e w' => e = .returned (.int .i64 (-1)) ∧ w = w' := by
  go_enter Try.func46, Try.ntmps46
  go_wp2
  refine wp_loop_rounds 1 ?_
  rw [rounds_succ]
  go_wp2
  go_ret
  exact ⟨rfl, rfl⟩
theorem del_nil (fv : Value) (w : World) : Calls Try.prog 59 #[.slice none 0 0, fv] w fun e w' => e = .returned (.slice none 0 0) ∧ w = w' := by
  have HI := Lib.hid (fun w => idx_nil fv w)
  go_enter Try.func59, Try.ntmps59
  go_wp2_with fail
  refine (HI.out _).mono ?_
  rintro e w1 ⟨rfl, rfl⟩
  go_wp2
  go_ret
  exact ⟨rfl, rfl⟩
set_option maxRecDepth 100000 in
set_option maxHeartbeats 1000000 in
theorem scan_nil (p mb : Nat) (G : List Ent) (w : World) (h : TG w p mb (.slice none 0 0) G []) :
    Calls Try.prog 36 #[.pointer (some ⟨p, 0, none⟩)] w fun e w' => e = .returned (.slice none 0 0) ∧ TG w' p mb (.slice none 0 0) G [] ∧ Keeps w w' (fun b => b = p) := by
  have HD := Lib.hid (fun fv w => del_nil fv w)
  have HT := Lib.hid h
  have hp := blk_lt h.hdr
  clear h
  go_enter Try.func36, Try.ntmps36
  go_wp2
  refine abs_w (fun W1 => W1.heap.size = w.heap.size + 3 ∧ W1.heap[w.heap.size]? = some (.cells #[.pointer (some ⟨p, 0, none⟩)] 24 (0, 0)) ∧ W1.heap[w.heap.size + 1]? = some (.cells #[.slice none 0 0] 25 (0, 0)) ∧ W1.heap[w.heap.size + 1 + 1]? = some (.cells #[.bool true] 4 (0, 0)) ∧ Below w.heap.size w W1) ?_ ?_
  · refine ⟨by simp, blk_alloc (blk_alloc (blk_new _ _) _) _, ?_, ?_, below_alloc (below_alloc (below_alloc (Below.refl _ _) _) _) _⟩
    · have := blk_alloc (blk_new (w.alloc (.cells #[.pointer (some ⟨p, 0, none⟩)] 24)) (.cells #[.slice none 0 0] 25)) (.cells #[.bool true] 4)
      simpa using this
    · have := blk_new ((w.alloc (.cells #[.pointer (some ⟨p, 0, none⟩)] 24)).alloc (.cells #[.slice none 0 0] 25)) (.cells #[.bool true] 4)
      simpa using this
  rintro W1 ⟨hz, h0, h1, h2, hb⟩
  have hT1 := HT.out.below hb
  have HZ := Lib.hid hz
  have HB := Lib.hid hb
  have HH := Lib.hid (And.intro h0 (And.intro h1 (And.intro h2 hT1)))
  have a0 : W1.cell? ⟨w.heap.size, 0, none⟩ = some (.pointer (some ⟨p, 0, none⟩)) := blk_cell h0 0
  have a1 : W1.cell? ⟨w.heap.size + 1, 0, none⟩ = some (.slice none 0 0) := blk_cell h1 0
  have a2 : W1.cell? ⟨w.heap.size + 1 + 1, 0, none⟩ = some (.bool true) := blk_cell h2 0
  have a3 : W1.frozen? ⟨w.heap.size + 1 + 1, 0, none⟩ = false := blk_frozen h2 0
  have a4 : W1.cell? ⟨p, 1, none⟩ = some (.slice none 0 0) := blk_cell hT1.hdr 1
  have a5 : W1.frozen? ⟨p, 1, none⟩ = false := blk_frozen hT1.hdr 1
  have n1 : p ≠ w.heap.size := by omega
  have m1 : w.heap.size ≠ p := by omega
  have m2 : w.heap.size + 1 ≠ p := by omega
  have m3 : w.heap.size + 1 + 1 ≠ p := by omega
  have n2 : p ≠ w.heap.size + 1 := by omega
  have n3 : p ≠ w.heap.size + 1 + 1 := by omega
  have n4 : w.heap.size ≠ w.heap.size + 1 + 1 := by omega
  have n5 : w.heap.size + 1 ≠ w.heap.size + 1 + 1 := by omega
  clear hz h0 h1 h2 hb hT1
  refine wp_loop_rounds 2 ?_
  rw [rounds_succ]
  go_wp2
  refine abs_w (fun W2 => TG W2 p mb (.slice none 0 0) G [] ∧ Keeps w W2 (fun _ => False) ∧ W2.heap[w.heap.size]? = some (.cells #[.pointer (some ⟨p, 0, none⟩)] 24 (0, 0)) ∧ W2.heap[w.heap.size + 1]? = some (.cells #[.slice none 0 0] 25 (0, 0)) ∧ W2.heap[w.heap.size + 1 + 1]? = some (.cells #[.bool false] 4 (0, 0))) ?_ ?_
  · obtain ⟨h0, h1, h2, hT⟩ := HH.out
    exact ⟨hT.keep ((Keeps.refl W1 (fun b => b = w.heap.size + 1 + 1)).set _ _ (.inl rfl)) (fun k hk ho => by have := HT.out.own_lt (k := k) ho; omega), (Keeps.of_below HB.out _).set _ _ (.inr (by show w.heap.size ≤ w.heap.size + 1 + 1; omega)),
      (Below.heap_setCell _ _ _ _ n4).trans h0, (Below.heap_setCell _ _ _ _ n5).trans h1, blk_put h2 0 _ rfl⟩
  clear a0 a1 a2 a3 a4 a5
  rintro W2 ⟨hT2, hK2, h0, h1, h2⟩
  have hpb := hT2.hdr
  have HT2 := Lib.hid (And.intro hT2 hK2)
  have x0 : ∀ w' : World, w'.heap[w.heap.size]? = some (.cells #[.pointer (some ⟨p, 0, none⟩)] 24 (0, 0)) → w'.cell? ⟨w.heap.size, 0, none⟩ = some (.pointer (some ⟨p, 0, none⟩)) := fun w' h => blk_cell h 0
  have x1 : ∀ w' : World, w'.heap[p]? = some (.cells #[.map (some mb), .slice none 0 0] 67 (0, 0)) → w'.cell? ⟨p, 1, none⟩ = some (.slice none 0 0) := fun w' h => blk_cell h 1
  have x2 : ∀ w' : World, w'.heap[p]? = some (.cells #[.map (some mb), .slice none 0 0] 67 (0, 0)) → w'.frozen? ⟨p, 1, none⟩ = false := fun w' h => blk_frozen h 1
  have H12 := Lib.hid (And.intro h1 h2)
  clear hT2 hK2 h1 h2
  refine region_p (fun a a' w' => (∃ v6 v7 v8 v9 v10 v11 v12 v13 v14 : Value, a' = { tmps := ((((((((a.tmps.setIfInBounds 6 v6).setIfInBounds 7 v7).setIfInBounds 8 v8).setIfInBounds 9 v9).setIfInBounds 10 v10).setIfInBounds 11 v11).setIfInBounds 12 v12).setIfInBounds 13 v13).setIfInBounds 14 v14, defers := a.defers }) ∧ w' = (W2.setCell ⟨p, 1, none⟩ (.slice none 0 0)).drew) ?_ ?_
  · go_region_held3 (fun w' => w'.heap[w.heap.size]? = some (.cells #[.pointer (some ⟨p, 0, none⟩)] 24 (0, 0)) ∧ w'.heap[p]? = some (.cells #[.map (some mb), .slice none 0 0] 67 (0, 0)))
      (repeat (first | assumption | apply And.intro | apply blk_drew | (refine blk_far ?_ (by assumption) _) | (refine blk_put (cs := #[.map (some mb), .slice none 0 0]) ?_ 1 _ rfl)))
      (first | (go_at_call 59; refine (HD.out _ _).mono ?_; rintro e w3 ⟨rfl, rfl⟩))
    all_goals exact ⟨rfl, ⟨_, _, _, _, _, _, _, _, _, rfl⟩, rfl⟩
  · rintro a' W3 ⟨⟨v6, v7, v8, v9, v10, v11, v12, v13, v14, rfl⟩, rfl⟩
    simp only [List.setIfInBounds_toArray, List.set_cons_zero, List.set_cons_succ]
    obtain ⟨h1, h2⟩ := H12.out
    obtain ⟨hT2, hK2⟩ := HT2.out
    refine abs_e (fun W4 => TG W4 p mb (.slice none 0 0) G [] ∧ Keeps w W4 (fun b => b = p) ∧ W4.heap[w.heap.size + 1]? = some (.cells #[.slice none 0 0] 25 (0, 0)) ∧ W4.heap[w.heap.size + 1 + 1]? = some (.cells #[.bool false] 4 (0, 0))) ?_ ?_
    · exact ⟨(hT2.setq (Q' := []) (World.ownsRow_nil _ _ _ _) (by simp [Value.ownBlock]) (by simp [Value.ownBlock]) (by simp [Value.ownBlock])).below (below_drew (Below.refl _ _)), ((hK2.mono (G := fun b => b = p) (fun _ h => h.elim)).set ⟨p, 1, none⟩ _ (.inl rfl)).drew, blk_drew (blk_far h1 m2 _), blk_drew (blk_far h2 m3 _)⟩
    clear h0 hpb x0 x1 x2 h1 h2 hT2 hK2
    rintro W4 ⟨hT4, hK4, h1, h2⟩
    have y2 : W4.cell? ⟨w.heap.size + 1 + 1, 0, none⟩ = some (.bool false) := blk_cell h2 0
    have H4 := Lib.hid (And.intro hT4 (And.intro hK4 h1))
    clear hT4 hK4 h1 h2
    go_wp2
    refine abs_w (fun W5 => TG W5 p mb (.slice none 0 0) G [] ∧ Keeps w W5 (fun b => b = p) ∧ W5.cell? ⟨w.heap.size + 1, 0, none⟩ = some (.slice none 0 0) ∧ W5.cell? ⟨W4.heap.size, 0, none⟩ = some (.bool false)) ?_ ?_
    · obtain ⟨hT4, hK4, h1⟩ := H4.out
      exact ⟨hT4.below ((Below.refl _ _).alloc (Nat.le_refl _) _), hK4.alloc _, blk_cell (blk_alloc h1 _) 0, blk_cell (blk_new _ _) 0⟩
    rintro W5 ⟨hT5, hK5, y1, y3⟩
    have H5 := Lib.hid (And.intro hT5 hK5)
    clear hT5 hK5
    go_wp2
    go_ret
    exact ⟨rfl, H5.out⟩
end Go.Proofs.Ytoolflmaaooplaa
