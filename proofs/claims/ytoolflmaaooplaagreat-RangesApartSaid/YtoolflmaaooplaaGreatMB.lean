/- Ranges: without. -/
import Derived.Test.YtoolflmaaooplaaGreatMA
import Derived.Test.YtoolflmaaooplaaGreatA0
import Derived.ControlIn
namespace Go.Proofs.YtoolflmaaooplaaGreat
section
set_option linter.unusedVariables false
set_option linter.unusedSimpArgs false
open Go.RowKit Go.Maps Go.Sort Go.Lib Go.Proofs.YtoolflmaaooplaaGreatW.PrintWords Go.Proofs.YtoolflmaaooplaaGreatW.PrintLast Go.Proofs.YtoolflmaaooplaaGreatW.PrintMore FLib
attribute [local go_sem] below_alloc_T below_drew_T below_drewN_T

theorem without_any (v : Value) (hv : v.oneCell' = true) (lo hi : Int) (w : World) :
    Calls Tryz.prog 47 #[v, .int .i64 lo, .int .i64 hi] w fun e w' =>
      e = .returned (.func (.func 69) #[] #[.pointer (some ⟨w.heap.size, 0, none⟩), .pointer (some ⟨w.heap.size + 1, 0, none⟩), .pointer (some ⟨w.heap.size + 2, 0, none⟩)]) ∧
      w' = ((w.alloc (.cells #[v] 45)).alloc (.cells #[.int .i64 lo] 2)).alloc (.cells #[.int .i64 hi] 2) := by
  have hc : v.cells = #[v] := by cases v <;> first | rfl | (simp [Value.oneCell'] at hv)
  go_enter Tryz.func47, Tryz.ntmps47
  go_wp2
  go_ret
  exact ⟨rfl, rfl⟩
theorem conflicts_any (p : Nat) (l : Lk) (w : World) :
    Calls Tryz.prog 43 #[.pointer (some ⟨p, 0, none⟩), lkV l] w fun e w' =>
      e = .returned (.func (.func 63) #[] #[.pointer (some ⟨w.heap.size, 0, none⟩), .pointer (some ⟨w.heap.size + 1, 0, none⟩)]) ∧
      w' = (w.alloc (.cells #[.pointer (some ⟨p, 0, none⟩)] 24)).alloc (.cells l.cells.toArray 29) := by
  obtain ⟨a0, a1, a2, a3⟩ := l
  simp only [lkV]
  go_enter Tryz.func43, Tryz.ntmps43
  go_wp2
  go_ret
  exact ⟨rfl, rfl⟩

/-- What is left of a span on the left of a range, on its right. -/
def leftP (s : Sp) (lo : Int) : List Sp := if s.lo < min s.hi lo then [⟨s.lo, min s.hi lo, s.ex⟩] else []
def rightP (s : Sp) (hi : Int) : List Sp := if max s.lo hi < s.hi then [⟨max s.lo hi, s.hi, s.ex⟩] else []
def cutP (l : List Sp) (lo hi : Int) : List Sp := l.flatMap (fun s => leftP s lo ++ rightP s hi)
theorem cutP_snoc (l : List Sp) (s : Sp) (lo hi : Int) : cutP (l ++ [s]) lo hi = cutP l lo hi ++ (leftP s lo ++ rightP s hi) := by
  unfold cutP; rw [List.flatMap_append]; simp
/-- Does a granted span of an owner conflict with a lock? -/
def confB (o : Int) (l : Lk) (s : Sp) : Bool := (o != l.own) && (overI s (spanI l) && (s.ex || l.ex))
/-- The granted locks that conflict with one, in order. -/
def confL (G : List Ent) (l : Lk) : List Lk := G.flatMap (fun e => (e.l.filter (confB e.own l)).map (fun s => lockI s e.own))
theorem confL_cons (e : Ent) (G : List Ent) (l : Lk) : confL (e :: G) l = (e.l.filter (confB e.own l)).map (fun s => lockI s e.own) ++ confL G l := rfl
end
section
set_option linter.unusedVariables false
set_option linter.unusedSimpArgs false
open Go.RowKit Go.Maps Go.Sort Go.Lib Go.Proofs.YtoolflmaaooplaaGreatW.PrintWords Go.Proofs.YtoolflmaaooplaaGreatW.PrintLast Go.Proofs.YtoolflmaaooplaaGreatW.PrintMore FLib
attribute [local go_sem] Oper.semAt_some
attribute [local go_sem] below_alloc_T below_drew_T below_drewN_T

/-- What the iterator reads. -/
structure RdW (q : Nat) (v : Value) (l : List Sp) (lo hi : Int) (W : World) : Prop where
  b0 : W.heap[q]? = some (.cells #[v] 45 (0, 0))
  b1 : W.heap[q + 1]? = some (.cells #[.int .i64 lo] 2 (0, 0))
  b2 : W.heap[q + 2]? = some (.cells #[.int .i64 hi] 2 (0, 0))
  row : W.ownsRow 0 50 3 v l.length (sflat l)
def encP (L : List Sp) (k : Nat) : Array Value := match L[k]? with | some s => #[spV s] | none => #[.int .i64 0]
theorem encP_size (L : List Sp) (k : Nat) : (encP L k).size = 1 := by unfold encP; split <;> rfl
/-- A region in an iterator, its frame and its world told in short. -/
theorem region_in {id : Nat} {ops : Array Oper} {b : Bool} {P : Program} {m : Nat} {Q : Exit → Act → World → Prop} {a : Act} {w : World} (Φ : Act → Act → World → Prop)
    (h : (Code.region id ops b).wp P (fun e a' w' => e = .normal ∧ Φ a a' w') a w) (hq : ∀ a' w', Φ a a' w' → Q .normal a' w') : (Code.region id ops b).wpIn Fence.wide m P Q a w :=
  wpIn_wide.2 (Code.wp_mono (fun e a' w' hp => by obtain ⟨rfl, hp⟩ := hp; exact hq a' w' hp) h)
theorem abs_in {c : Code} {F : Fence} {n : Nat} {P : Program} {Q : Exit → Act → World → Prop} {a : Act} {w : World} (Fp : World → Prop) (h0 : Fp w) (h : ∀ w2, Fp w2 → c.wpIn F n P Q a w2) : c.wpIn F n P Q a w := h w h0

theorem cut_len {l : List Sp} {k : Nat} {lo hi : Int} {a b : List Sp} (h : cutP (l.take (k + 1)) lo hi = cutP (l.take k) lo hi ++ (a ++ b)) : (cutP (l.take (k + 1)) lo hi).length = (cutP (l.take k) lo hi).length + (a.length + b.length) := by
  rw [h, List.length_append, List.length_append]
theorem blk_new1 (w : World) (o o2 : Obj) : ((w.alloc o).alloc o2).drew.heap[w.heap.size + 1]? = some o2 := by
  have := heap_alloc_new (w.alloc o) o2
  rw [World.size_alloc] at this
  exact this
theorem st4 {W1 W2 : World} {b7 b8 : Nat} {s0 s1 lo hi : Int} {s2 : Bool} (hb : Below W1.heap.size W1 W2) (hne : b7 ≠ b8) (h7 : W1.heap.size ≤ b7) (h8 : W1.heap.size ≤ b8) (c7 : W2.heap[b7]? = some (.cells (Sp.cells ⟨s0, s1, s2⟩).toArray 50 (0, 0))) (c8 : W2.heap[b8]? = some (.cells (Sp.cells ⟨s0, s1, s2⟩).toArray 50 (0, 0))) :
    Below W1.heap.size W1 ((W2.setCell ⟨b7, 1, none⟩ (.int .i64 (min s1 lo))).setCell ⟨b8, 0, none⟩ (.int .i64 (max s0 hi))).drew ∧
      ((W2.setCell ⟨b7, 1, none⟩ (.int .i64 (min s1 lo))).setCell ⟨b8, 0, none⟩ (.int .i64 (max s0 hi))).drew.heap[b7]? = some (.cells (Sp.cells ⟨s0, min s1 lo, s2⟩).toArray 50 (0, 0)) ∧
      ((W2.setCell ⟨b7, 1, none⟩ (.int .i64 (min s1 lo))).setCell ⟨b8, 0, none⟩ (.int .i64 (max s0 hi))).drew.heap[b8]? = some (.cells (Sp.cells ⟨max s0 hi, s1, s2⟩).toArray 50 (0, 0)) :=
  ⟨((((Keeps.of_below hb (fun _ => False)).set ⟨b7, 1, none⟩ _ (.inr h7)).set ⟨b8, 0, none⟩ _ (.inr h8)).drew).below (Nat.le_refl _) (fun _ h => h.elim),
    blk_drew (blk_far (blk_put c7 1 _ rfl) hne _), blk_drew (blk_put (blk_far c8 (Ne.symm hne) _) 0 _ rfl)⟩
theorem st4' {W1 W2 : World} {b7 b8 : Nat} {s0 s1 lo hi : Int} {s2 : Bool} (hb : Below W1.heap.size W1 W2) (hne : b7 ≠ b8) (h7 : W1.heap.size ≤ b7) (h8 : W1.heap.size ≤ b8) (c7 : W2.heap[b7]? = some (.cells (Sp.cells ⟨s0, s1, s2⟩).toArray 50 (0, 0))) (c8 : W2.heap[b8]? = some (.cells (Sp.cells ⟨s0, s1, s2⟩).toArray 50 (0, 0))) :
    Below W1.heap.size W1 ((W2.setCell ⟨b8, 0, none⟩ (.int .i64 (max s0 hi))).setCell ⟨b7, 1, none⟩ (.int .i64 (min s1 lo))).drew ∧
      ((W2.setCell ⟨b8, 0, none⟩ (.int .i64 (max s0 hi))).setCell ⟨b7, 1, none⟩ (.int .i64 (min s1 lo))).drew.heap[b7]? = some (.cells (Sp.cells ⟨s0, min s1 lo, s2⟩).toArray 50 (0, 0)) ∧
      ((W2.setCell ⟨b8, 0, none⟩ (.int .i64 (max s0 hi))).setCell ⟨b7, 1, none⟩ (.int .i64 (min s1 lo))).drew.heap[b8]? = some (.cells (Sp.cells ⟨max s0 hi, s1, s2⟩).toArray 50 (0, 0)) :=
  ⟨((((Keeps.of_below hb (fun _ => False)).set ⟨b8, 0, none⟩ _ (.inr h8)).set ⟨b7, 1, none⟩ _ (.inr h7)).drew).below (Nat.le_refl _) (fun _ h => h.elim),
    blk_drew (blk_put (blk_far c7 hne _) 1 _ rfl), blk_drew (blk_far (blk_put c8 0 _ rfl) (Ne.symm hne) _)⟩
theorem cut_step {l : List Sp} {k : Nat} {s : Sp} (h : l[k]? = some s) (lo hi : Int) : cutP (l.take (k + 1)) lo hi = cutP (l.take k) lo hi ++ (leftP s lo ++ rightP s hi) := by
  rw [List.take_add_one, h]; exact cutP_snoc _ _ _ _
theorem cut_all (l : List Sp) (j : Nat) (lo hi : Int) : cutP l lo hi = cutP (l.take j) lo hi ++ cutP (l.drop j) lo hi := by
  unfold cutP; rw [← List.flatMap_append, List.take_append_drop]
theorem cut_get {l : List Sp} {k : Nat} {s : Sp} (h : l[k]? = some s) (lo hi : Int) : ∀ (j : Nat) (x : Sp), (leftP s lo ++ rightP s hi)[j]? = some x →
    (cutP (l.take k) lo hi).length + j < (cutP l lo hi).length ∧ encP (cutP l lo hi) ((cutP (l.take k) lo hi).length + j) = #[spV x] := by
  intro j x hx
  have e : (cutP l lo hi)[(cutP (l.take k) lo hi).length + j]? = some x := by
    rw [cut_all l (k + 1), cut_step h, List.append_assoc, List.getElem?_append_right (by omega), Nat.add_sub_cancel_left, List.getElem?_append_left (List.getElem?_eq_some_iff.1 hx).1]
    exact hx
  exact ⟨(List.getElem?_eq_some_iff.1 e).1, by unfold encP; rw [e]⟩
set_option maxRecDepth 100000 in
set_option maxHeartbeats 2000000 in
theorem without_at (m : Nat) (hm : 3 ≤ m) (q g c : Nat) (l : List Sp) (lo hi : Int) (hl : l.length ≤ 1000) (w : World) (h : RdW q (.slice (some ⟨g, 0, none⟩) l.length c) l lo hi w) :
    SeqAt m Tryz.prog 69 #[] #[.pointer (some ⟨q, 0, none⟩), .pointer (some ⟨q + 1, 0, none⟩), .pointer (some ⟨q + 2, 0, none⟩)] (cutP l lo hi).length (encP (cutP l lo hi)) (fun _ W => RdW q (.slice (some ⟨g, 0, none⟩) l.length c) l lo hi W) w := by
  intro yl J Jx W hW hRd hX hY h0
  have HRD := Lib.hid hRd
  have HX := Lib.hid hX
  have HY := Lib.hid hY
  have HJ0 := Lib.hid h0
  have hR0 := hRd _ _ _ h0
  have c0 : W.cell? ⟨q, 0, none⟩ = some (.slice (some ⟨g, 0, none⟩) l.length c) := blk_cell hR0.b0 0
  have HL := Lib.hid hl
  have hm1 : 1 ≤ m := by omega
  clear h hW hRd hX hY h0 hR0 hl
  refine callsIn_of_wp Tryz.func69 rfl trivial ?_ rfl
  simp only [Tryz.ntmps69, List.size_toArray, List.length_cons, List.length_nil, Nat.reduceAdd, Nat.reduceSub, Array.replicate_succ, Array.replicate_zero, List.push_toArray, List.append_toArray, List.nil_append, List.cons_append]
  gi_wp2
  gi_loopw [11] (fun i wr => ∃ k : Nat, k ≤ l.length ∧ i = .int .i64 k ∧ ∃ B, Hid (J B (cutP (l.take k) lo hi).length wr)) (fun i _ => l.length - (RowKit.intOf i).toNat)
  case atStart => exact ⟨0, Nat.zero_le _, rfl, _, HJ0⟩
  case round =>
    obtain ⟨k, hk, rfl, B, hJ⟩ := hrel
    have hlr : (l.length : Int) ≤ 1000 := by have := HL.out; omega
    by_cases hlt : k < l.length
    · obtain ⟨s, hs⟩ : ∃ s, l[k]? = some s := ⟨_, List.getElem?_eq_getElem hlt⟩
      have hR := HRD.out _ _ _ hJ.out
      obtain ⟨p0, p1, p2⟩ := row_sp hR.row hs
      have hk0 : (0 : Int) ≤ (k : Int) := by omega
      have hk1 : (k : Int) < (l.length : Int) := by omega
      gi_wp2
      have HS := Lib.hid hs
      have HLT := Lib.hid hlt
      clear hs hlt hR p0 p1 p2
      refine abs_in (fun W1 => J (ext B wr W1) (cutP (l.take k) lo hi).length W1 ∧ W1.heap[wr.heap.size]? = some (.cells s.cells.toArray 50 (0, 0))) ⟨HX.out _ _ _ _ hJ.out ((Below.refl _ _).alloc (Nat.le_refl _) _), blk_new _ _⟩ ?_
      rintro W1 ⟨hJ1, h6⟩
      generalize ext B wr W1 = B1 at hJ1
      generalize wr.heap.size = b6 at h6 ⊢
      clear hJ
      have HJ1 := Lib.hid hJ1
      clear hJ1
      obtain ⟨s0, s1, s2⟩ := s
      have x0 : ∀ w' : World, w'.heap[b6]? = some (.cells (Sp.cells ⟨s0, s1, s2⟩).toArray 50 (0, 0)) → w'.cell? ⟨b6, 0, none⟩ = some (.int .i64 s0) := fun w' hw => blk_cell hw 0
      have x1 : ∀ w' : World, w'.heap[b6]? = some (.cells (Sp.cells ⟨s0, s1, s2⟩).toArray 50 (0, 0)) → w'.cell? ⟨b6, 1, none⟩ = some (.int .i64 s1) := fun w' hw => blk_cell hw 1
      have x2 : ∀ w' : World, w'.heap[b6]? = some (.cells (Sp.cells ⟨s0, s1, s2⟩).toArray 50 (0, 0)) → w'.cell? ⟨b6, 2, none⟩ = some (.bool s2) := fun w' hw => blk_cell hw 2
      refine region_in (fun a a' w' => ∃ b7 b8 : Nat, a' = { tmps := (((a.tmps.setIfInBounds 15 (spV ⟨s0, s1, s2⟩)).setIfInBounds 16 (spV ⟨s0, s1, s2⟩)).setIfInBounds 7 (.pointer (some ⟨b7, 0, none⟩))).setIfInBounds 8 (.pointer (some ⟨b8, 0, none⟩)), defers := a.defers } ∧
        Below W1.heap.size W1 w' ∧ b7 ≠ b8 ∧ W1.heap.size ≤ b7 ∧ W1.heap.size ≤ b8 ∧ w'.heap[b7]? = some (.cells (Sp.cells ⟨s0, s1, s2⟩).toArray 50 (0, 0)) ∧ w'.heap[b8]? = some (.cells (Sp.cells ⟨s0, s1, s2⟩).toArray 50 (0, 0))) ?_ ?_
      · go_region_held3 (fun w' => w'.heap[b6]? = some (.cells (Sp.cells ⟨s0, s1, s2⟩).toArray 50 (0, 0))) (first | assumption | (repeat (first | assumption | apply blk_drew | apply blk_alloc)) | (trace_state; fail)) (fail)
        all_goals (refine ⟨rfl, _, _, rfl, below_drew (below_alloc (below_alloc (Below.refl _ _) _) _), by omega, by omega, by omega, ?_, ?_⟩)
        all_goals (first | exact blk_new1 _ _ _ | exact blk_drew (blk_alloc (blk_new _ _) _))
      · rintro a' W2 ⟨b7, b8, rfl, hb2, hne, h7, h8, hc7, hc8⟩
        simp only [List.setIfInBounds_toArray, List.set_cons_zero, List.set_cons_succ]
        have hJ2 := HX.out _ _ _ _ HJ1.out hb2
        have hR2 := HRD.out _ _ _ hJ2
        have hR1 := HRD.out _ _ _ HJ1.out
        have e1 := hR2.b1
        have e2 := hR2.b2
        have e6 : W2.heap[b6]? = some (.cells (Sp.cells ⟨s0, s1, s2⟩).toArray 50 (0, 0)) := blk_below h6 hb2
        have f7 : W2.frozen? ⟨b7, 1, none⟩ = false := blk_frozen hc7 1
        have f8 : W2.frozen? ⟨b8, 0, none⟩ = false := blk_frozen hc8 0
        have g7 : W2.cell? ⟨b7, 1, none⟩ = some (.int .i64 s1) := blk_cell hc7 1
        have g8 : W2.cell? ⟨b8, 0, none⟩ = some (.int .i64 s0) := blk_cell hc8 0
        have y1 : ∀ w' : World, w'.heap[q + 1]? = some (.cells #[.int .i64 lo] 2 (0, 0)) → w'.cell? ⟨q + 1, 0, none⟩ = some (.int .i64 lo) := fun w' hw => blk_cell hw 0
        have y2 : ∀ w' : World, w'.heap[q + 2]? = some (.cells #[.int .i64 hi] 2 (0, 0)) → w'.cell? ⟨q + 2, 0, none⟩ = some (.int .i64 hi) := fun w' hw => blk_cell hw 0
        have HC := Lib.hid (show _ ∧ _ ∧ _ ∧ _ ∧ _ ∧ _ from ⟨hb2, hne, h7, h8, hc7, hc8⟩)
        have n67 : b6 ≠ b7 := by have := blk_lt h6; omega
        have n17 : q + 1 ≠ b7 := by have := blk_lt hR1.b1; omega
        have n27 : q + 2 ≠ b7 := by have := blk_lt hR1.b2; omega
        have n18 : q + 1 ≠ b8 := by have := blk_lt hR1.b1; omega
        have n28 : q + 2 ≠ b8 := by have := blk_lt hR1.b2; omega
        have n68 : b6 ≠ b8 := by have := blk_lt h6; omega
        clear hJ2 hR2 hR1 hb2 h7 h8 hc7 hc8
        gi_wp2
        refine region_in (fun a a' w' => ∃ v17 v18 v19 v20 v21 v22 v23 v24 v25 v26 : Value, a' = { tmps := (((((((((a.tmps.setIfInBounds 17 v17).setIfInBounds 18 v18).setIfInBounds 19 v19).setIfInBounds 20 v20).setIfInBounds 21 v21).setIfInBounds 22 v22).setIfInBounds 23 v23).setIfInBounds 24 v24).setIfInBounds 25 v25).setIfInBounds 26 v26, defers := a.defers } ∧
          Below W1.heap.size W1 w' ∧ w'.heap[b7]? = some (.cells (Sp.cells ⟨s0, min s1 lo, s2⟩).toArray 50 (0, 0)) ∧ w'.heap[b8]? = some (.cells (Sp.cells ⟨max s0 hi, s1, s2⟩).toArray 50 (0, 0))) ?_ ?_
        · go_region_held3 (fun w' => w'.heap[b6]? = some (.cells (Sp.cells ⟨s0, s1, s2⟩).toArray 50 (0, 0)) ∧ w'.heap[q + 1]? = some (.cells #[.int .i64 lo] 2 (0, 0)) ∧ w'.heap[q + 2]? = some (.cells #[.int .i64 hi] 2 (0, 0)))
            (repeat (first | assumption | apply And.intro | apply blk_drew | (refine blk_far ?_ (by assumption) _))) (fail)
          all_goals refine ⟨rfl, _, _, _, _, _, _, _, _, _, _, rfl, ?_⟩
          all_goals (obtain ⟨c1, c2, c3, c4, c5, c6⟩ := HC.out; first | exact st4 c1 c2 c3 c4 c5 c6 | exact st4' c1 c2 c3 c4 c5 c6)
        · rintro a' W3 ⟨v17, v18, v19, v20, v21, v22, v23, v24, v25, v26, rfl, hb3, hc7, hc8⟩
          simp only [List.setIfInBounds_toArray, List.set_cons_zero, List.set_cons_succ]
          obtain ⟨c1, c2, c3, c4, c5, c6⟩ := HC.out
          have hJ3 := HX.out _ _ _ _ HJ1.out hb3
          have hB8 : ext B1 W1 W3 b8 := .inr ⟨c4, blk_lt hc8⟩
          generalize ext B1 W1 W3 = B3 at hJ3 hB8
          have i70 : W3.cell? ⟨b7, 0, none⟩ = some (.int .i64 s0) := blk_cell hc7 0
          have i71 : W3.cell? ⟨b7, 1, none⟩ = some (.int .i64 (min s1 lo)) := blk_cell hc7 1
          have i72 : W3.cell? ⟨b7, 2, none⟩ = some (.bool s2) := blk_cell hc7 2
          clear x0 x1 x2 y1 y2 e1 e2 e6 f7 f8 g7 g8 h6 n67 n17 n27 n18 n28 n68 hc7 c1 c2 c3 c4 c5 c6 hne hb3 HC
          have HR7 := Lib.hid (cut_get (k := k) HS.out lo hi)
          have HST := Lib.hid (cut_len (cut_step (k := k) HS.out lo hi))
          have HB8 := Lib.hid hB8
          have HC8 := Lib.hid hc8
          clear hB8 hc8
          generalize (cutP (l.take k) lo hi).length = n at hJ3 HR7 HST
          cases d1 : decide (s0 < min s1 lo)
          · have hl0 : leftP ⟨s0, s1, s2⟩ lo = [] := by unfold leftP; rw [if_neg (of_decide_eq_false d1)]
            have HL1 := Lib.hid hl0
            clear hl0
            have j80 : W3.cell? ⟨b8, 0, none⟩ = some (.int .i64 (max s0 hi)) := blk_cell HC8.out 0
            have j81 : W3.cell? ⟨b8, 1, none⟩ = some (.int .i64 s1) := blk_cell HC8.out 1
            have j82 : W3.cell? ⟨b8, 2, none⟩ = some (.bool s2) := blk_cell HC8.out 2
            cases d2 : decide (max s0 hi < s1)
            · have hr0 : rightP ⟨s0, s1, s2⟩ hi = [] := by unfold rightP; rw [if_neg (of_decide_eq_false d2)]
              have HN := Lib.hid (show J B3 (cutP (l.take (k + 1)) lo hi).length W3 by
                rw [HST.out, HL1.out, hr0]
                exact hJ3)
              clear hr0 hJ3
              gi_wp2
              repeat (refine ⟨fun _ h => (by cases h), ?_⟩; gi_wp2)
              go_roundw
              case rel => exact ⟨k + 1, by have := HLT.out; omega, by go_num, _, HN⟩
              case measure => simp [RowKit.intOf]; have := HLT.out; omega
            · have hr1 : rightP ⟨s0, s1, s2⟩ hi = [⟨max s0 hi, s1, s2⟩] := by unfold rightP; rw [if_pos (of_decide_eq_true d2)]
              obtain ⟨hlt2, henc2⟩ := HR7.out 0 ⟨max s0 hi, s1, s2⟩ (by rw [HL1.out, hr1]; rfl)
              obtain ⟨fn2, tmps2, assign2, body2, hy2, hR2⟩ := HY.out B3 _ W3 hlt2 hJ3
              rw [henc2] at hy2
              have HR2 := Lib.hid hR2
              have HSL := Lib.hid (show (cutP (l.take (k + 1)) lo hi).length = n + 0 + 1 by rw [HST.out, HL1.out, hr1]; rfl)
              clear hR2 hlt2 henc2 hr1 hJ3
              simp only [spV] at hy2
              gi_wp2
              repeat (refine ⟨fun _ h => (by cases h), ?_⟩; gi_wp2)
              refine HR2.out.mono ?_
              rintro e W5 (⟨rfl, hJ5, hS5⟩ | ⟨rfl, hx⟩)
              · have HN := Lib.hid (show J B3 (cutP (l.take (k + 1)) lo hi).length W5 by rw [HSL.out]; exact hJ5)
                clear hS5 hJ5 hy2
                gi_wp2
                repeat (refine ⟨fun _ h => (by cases h), ?_⟩; gi_wp2)
                go_roundw
                case rel => exact ⟨k + 1, by have := HLT.out; omega, by go_num, _, HN⟩
                case measure => simp [RowKit.intOf]; have := HLT.out; omega
              · gi_wp2
                (try simp only [Exit.inBlock, Exit.then])
                refine bodyPost_ret (results_none rfl _ _ _) rfl ?_
                exact ⟨⟨_, rfl⟩, .inr hx⟩
          · have hl1 : leftP ⟨s0, s1, s2⟩ lo = [⟨s0, min s1 lo, s2⟩] := by unfold leftP; rw [if_pos (of_decide_eq_true d1)]
            obtain ⟨hlt1, henc⟩ := HR7.out 0 ⟨s0, min s1 lo, s2⟩ (by rw [hl1]; rfl)
            rw [Nat.add_zero] at hlt1 henc
            obtain ⟨fn, tmps, assign, body, hy, hR⟩ := HY.out B3 _ W3 hlt1 hJ3
            rw [henc] at hy
            have HR := Lib.hid hR
            have HL1 := Lib.hid hl1
            clear hR hlt1 henc hl1 hJ3
            simp only [spV] at hy
            gi_wp2
            repeat (refine ⟨fun _ h => (by cases h), ?_⟩; gi_wp2)
            refine HR.out.mono ?_
            rintro e W' (⟨rfl, hJ', hS'⟩ | ⟨rfl, hx⟩)
            · have hc8 := (hS' b8 HB8.out).trans HC8.out
              clear hS' HC8 hy
              have j80 : W'.cell? ⟨b8, 0, none⟩ = some (.int .i64 (max s0 hi)) := blk_cell hc8 0
              have j81 : W'.cell? ⟨b8, 1, none⟩ = some (.int .i64 s1) := blk_cell hc8 1
              have j82 : W'.cell? ⟨b8, 2, none⟩ = some (.bool s2) := blk_cell hc8 2
              clear hc8
              cases d2 : decide (max s0 hi < s1)
              · have hr0 : rightP ⟨s0, s1, s2⟩ hi = [] := by unfold rightP; rw [if_neg (of_decide_eq_false d2)]
                have HN := Lib.hid (show J B3 (cutP (l.take (k + 1)) lo hi).length W' by
                  rw [HST.out, HL1.out, hr0]
                  exact hJ')
                clear hr0 hJ'
                gi_wp2
                repeat (refine ⟨fun _ h => (by cases h), ?_⟩; gi_wp2)
                go_roundw
                case rel => exact ⟨k + 1, by have := HLT.out; omega, by go_num, _, HN⟩
                case measure => simp [RowKit.intOf]; have := HLT.out; omega
              · have hr1 : rightP ⟨s0, s1, s2⟩ hi = [⟨max s0 hi, s1, s2⟩] := by unfold rightP; rw [if_pos (of_decide_eq_true d2)]
                obtain ⟨hlt2, henc2⟩ := HR7.out 1 ⟨max s0 hi, s1, s2⟩ (by rw [HL1.out, hr1]; rfl)
                obtain ⟨fn2, tmps2, assign2, body2, hy2, hR2⟩ := HY.out B3 _ W' hlt2 hJ'
                rw [henc2] at hy2
                have HR2 := Lib.hid hR2
                have HSL := Lib.hid (show (cutP (l.take (k + 1)) lo hi).length = n + 1 + 1 by rw [HST.out, HL1.out, hr1]; rfl)
                clear hR2 hlt2 henc2 hr1 hJ'
                simp only [spV] at hy2
                gi_wp2
                repeat (refine ⟨fun _ h => (by cases h), ?_⟩; gi_wp2)
                refine HR2.out.mono ?_
                rintro e W5 (⟨rfl, hJ5, hS5⟩ | ⟨rfl, hx⟩)
                · have HN := Lib.hid (show J B3 (cutP (l.take (k + 1)) lo hi).length W5 by rw [HSL.out]; exact hJ5)
                  clear hS5 hJ5 hy2
                  gi_wp2
                  repeat (refine ⟨fun _ h => (by cases h), ?_⟩; gi_wp2)
                  go_roundw
                  case rel => exact ⟨k + 1, by have := HLT.out; omega, by go_num, _, HN⟩
                  case measure => simp [RowKit.intOf]; have := HLT.out; omega
                · gi_wp2
                  (try simp only [Exit.inBlock, Exit.then])
                  refine bodyPost_ret (results_none rfl _ _ _) rfl ?_
                  exact ⟨⟨_, rfl⟩, .inr hx⟩
            · gi_wp2
              (try simp only [Exit.inBlock, Exit.then])
              refine bodyPost_ret (results_none rfl _ _ _) rfl ?_
              exact ⟨⟨_, rfl⟩, .inr hx⟩
    · obtain rfl : k = l.length := by omega
      rw [List.take_length] at hJ
      gi_wp2
      go_end0
      exact ⟨⟨_, rfl⟩, .inl ⟨_, hJ.out⟩⟩
end
end Go.Proofs.YtoolflmaaooplaaGreat
