/- Ranges: free. -/
import Derived.Test.YtoolflmaaooplaaB3
namespace Go.Proofs.Ytoolflmaaooplaa
set_option linter.unusedVariables false
set_option linter.unusedSimpArgs false
open Go.RowKit Go.Maps Go.Sort Go.Lib Go.Shelf Go.Proofs.YtoolflmaaooplaaW.PrintWords Go.Proofs.YtoolflmaaooplaaW.PrintLast Go.Proofs.YtoolflmaaooplaaW.PrintMore FLib
attribute [local go_sem] Oper.semAt_some
attribute [local go_sem] below_alloc_T below_drew_T below_drewN_T

def encVC (L : List Lk) (k : Nat) : Value := match L[k]? with | some x => lkV x | none => .int .i64 0
theorem encC_eq (L : List Lk) (k : Nat) : encC L k = #[encVC L k] := by unfold encC encVC; cases L[k]? <;> rfl
theorem RdC.below {p mb : Nat} {qv : Value} {G : List Ent} {Q : List Lk} {q : Nat} {l : Lk} {W W' : World} (h : RdC p mb qv G Q q l W) (hb : Below W.heap.size W W') : RdC p mb qv G Q q l W' := ⟨h.tg.below hb, blk_below h.b0 hb, blk_below h.b1 hb⟩
theorem below_put {w W : World} (h : Below w.heap.size w W) {l : Nat} (hl : w.heap.size ≤ l) (o : Obj) : Below w.heap.size w (W.putObj l o) :=
  ⟨h.os, h.tape, h.output, by simpa [World.putObj] using h.size, fun k hk => (World.putObj_heap_other (by omega)).trans (h.block k hk)⟩
theorem below_back {w W1 W2 : World} (h : Below w.heap.size w W1) (hb : Below W1.heap.size W1 W2) : Below w.heap.size w W2 := h.trans (hb.mono h.size)

set_option maxRecDepth 100000 in
set_option maxHeartbeats 2000000 in
theorem free_any (p mb : Nat) (qv : Value) (G : List Ent) (Q : List Lk) (hs : GSort G) (hok : GOk G) (l : Lk) (hl : -1000000 ≤ l.st + l.len ∧ l.st + l.len ≤ 1000000) (w : World) (h : TG w p mb qv G Q) :
    Calls Try.prog 32 #[.pointer (some ⟨p, 0, none⟩), lkV l] w fun e w' => e = .returned (.bool (confL G l).isEmpty) ∧ Below w.heap.size w w' := by
  refine (callsIn_wide (n := 20)).1 ?_
  have HT := Lib.hid h
  have HC := Lib.hid (fun w => (callsIn_wide (n := 19)).2 (conflicts_any p l w))
  have HS := Lib.hid hs
  have HOK := Lib.hid hok
  have HL := Lib.hid hl
  clear h hs hok hl
  have e0 : w.heap[w.heap.size]? = none := by simp
  refine callsIn_of_wp_marks Try.func32 rfl trivial ?_ rfl
  simp only [Try.ntmps32, List.size_toArray, List.length_cons, List.length_nil, Nat.reduceAdd, Nat.reduceSub, Array.replicate_succ, Array.replicate_zero, List.push_toArray, List.append_toArray, List.nil_append, List.cons_append]
  simp only [lkV] at HC ⊢
  have h42 : Fence.wide.fn 42 := trivial
  gi_wp2_with fail
  refine (HC.out _).mono ?_
  rintro e w3 ⟨rfl, rfl⟩
  simp only [World.size_alloc]
  gi_wp2
  refine abs_in (fun W0 => W0.heap.size = w.heap.size + 4 ∧ RdC p mb qv G Q (w.heap.size + 1 + 1) l W0 ∧ W0.heap[w.heap.size + 1]? = some (.cells #[.bool false] 4 (0, 0)) ∧ Below w.heap.size w W0) ?_ ?_
  · have hb : ∀ o1 o2 o3 o4 : Obj, Below w.heap.size w ((((w.alloc o1).alloc o2).alloc o3).alloc o4) := fun o1 o2 o3 o4 => below_alloc (below_alloc (below_alloc (below_alloc (Below.refl _ _) _) _) _) _
    refine ⟨by simp, ⟨HT.out.below (hb _ _ _ _), ?_, ?_⟩, ?_, hb _ _ _ _⟩
    · have := blk_alloc (blk_new ((w.alloc (.cells #[.int .i64 l.own, .int .i64 l.st, .int .i64 l.len, .bool l.ex] 23)).alloc (.cells #[.bool false] 4)) (.cells #[.pointer (some ⟨p, 0, none⟩)] 24)) (.cells l.cells.toArray 23)
      simpa using this
    · have := blk_new (((w.alloc (.cells #[.int .i64 l.own, .int .i64 l.st, .int .i64 l.len, .bool l.ex] 23)).alloc (.cells #[.bool false] 4)).alloc (.cells #[.pointer (some ⟨p, 0, none⟩)] 24)) (.cells l.cells.toArray 23)
      simpa using this
    · have := blk_alloc (blk_alloc (blk_new (w.alloc (.cells #[.int .i64 l.own, .int .i64 l.st, .int .i64 l.len, .bool l.ex] 23)) (.cells #[.bool false] 4)) (.cells #[.pointer (some ⟨p, 0, none⟩)] 24)) (.cells l.cells.toArray 23)
      simpa using this
  rintro W0 ⟨hz0, hR0, h4, hB0⟩
  have HZ := Lib.hid hz0
  have HR0 := Lib.hid hR0
  have H4 := Lib.hid h4
  have HB0 := Lib.hid hB0
  clear hz0 hR0 h4 hB0
  refine range_at (m := 20) (by omega) (gf := 66) (ba := #[]) (lb := #[.pointer (some ⟨w.heap.size + 1 + 1, 0, none⟩), .pointer (some ⟨w.heap.size + 1 + 1 + 1, 0, none⟩)]) rfl (enters_of Try.func66 (by kernel_rfl) rfl)
    (conf_at 19 (by omega) p mb qv G Q HS.out HOK.out (w.heap.size + 1 + 1) l HL.out W0 HR0.out) (fun k => encC_size _ k)
    (fun _ k W => k = 0 ∧ Below W0.heap.size W0 W) (fun c W => c = .ret ∧ confL G l ≠ [] ∧ Below w.heap.size w W ∧ W.heap[w.heap.size + 1]? = some (.cells #[.bool false] 4 (0, 0))) ?rd ?inv ?invx ?ext ?start
    (fun k => { tmps := #[.pointer (some ⟨p, 0, none⟩), .agg #[.int .i64 l.own, .int .i64 l.st, .int .i64 l.len, .bool l.ex], undef, .pointer (some ⟨w.heap.size, 0, none⟩), .pointer (some ⟨w.heap.size + 1, 0, none⟩), .pointer (some ⟨p, 0, none⟩),
      .agg #[.int .i64 l.own, .int .i64 l.st, .int .i64 l.len, .bool l.ex], .func (.func 66) #[] #[.pointer (some ⟨w.heap.size + 1 + 1, 0, none⟩), .pointer (some ⟨w.heap.size + 1 + 1 + 1, 0, none⟩)], encVC (confL G l) k], defers := [] })
    ?assign ?body ?done ?stop
  case rd => exact fun _ k W hI => HR0.out.below hI.2
  case inv =>
    intro _ k W r o hI hl
    exact ⟨hI.1, below_put hI.2 (by have := HZ.out; omega) o⟩
  case invx =>
    rintro c W r o ⟨h1, h2, h3, h4⟩ hl
    exact ⟨h1, h2, below_put h3 (by have := HZ.out; omega) o, (World.putObj_heap_other (by have := HZ.out; omega)).trans h4⟩
  case ext => exact fun B k W1 W2 _ hI hb => ⟨hI.1, below_back hI.2 hb⟩
  case start => exact fun W hb _ => ⟨rfl, hb⟩
  case assign =>
    intro k W K hK
    rw [encC_eq]
    gi_wp2
    simpa using hK
  case body =>
    rintro B k W hB hk ⟨rfl, hI⟩
    have h4 := blk_below H4.out hI
    have a0 : W.cell? ⟨w.heap.size + 1, 0, none⟩ = some (.bool false) := blk_cell h4 0
    have a1 : W.frozen? ⟨w.heap.size + 1, 0, none⟩ = false := blk_frozen h4 0
    have HH := Lib.hid (And.intro hB (And.intro hk (And.intro hI h4)))
    clear hB hk hI h4
    gi_wp2
    obtain ⟨hB, hk, hI, h4⟩ := HH.out
    refine ⟨fun b hb => Below.heap_setCell _ _ _ _ (by have := hB b hb; have := HZ.out; show b ≠ w.heap.size + 1; omega), rfl, fun e => by rw [e] at hk; simp at hk, ?_, blk_put h4 0 _ rfl⟩
    exact ((Keeps.of_below (below_back HB0.out hI) (fun _ => False)).set ⟨w.heap.size + 1, 0, none⟩ _ (.inr (Nat.le_succ _))).below (Nat.le_refl _) (fun _ h => h.elim)
  case done =>
    rintro B W ⟨hN, hI⟩ hK
    have hnil : (confL G l).isEmpty = true := by rw [List.isEmpty_iff]; exact List.eq_nil_of_length_eq_zero hN
    have h4 := blk_below H4.out hI
    have a0 : W.cell? ⟨w.heap.size + 1, 0, none⟩ = some (.bool false) := blk_cell h4 0
    have a1 : W.frozen? ⟨w.heap.size + 1, 0, none⟩ = false := blk_frozen h4 0
    have HE := Lib.hid (And.intro hnil (And.intro hI (And.intro h4 hK)))
    clear hnil hI h4 hK hN
    gi_wp2
    obtain ⟨hnil, hI, h4, hK⟩ := HE.out
    have hK2 : (W.setCell ⟨w.heap.size + 1, 0, none⟩ (.bool true)).heap[W0.heap.size]? = some (.deferred (some [])) := (Below.heap_setCell _ _ _ _ (by have := HZ.out; show W0.heap.size ≠ w.heap.size + 1; omega)).trans hK
    have h42 := blk_put (cs' := #[.bool true]) h4 0 (.bool true) rfl
    have hbf : Below w.heap.size w (W.setCell ⟨w.heap.size + 1, 0, none⟩ (.bool true)) := ((Keeps.of_below (below_back HB0.out hI) (fun _ => False)).set ⟨w.heap.size + 1, 0, none⟩ _ (.inr (Nat.le_succ _))).below (Nat.le_refl _) (fun _ h => h.elim)
    refine ⟨by simp, .inl ⟨_, _, rfl, run_takeDeferred hK2, ?_⟩⟩
    have c3 : ((W.setCell ⟨w.heap.size + 1, 0, none⟩ (.bool true)).putObj W0.heap.size (.deferred none)).cell? ⟨w.heap.size + 1, 0, none⟩ = some (.bool true) := blk_cell ((World.putObj_heap_other (by have := HZ.out; omega)).trans h42) 0
    refine ⟨.bool true, by simp [results, Try.results32, go_sem, c3], by rw [hnil], below_put hbf (by have := HZ.out; omega) _⟩
  case stop =>
    rintro c W ⟨rfl, hne, hb, h4⟩ hK
    have hnil : (confL G l).isEmpty = false := by cases h : confL G l with | nil => exact absurd h hne | cons => rfl
    gi_wp2
    refine ⟨by simp, .inl ⟨_, _, rfl, run_takeDeferred hK, ?_⟩⟩
    have c3 : (W.putObj W0.heap.size (.deferred none)).cell? ⟨w.heap.size + 1, 0, none⟩ = some (.bool false) := blk_cell ((World.putObj_heap_other (by have := HZ.out; omega)).trans h4) 0
    refine ⟨.bool false, by simp [results, Try.results32, go_sem, c3], by rw [hnil], below_put hb (by have := HZ.out; omega) _⟩
end Go.Proofs.Ytoolflmaaooplaa
