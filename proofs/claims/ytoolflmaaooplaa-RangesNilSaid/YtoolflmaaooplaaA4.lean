/- Ranges: put. -/
import Derived.Test.YtoolflmaaooplaaA3
namespace Go.Proofs.Ytoolflmaaooplaa
set_option linter.unusedVariables false
set_option linter.unusedSimpArgs false
open Go.RowKit Go.Maps Go.Sort Go.Proofs.YtoolflmaaooplaaW.PrintWords Go.Proofs.YtoolflmaaooplaaW.PrintLast Go.Proofs.YtoolflmaaooplaaW.PrintMore FLib
attribute [local go_sem] below_alloc_T below_drew_T below_drewN_T

theorem TG.grown {W W' : World} {p mb : Nat} {qv : Value} {G G' : List Ent} {Q : List Lk} (h : TG W p mb qv G Q) {D D' : DataW Unit} {n : Nat} (hD : W.ownsMap Try.prog 3 Rd mb 1000 D) (hD' : W'.ownsMap Try.prog 3 Rd mb n D') (hL' : DG D' G') (hg : W.grownBy W' (some mb))
    (hlen : G'.length ≤ 1000) (hrow : ∀ e ∈ G', e ∈ G ∨ (W.ownsRow 0 71 3 (entV (some e)) e.l.length (sflat e.l) ∧ e.g ≠ p ∧ e.g ≠ mb ∧ qv.ownBlock ≠ some e.g)) : TG W' p mb qv G' Q := by
  have hmb := hD.lt
  obtain ⟨es, clock, ho, -⟩ := hD
  have hpm : p ≠ mb := fun e => by have := h.hdr; rw [e, ho] at this; cases this
  have hmove : ∀ k, k < W.heap.size → k ≠ mb → W'.heap[k]? = W.heap[k]? := fun k hk hne => hg.block k hk (fun e => hne (by injection e))
  refine ⟨(hmove p (blk_lt h.hdr) hpm).trans h.hdr, ⟨_, owns_tight hD' (by rw [hL'.size]; exact hlen), hL'⟩, fun e he => ?_, fun e he => ?_, own_move h.queue (fun k hk => hmove k (row_lt h.queue hk) (fun e => h.sepq.2 (e ▸ hk))), h.sepq, hlen⟩
  · rcases hrow e he with he | ⟨hr, -, hm, -⟩
    · exact own_move (h.row e he) (fun k hk => hmove k (row_lt (h.row e he) hk) (fun e2 => by have := (h.sepr e he).2.1; simp [entV, Value.ownBlock] at hk; omega))
    · exact own_move hr (fun k hk => hmove k (row_lt hr hk) (fun e2 => by simp [entV, Value.ownBlock] at hk; omega))
  · rcases hrow e he with he | ⟨hr, h1, h2, h3⟩
    · exact h.sepr e he
    · exact ⟨h1, h2, h3⟩

set_option maxRecDepth 100000 in
theorem put_del (p mb : Nat) (qv : Value) (G : List Ent) (Q : List Lk) (hs : GSort G) (o : Int) (ho : (Lit.int .i64 o).wf = true) (a : Option Addr) (c : Nat) (w : World) (h : TG w p mb qv G Q) :
    Calls Try.prog 35 #[.pointer (some ⟨p, 0, none⟩), .int .i64 o, .slice a 0 c] w fun e w' => e = .returned (.tuple #[]) ∧ TG w' p mb qv (gDel G o) Q ∧ w.grownBy w' (some mb) := by
  have HT := Lib.hid h
  obtain ⟨D, hD, hL⟩ := h.map
  have HW := Lib.hid ho
  have HS := Lib.hid hs
  have c0 : w.cell? ⟨p, 0, none⟩ = some (.map (some mb)) := blk_cell h.hdr 0
  have HL := Lib.hid hL
  clear h ho hs hL
  go_enter Try.func35, Try.ntmps35
  go_wp2_with (first
      | (at_delete; refine wpList_delete_own _ rfl _ _ 65 3 rfl 60 keyI Try.underlying65 Rd mb 1000 D rfl hD _ _ rfl (keyI_of HW.out) ?_; intro w3 hown3 hturn3)
      | go_in)
  refine bodyPost_ret (results_none rfl _ _ _) rfl ?_
  have htd := World.ownsMap.tidy hD keyI
  exact ⟨rfl, HT.out.grown hD hown3 (HL.out.del htd HS.out o) hturn3.grown (Nat.le_trans (List.length_filter_le _ _) HT.out.len) (fun e he => .inl (mem_gDel.1 he).1), hturn3.grown⟩
set_option maxRecDepth 100000 in
theorem put_ins (p mb : Nat) (qv : Value) (G : List Ent) (Q : List Lk) (hs : GSort G) (e : Ent) (ho : (Lit.int .i64 e.own).wf = true) (hne : 0 < e.l.length) (hl : e.l.length ≤ 100000) (hG : G.length < 1000) (w : World) (h : TG w p mb qv G Q)
    (hr : w.ownsRow 0 71 3 (entV (some e)) e.l.length (sflat e.l)) (h1 : e.g ≠ p) (h2 : e.g ≠ mb) (h3 : qv.ownBlock ≠ some e.g) :
    Calls Try.prog 35 #[.pointer (some ⟨p, 0, none⟩), .int .i64 e.own, entV (some e)] w fun e' w' => e' = .returned (.tuple #[]) ∧ TG w' p mb qv (gPut G e) Q ∧ w.grownBy w' (some mb) := by
  have HT := Lib.hid h
  obtain ⟨D, hD, hL⟩ := h.map
  have htd := World.ownsMap.tidy hD keyI
  obtain ⟨w2, hrun, hown2, hg2⟩ := hD.update (val := entV (some e)) keyI Try.underlying65 (by unfold maxLen; omega) (keyI_of ho) (Rd_ent (some e))
  have hT2 : TG w2 p mb qv (gPut G e) Q := h.grown hD hown2 (hL.put htd hs e ho) hg2 (by rw [gPut_len hs]; split <;> omega) (fun x hx => by
    rcases mem_gPut.1 hx with rfl | ⟨hx, -⟩
    · exact .inr ⟨hr, h1, h2, h3⟩
    · exact .inl hx)
  have H2 := Lib.hid (And.intro hT2 hg2)
  have c0 : w.cell? ⟨p, 0, none⟩ = some (.map (some mb)) := blk_cell h.hdr 0
  have d0 : ((e.l.length : Int) == 0) = false := by simpa using (by omega : ¬ (e.l.length : Int) = 0)
  simp only [entV] at hrun ⊢
  have hn0 : ¬ e.l.length = 0 := by omega
  clear h hD hL htd hown2 hg2 hT2 hr h1 h2 h3 hG hs ho hne hl HT
  generalize e.l.length = n at hrun d0 hn0 ⊢
  generalize e.own = o at hrun ⊢
  go_enter Try.func35, Try.ntmps35
  go_wp2
  go_end0
  exact ⟨rfl, H2.out⟩
end Go.Proofs.Ytoolflmaaooplaa
