/- slices.Grow and slices.Concat at the events. -/
import Derived.Test.YtepceelkfbjamaaA3
import Derived.LoopN
namespace Go.Proofs.Ytepceelkfbjamaa
open Go.RowKit Go.Proofs.YtepceelkfbjamaaW.PrintWords Go.Proofs.YtepceelkfbjamaaW.PrintLast Go.Proofs.YtepceelkfbjamaaW.PrintMore PTraceFilters FLib

theorem ev_zero (w : World) (base : Nat) : k47.M w base (fun _ => False) z47 (Value.agg #[(.int .i64 0), (.int .i64 0), (.int .i64 0), (.int .i64 0), (.int .i64 0), (.int .i64 0)]).cells.toList := k47_mkM w base (fun _ => False) z47

set_option maxRecDepth 100000 in
theorem grow0 (w : World) : Calls Try.prog 65 #[.slice none 0 0, .int .i64 0] w fun e w' => e = .returned (.slice none 0 0) ∧ w' = w := by
  go_enter Try.func65, Try.ntmps65
  go_wp2
  go_ret
  exact ⟨rfl, rfl⟩

set_option maxRecDepth 100000 in
theorem growN (n : Nat) (h0 : 0 < n) (h1 : n ≤ 1000000) (w : World) :
    Calls Try.prog 65 #[.slice none 0 0, .int .i64 n] w fun e w' => ∃ v, e = .returned v ∧ Kd.R k47 47 w' w.heap.size (fun _ => True) v [] ∧ Below w.heap.size w w' := by
  have h2 : ¬ (n : Int) < 0 := by omega
  have h3 : (0 : Int) < n := by omega
  go_enter Try.func65, Try.ntmps65
  go_wp2_with (at_builtin; refine Kd.R_append_zeros k47 (w0 := w) w.heap.size rfl (.tmp 20) (.tmp 21) 22 3 47 _ 48 rfl Try.underlying22 Try.underlying3 info47 rfl (by decide) (by decide) (.slice none 0 0) [] z47 (n : Int) (fun _ => True) rfl rfl (ev_zero _ _) (fun _ _ => trivial) (Kd.R_nil _ _ _ _ _) (by omega) (Below.refl _ _) (Nat.le_refl _) (by simp; omega) ?_)
  intro v1 w1 hR1 hB1 _ _
  have hn : (List.replicate n z47).length = n := by simp
  obtain ⟨gg, c, rfl, -⟩ := Kd.R_form hR1 (by omega)
  have hR2 := Kd.R_take (m := 0) hR1 (by omega)
  simp only [List.take_zero] at hR2
  have hnc : n ≤ c := by have := (Kd.R_reads' hR1).2.1; omega
  simp only [hn]
  have H := Lib.hid hR2
  have HB := Lib.hid hB1
  clear hR1 hn hR2 hB1
  go_wp2
  go_ret
  exact ⟨_, rfl, H.out, HB.out⟩

theorem grow_any (n : Nat) (h1 : n ≤ 1000000) (w : World) :
    Calls Try.prog 65 #[.slice none 0 0, .int .i64 n] w fun e w' => ∃ v, e = .returned v ∧ Kd.R k47 47 w' w.heap.size (fun _ => True) v [] ∧ Below w.heap.size w w' := by
  rcases Nat.eq_zero_or_pos n with rfl | h0
  · exact (grow0 w).mono fun e w' ⟨he, hw⟩ => ⟨_, he, by rw [hw]; exact Kd.R_nil _ _ _ _ _, by rw [hw]; exact Below.refl _ _⟩
  · exact growN n h0 h1 w

theorem ev_rows {w : World} {A : Option Addr} {n : Nat} {l : List S47} (h : Kd.C k47 w A n l) : ReadsRow (fun (x : S47) cs => cs = evCells x) k47.sz w A n l :=
  ReadsRow.imp_ h (Below.refl _ _) (fun _ _ hp => k47_open hp)

set_option maxRecDepth 100000 in
set_option maxHeartbeats 1600000 in
/-- Concat of two slices. -/
theorem concat2 (q : Nat) (A1 A2 : Option Addr) (c1 c2 : Nat) (l1 l2 : List S47) (w : World) (hq : w.heap[q]? = some (.cells #[.slice A1 l1.length c1, .slice A2 l2.length c2] 22 (0, 0)))
    (hC1 : Kd.C k47 w A1 l1.length l1) (hC2 : Kd.C k47 w A2 l2.length l2) (hn : l1.length + l2.length ≤ 1000000) :
    Calls Try.prog 58 #[.slice (some ⟨q, 0, none⟩) 2 2] w fun e w' => ∃ v, e = .returned v ∧ Kd.R k47 47 w' w.heap.size (fun _ => True) v (l1 ++ l2) ∧ Below w.heap.size w w' := by
  have q0 := blk_cell hq 0
  have q1 := blk_cell hq 1
  simp at q0 q1
  have HQ := Lib.hid hq
  have H1 := Lib.hid hC1
  have H2 := Lib.hid hC2
  have n1 : (l1.length : Int) ≤ 1000000 := by omega
  have n2 : (l1.length : Int) + (l2.length : Int) ≤ 1000000 := by omega
  clear hq hC1 hC2
  go_enter Try.func58, Try.ntmps58
  go_wp2
  refine wp_loop_rounds 3 ?_
  rw [rounds_succ]
  go_wp2
  rw [rounds_succ]
  go_wp2
  rw [rounds_succ]
  go_wp2_with fail
  rw [show ((l1.length : Int) + (l2.length : Int)) = ((l1.length + l2.length : Nat) : Int) from by simp]
  refine (grow_any _ (by omega) _).mono ?_
  rintro e w1 ⟨v, rfl, hR, hB⟩
  have q0' := pw_cell_below hB q0
  have q1' := pw_cell_below hB q1
  have HR := Lib.hid hR
  have HB := Lib.hid hB
  clear hR hB q0 q1
  go_wp2
  refine wp_loop_rounds 3 ?_
  rw [rounds_succ]
  go_wp2_with (at_builtin; refine Kd.R_append_rows k47 (w0 := w) (Rr := fun x cs => cs = evCells x) w.heap.size rfl (.tmp 31) (.tmp 32) 22 47 _ 48 rfl Try.underlying22 info47 rfl (by decide) (by decide) v [] l1 A1 l1.length c1 (fun _ => True) (fun _ => False) rfl rfl HR.out (ev_rows (Kd.C_below H1.out HB.out)) (fun x cs hx => by subst hx; exact k47_mkM _ _ _ x) (fun _ h => h.elim) (fun _ _ => trivial) HB.out HB.out.size (by simp; omega) ?_)
  intro v1 w2 hR2 hB2 _ _
  have q1'' := pw_cell_below hB2 (show w.cell? ⟨q, 1, none⟩ = some (.slice A2 l2.length c2) from by rw [blk_cell HQ.out]; rfl)
  have HR2 := Lib.hid hR2
  have HB2 := Lib.hid hB2
  clear hR2 hB2 HR HB q0' q1'
  go_wp2
  rw [rounds_succ]
  go_wp2_with (at_builtin; refine Kd.R_append_rows k47 (w0 := w) (Rr := fun x cs => cs = evCells x) w.heap.size rfl (.tmp 31) (.tmp 32) 22 47 _ 48 rfl Try.underlying22 info47 rfl (by decide) (by decide) v1 l1 l2 A2 l2.length c2 (fun _ => True) (fun _ => False) rfl rfl HR2.out (ev_rows (Kd.C_below H2.out HB2.out)) (fun x cs hx => by subst hx; exact k47_mkM _ _ _ x) (fun _ h => h.elim) (fun _ _ => trivial) HB2.out HB2.out.size (by omega) ?_)
  intro v3 w3 hR3 hB3 _ _
  have HR3 := Lib.hid hR3
  have HB3 := Lib.hid hB3
  clear hR3 hB3 HR2 HB2 q1''
  go_wp2
  rw [rounds_succ]
  go_wp2
  go_ret
  exact ⟨_, rfl, HR3.out, HB3.out⟩

theorem concat2' (q : Nat) (A1 A2 : Option Addr) (n1 n2 c1 c2 : Nat) (l1 l2 : List S47) (w : World) (hq : w.heap[q]? = some (.cells #[.slice A1 n1 c1, .slice A2 n2 c2] 22 (0, 0)))
    (hC1 : Kd.C k47 w A1 n1 l1) (hC2 : Kd.C k47 w A2 n2 l2) (hn : n1 + n2 ≤ 1000000) :
    Calls Try.prog 58 #[.slice (some ⟨q, 0, none⟩) 2 2] w fun e w' => ∃ v, e = .returned v ∧ Kd.R k47 47 w' w.heap.size (fun _ => True) v (l1 ++ l2) ∧ Below w.heap.size w w' := by
  obtain rfl := Kd.C_len hC1
  obtain rfl := Kd.C_len hC2
  exact concat2 q A1 A2 c1 c2 l1 l2 w hq hC1 hC2 hn

set_option maxRecDepth 100000 in
set_option maxHeartbeats 1600000 in
/-- What the buffer keeps, the oldest first. -/
theorem all_any (g base : Nat) (v : Value) (cap : Nat) (s : RS) (w : World) (h : RingAt w g base v cap s) :
    Calls Try.prog 34 #[.pointer (some ⟨g, 0, none⟩)] w fun e w' => ∃ v, e = .returned v ∧ Kd.R k47 47 w' w.heap.size (fun _ => True) v (s.kept.drop s.pos ++ s.kept.take s.pos) ∧ Below w.heap.size w w' := by
  obtain ⟨hb, ho⟩ := h
  have hgb := blk_lt hb.blk
  obtain ⟨A, c, rfl, hc, hC⟩ := Kd.R_reads hb.row
  have h0 := blk_cell hb.blk 0
  have h1 := blk_cell hb.blk 1
  simp at h0 h1
  obtain ⟨o1, o2, o3, o4, o5⟩ := ho
  have hp : s.pos ≤ s.kept.length := by
    rcases Nat.lt_or_ge s.kept.length cap with h | h
    · rw [o4 h]; omega
    · have := o5 (by omega); omega
  have HC := Lib.hid hC
  have HO4 := Lib.hid o4
  have HO5 := Lib.hid o5
  have hp0 : (0 : Int) ≤ (s.pos : Int) := by omega
  have hp1 : (s.pos : Int) ≤ (s.kept.length : Int) := by omega
  have hp2 : (s.pos : Int) ≤ (c : Int) := by omega
  have hp3 : (s.kept.length : Int) ≤ (c : Int) := by omega
  clear hb hC o4 o5
  generalize hD : (if c = s.pos then A else A.map (fun x => x.add (s.pos * 6))) = D
  have hDC : Kd.C k47 w D (s.kept.length - s.pos) (s.kept.drop s.pos) := by
    have := Kd.C_drop HC.out (m := s.pos) (c := c) (by omega) (by omega)
    rw [List.length_drop] at this
    rw [← hD]; exact this
  have hTC := Kd.C_take HC.out (m := s.pos) (by omega)
  rw [List.length_take, Nat.min_eq_left (by omega)] at hTC
  have HD := Lib.hid hDC
  have HT := Lib.hid hTC
  clear hDC hTC
  go_enter Try.func34, Try.ntmps34
  go_wp2
  refine still_tail 18 (by kernel_rfl) (by kernel_rfl) ?_
  simp only [List.take_succ_cons, List.take_zero, List.drop_succ_cons, List.drop_zero]
  repeat still_step
  refine wpStill_nil ?_
  go_wp2_with fail
  have hb := below_drew (below_alloc (Below.refl w.heap.size w) (.cells #[.slice D (s.kept.length - s.pos) (c - s.pos), .slice A s.pos c] 22))
  refine (concat2' w.heap.size D A (s.kept.length - s.pos) s.pos (c - s.pos) c (s.kept.drop s.pos) (s.kept.take s.pos) _ (blk_drew (blk_new _ _)) (Kd.C_below HD.out hb) (Kd.C_below HT.out hb) (by omega)).mono ?_
  rintro e w1 ⟨v1, rfl, hR, hB⟩
  have HR := Lib.hid (Kd.R_lower hR (by simp : w.heap.size ≤ _))
  have HB := Lib.hid (hb.trans (hB.mono (by simp)))
  clear hR hB
  go_wp2
  go_ret
  exact ⟨_, rfl, HR.out, HB.out⟩

set_option maxRecDepth 100000 in
theorem events_any (g base : Nat) (v : Value) (cap : Nat) (s : RS) (w : World) (h : RingAt w g base v cap s) :
    Calls Try.prog 17 #[.pointer (some ⟨g, 0, none⟩)] w fun e w' => ∃ v, e = .returned v ∧ Kd.R k47 47 w' w.heap.size (fun _ => True) v (s.kept.drop s.pos ++ s.kept.take s.pos) ∧ Below w.heap.size w w' := by
  go_enter Try.func17, Try.ntmps17
  go_wp2_with fail
  refine (all_any g base v cap s _ h).mono ?_
  rintro e w1 ⟨v1, rfl, hR, hB⟩
  have HR := Lib.hid hR
  have HB := Lib.hid hB
  clear hR hB
  go_wp2
  go_ret
  exact ⟨_, rfl, HR.out, HB.out⟩

set_option maxRecDepth 100000 in
theorem lost_any (g base : Nat) (v : Value) (cap : Nat) (s : RS) (w : World) (h : RingAt w g base v cap s) :
    Calls Try.prog 19 #[.pointer (some ⟨g, 0, none⟩)] w fun e w' => e = .returned (.int .i64 s.lost) ∧ w' = w := by
  have h3 := blk_cell h.1.blk 3
  simp at h3
  go_enter Try.func19, Try.ntmps19
  go_wp2
  go_ret
  exact ⟨rfl, rfl⟩
end Go.Proofs.Ytepceelkfbjamaa
