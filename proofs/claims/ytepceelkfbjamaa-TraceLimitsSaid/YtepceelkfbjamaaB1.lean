/- The reference's ring: its methods. -/
import Derived.Test.YtepceelkfbjamaaA8
import Derived.Test.YtepceelkfbjamaaA5
namespace Go.Proofs.Ytepceelkfbjamaa
open Go.RowKit Go.Proofs.YtepceelkfbjamaaW.PrintWords Go.Proofs.YtepceelkfbjamaaW.PrintLast Go.Proofs.YtepceelkfbjamaaW.PrintMore PTraceFilters FLib

/-- The reference's ring: a block of its own, and the row of all events that were put. -/
structure RefAt (w : World) (g base : Nat) (v : Value) (cap : Nat) (L : List S47) : Prop where
  blk : w.heap[g]? = some (.cells #[.int .i64 cap, v] 84 (0, 0))
  row : Kd.R k47 49 w base (fun k => some k = v.ownBlock) v L
  low : base ≤ g
  le : base ≤ w.heap.size
theorem RefAt.keeps {w w' : World} {g base : Nat} {v : Value} {cap : Nat} {L : List S47} {F : Nat → Prop} (h : RefAt w g base v cap L) (hk : Keeps w w' F) (hF : ∀ i, BufFp g v i → ¬ F i) : RefAt w' g base v cap L :=
  ⟨hk.blk h.blk (hF g (.inl rfl)), hk.R h.row (fun i hi => hF i (.inr hi)), h.low, Nat.le_trans h.le hk.size⟩
theorem RefAt.below {w w' : World} {g base : Nat} {v : Value} {cap : Nat} {L : List S47} (h : RefAt w g base v cap L) (hb : Below w.heap.size w w') : RefAt w' g base v cap L := h.keeps (Keeps.of_below hb (fun _ => False)) (fun _ _ h => h)

theorem R_sliceC {w : World} {e base : Nat} {ok : Nat → Prop} {v : Value} {l : List S47} (h : Kd.R k47 e w base ok v l) : ∃ A c, v = .slice A l.length c ∧ Kd.C k47 w A l.length l := by
  obtain ⟨A, c, h1, -, h2⟩ := Kd.R_reads h
  exact ⟨A, c, h1, h2⟩

theorem R_empty {w : World} {q e base : Nat} {ok : Nat → Prop} (h : w.heap[q]? = some (.cells #[] e (0, 0))) (hb : base ≤ q) (hok : ok q) : Kd.R k47 e w base ok (.slice (some ⟨q, 0, none⟩) 0 0) [] :=
  ⟨fun k hk => by simp [Value.ownBlock] at hk; subst hk; exact hok, [], ⟨rfl, .inr ⟨q, 0, #[], rfl, hb, h, Nat.le_refl _, by simp, rfl, rfl⟩⟩, Reps.none _ _⟩

theorem below_any (w w1 : World) (h : Below w.heap.size w w1) : Below w.heap.size w w1 := h

theorem rnew_ok (n : Int) (w : World) (h1 : 1 ≤ n) (h2 : n ≤ 10000) :
    Calls Try.prog 12 #[.int .i64 n] w fun e w' => e = .returned (.tuple #[.pointer (some ⟨w.heap.size, 0, none⟩), .int .i64 0]) ∧ w' = w.alloc (.cells #[.int .i64 n, .slice none 0 0] 84) := by
  go_enter Try.func12, Try.ntmps12
  go_wp2
  go_ret2
  exact ⟨rfl, rfl⟩
theorem rnew_bad (n : Int) (w : World) (h : n < 1 ∨ 10000 < n) :
    Calls Try.prog 12 #[.int .i64 n] w fun e w' => e = .returned (.tuple #[.pointer none, .int .i64 34]) ∧ w' = w := by
  rcases h with h | h
  · go_enter Try.func12, Try.ntmps12
    go_wp2
    go_ret2
    exact ⟨rfl, rfl⟩
  · have h1 : ¬ n < 1 := by omega
    go_enter Try.func12, Try.ntmps12
    go_wp2
    go_ret2
    exact ⟨rfl, rfl⟩
theorem rput_nil (A : Option Addr) (n c : Nat) (w : World) : Calls Try.prog 14 #[.pointer none, .slice A n c] w fun e w' => e = .returned (.int .i64 35) ∧ w' = w := by
  go_enter Try.func14, Try.ntmps14
  go_wp2
  go_ret
  exact ⟨rfl, rfl⟩
theorem revents_nil (w : World) : Calls Try.prog 18 #[.pointer none] w fun e w' => e = .returned (.slice none 0 0) ∧ w' = w := by
  go_enter Try.func18, Try.ntmps18
  go_wp2
  go_ret
  exact ⟨rfl, rfl⟩

set_option maxRecDepth 100000 in
theorem rlost_any (g base : Nat) (v : Value) (cap : Nat) (L : List S47) (w : World) (h : RefAt w g base v cap L) (hc : cap ≤ 10000) :
    Calls Try.prog 20 #[.pointer (some ⟨g, 0, none⟩)] w fun e w' => e = .returned (.int .i64 (L.length - cap : Nat)) ∧ Below w.heap.size w w' := by
  obtain ⟨A, c, rfl, -, hC⟩ := Kd.R_reads h.row
  have hm := Kd.C_max hC
  have hm2 : (L.length : Int) ≤ 9223372036854775807 := by omega
  have h0 : w.cell? ⟨g, 0, none⟩ = some (.int .i64 cap) := blk_cell h.blk 0
  have h1 : w.cell? ⟨g, 1, none⟩ = some (.slice A L.length c) := blk_cell h.blk 1
  clear h hC
  by_cases hle : (L.length : Int) ≤ (cap : Int)
  · have hz : L.length - cap = 0 := by omega
    have HZ := Lib.hid hz
    clear hz
    go_enter Try.func20, Try.ntmps20
    go_wp2
    go_quiet (fail)
    go_wp2
    go_ret
    exact ⟨by rw [HZ.out]; rfl, pw_below_drewN (Below.refl _ _) _⟩
  · have hz : ((L.length - cap : Nat) : Int) = (L.length : Int) - (cap : Int) := by omega
    have hz1 : IntKind.i64.wrap ((L.length : Int) - (cap : Int)) = (L.length : Int) - (cap : Int) := IntWalk.i64_in _ (by omega)
    have HZ := Lib.hid hz
    clear hz
    go_enter Try.func20, Try.ntmps20
    go_wp2
    go_quiet (fail)
    go_wp2
    go_quiet (fail)
    go_wp2
    go_ret
    exact ⟨by rw [HZ.out]; simp, pw_below_drewN (pw_below_drewN (Below.refl _ _) _) _⟩
theorem rlost_nil (w : World) : Calls Try.prog 20 #[.pointer none] w fun e w' => e = .returned (.int .i64 0) ∧ Below w.heap.size w w' := by
  go_enter Try.func20, Try.ntmps20
  go_wp2
  go_quiet (fail)
  go_wp2
  go_ret
  exact ⟨rfl, pw_below_drewN (Below.refl _ _) _⟩

set_option maxRecDepth 100000 in
set_option maxHeartbeats 1600000 in
theorem rput_any (g base : Nat) (v : Value) (cap : Nat) (L : List S47) (A : Option Addr) (n c : Nat) (l : List S47) (w : World) (h : RefAt w g base v cap L) (hC : Kd.C k47 w A n l) (hn : L.length + l.length ≤ 1000000) :
    Calls Try.prog 14 #[.pointer (some ⟨g, 0, none⟩), .slice A n c] w fun e w' => e = .returned (.int .i64 0) ∧ ∃ v', RefAt w' g base v' cap (L ++ l) ∧ Keeps w w' (BufFp g v) ∧ Moved w v v' := by
  obtain rfl := Kd.C_len hC
  obtain ⟨hb, hR0, hlo, hle⟩ := h
  have h1 : w.cell? ⟨g, 1, none⟩ = some v := blk_cell hb 1
  have hne := Kd.R_ne hR0 hb (by decide)
  obtain ⟨A1, c1, hv, -⟩ := R_sliceC hR0
  have hR : Kd.R k47 49 w base (fun _ => True) v L := Kd.R_mono hR0 (fun _ _ => trivial)
  clear hR0
  subst hv
  go_enter Try.func14, Try.ntmps14
  go_wp2_with (at_builtin; refine Kd.R_append_rows k47 (w0 := w) (Rr := fun x cs => cs = evCells x) base rfl (.tmp 11) (.tmp 12) 34 49 _ 48 rfl Try.underlying34 info49 rfl (by decide) (by decide) (.slice A1 L.length c1) L l A l.length c (fun _ => True) (fun _ => False) rfl rfl hR (ev_rows hC) (fun x cs hx => by subst hx; exact k47_mkM _ _ _ x) (fun _ h => h.elim) (fun _ _ => trivial) (Below.refl _ _) hle (by omega) ?_)
  intro v1 w1 hR1 hB1 hg1 hat1
  have hgne : some g ≠ (Value.slice A1 L.length c1).ownBlock := hne
  have hb1 := blk_grown hb hg1 hgne
  have h2 : w1.cell? ⟨g, 1, none⟩ = some (.slice A1 L.length c1) := blk_cell hb1 1
  have f2 : w1.frozen? ⟨g, 1, none⟩ = false := blk_frozen hb1 1
  obtain ⟨A2, c2, rfl, -⟩ := R_sliceC hR1
  have HB1 := Lib.hid hb1
  have HR1 := Lib.hid hR1
  have HG1 := Lib.hid hg1
  have HAT := Lib.hid hat1
  clear hR hC hR1 hB1 hg1 hat1 hb1 h1 hb
  go_wp2
  go_ret
  have hk : Keeps w w1 (BufFp g (.slice A1 L.length c1)) := (Keeps.refl _ _).grown HG1.out (fun k hk => .inl (.inr hk.symm))
  refine ⟨rfl, .slice A2 (L ++ l).length c2, ⟨?_, Kd.R_tight rfl (Kd.R_set HR1.out HB1.out (by decide) 1 _), hlo, ?_⟩, ?_, HAT.out⟩
  · simpa using blk_set HB1.out 1 (.slice A2 (L ++ l).length c2)
  · have := hk.size
    simp [World.setCell]; omega
  · simpa using hk.set ⟨g, 1, none⟩ (.slice A2 (L ++ l).length c2) (.inl (.inl rfl))

set_option maxRecDepth 100000 in
set_option maxHeartbeats 1600000 in
theorem revents_any (g base : Nat) (v : Value) (cap : Nat) (L : List S47) (w : World) (h : RefAt w g base v cap L) (hc : cap ≤ 10000) (hL : L.length ≤ 1000000) :
    Calls Try.prog 18 #[.pointer (some ⟨g, 0, none⟩)] w fun e w' => ∃ v, e = .returned v ∧ Kd.R k47 49 w' w.heap.size (fun _ => True) v (L.drop (L.length - cap)) ∧ Below w.heap.size w w' := by
  obtain ⟨A, c, rfl, hcc, hC⟩ := Kd.R_reads h.row
  have h1 : w.cell? ⟨g, 1, none⟩ = some (.slice A L.length c) := blk_cell h.blk 1
  have hgs := blk_lt h.blk
  have H := Lib.hid h
  generalize hm : L.length - cap = m at *
  have hmL : m ≤ L.length := by omega
  generalize hD : (if c = m then A else A.map (fun x => x.add (m * 6))) = D
  have hDC : Kd.C k47 w D (L.length - m) (L.drop m) := by
    have := Kd.C_drop hC (m := m) (c := c) (by omega) (by omega)
    rw [List.length_drop] at this
    rw [← hD]; exact this
  have HDC := Lib.hid hDC
  have HM := Lib.hid hm
  have m0 : (0 : Int) ≤ (m : Int) := by omega
  have m1 : (m : Int) ≤ (L.length : Int) := by omega
  have m2 : (m : Int) ≤ (c : Int) := by omega
  have m3 : (L.length : Int) ≤ (c : Int) := by omega
  clear hm hDC hC h
  go_enter Try.func18, Try.ntmps18
  go_wp2
  go_region_held3 (fun W => W.cell? ⟨g, 1, none⟩ = some (.slice A L.length c))
    (first
      | go_keep
      | (exact (hB3.cell (p := ⟨g, 1, none⟩) hgs).trans h1)
      | (exact pw_cell_below hb1 (by assumption)))
    (first
      | (go_at_call 20; refine (rlost_any g base _ cap L _ (H.out.below (below_any _ _ (by first | exact below_drew (Below.refl _ _) | exact below_drew (below_alloc (Below.refl _ _) _)))) hc).mono ?_; rintro e w1 ⟨rfl, hb1⟩; rw [HM.out])
      | (refine Kd.R_append_rows_step k47 (w0 := w) (Rr := fun x cs => cs = evCells x) w.heap.size (by rfl) (.tmp 5) (.tmp 12) 34 49 _ 48 (by rfl) Try.underlying34 info49 rfl (by decide) (by decide) (.slice (some ⟨w.heap.size, 0, none⟩) 0 0) [] (L.drop m) D (L.length - m) (c - m) (fun _ => True) (fun _ => False) (by rfl) (by rfl)
          (R_empty (blk_below (blk_drew (blk_new w (.cells #[] 49))) hb1) (Nat.le_refl _) trivial) (ev_rows (Kd.C_below (Kd.C_below HDC.out (below_drew (below_alloc (Below.refl _ _) _))) hb1)) (fun x cs hx => by subst hx; exact k47_mkM _ _ _ x) (fun _ h => h.elim) (fun _ _ => trivial)
          (below_then (below_drew (below_alloc (Below.refl _ _) _)) (by simp) hb1) (by have := hb1.size; simp at this; omega) (by simp; omega) ?_; intro v3 w3 hR3 hB3 _ _)
      | (refine Kd.R_append_rows_step k47 (w0 := w) (Rr := fun x cs => cs = evCells x) w.heap.size (by rfl) (.tmp 5) (.tmp 12) 34 49 _ 48 (by rfl) Try.underlying34 info49 rfl (by decide) (by decide) (.slice (some ⟨w1.heap.size, 0, none⟩) 0 0) [] (L.drop m) D (L.length - m) (c - m) (fun _ => True) (fun _ => False) (by rfl) (by rfl)
          (R_empty (blk_new w1 (.cells #[] 49)) hb1.size trivial) (ev_rows (Kd.C_alloc (Kd.C_below (Kd.C_drew HDC.out) hb1) _)) (fun x cs hx => by subst hx; exact k47_mkM _ _ _ x) (fun _ h => h.elim) (fun _ _ => trivial)
          (below_alloc (below_then (below_drew (Below.refl _ _)) (Nat.le_refl _) hb1) _) (by have := hb1.size; simp at this; simp; omega) (by simp; omega) ?_; intro v3 w3 hR3 hB3 _ _))
  all_goals
    have HR3 := Lib.hid hR3
    have HB3 := Lib.hid hB3
    clear hR3 hB3
    go_wp2
    go_ret
    exact ⟨_, rfl, HR3.out, HB3.out⟩
end Go.Proofs.Ytepceelkfbjamaa
