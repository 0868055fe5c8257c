/- Ranges: both side by side. -/
import Derived.Test.YtoolflmaaooplaaGreatML
namespace Go.Proofs.YtoolflmaaooplaaGreat
section
set_option linter.unusedVariables false
set_option linter.unusedSimpArgs false
open Go.RowKit Go.Maps Go.Sort Go.Lib Go.Shelf Go.Proofs.YtoolflmaaooplaaGreatW.PrintWords Go.Proofs.YtoolflmaaooplaaGreatW.PrintLast Go.Proofs.YtoolflmaaooplaaGreatW.PrintMore FLib
attribute [local go_sem] below_alloc_T below_drew_T below_drewN_T

def RTy (W : World) (k : Nat) : Prop := ∃ cs t, W.heap[k]? = some (.cells cs t (0, 0)) ∧ (t = 62 ∨ t = 91 ∨ t = 63)
/-- Only the program's old blocks have turned; only the reference's. -/
def PMove (W0 : World) (B : Nat) (W W' : World) : Prop := Keeps W W' (fun k => W0.heap.size ≤ k ∧ k < B ∧ ¬ RTy W k)
def RMove (W0 : World) (B : Nat) (W W' : World) : Prop := Keeps W W' (fun k => W0.heap.size ≤ k ∧ k < B ∧ RTy W k)
theorem PMove.below {W0 W W' : World} {B : Nat} (h : Below W.heap.size W W') : PMove W0 B W W' := Keeps.of_below h _
theorem RMove.below {W0 W W' : World} {B : Nat} (h : Below W.heap.size W W') : RMove W0 B W W' := Keeps.of_below h _
/-- The program's table. -/
structure PT (W0 W : World) (p mb B : Nat) (T : Tb) (Q : List Lk) : Prop where
  tg : ∃ qv G, TG W p mb qv G Q ∧ plainG G = T ∧ ∀ k, qv.ownBlock = some k → W0.heap.size ≤ k ∧ k < B
  lo : W0.heap.size ≤ p ∧ W0.heap.size ≤ mb
  up : p < B ∧ mb < B
/-- The reference's table. -/
structure RTt (W0 W : World) (q B : Nat) (P : List Pc) (Q : List Lk) : Prop where
  rt : ∃ gv qv, RT W q gv qv P Q ∧ ∀ k, qv.ownBlock = some k → W0.heap.size ≤ k ∧ k < B
  lo : W0.heap.size ≤ q
  up : q < B
theorem PT.move {W0 W W' : World} {p mb B B' : Nat} {T : Tb} {Q : List Lk} (h : PT W0 W p mb B T Q) (hm : RMove W0 B' W W') : PT W0 W' p mb B T Q := by
  obtain ⟨qv, G, hT, hG, hq⟩ := h.tg
  refine ⟨⟨qv, G, hT.keep hm (fun k hk => ?_), hG, hq⟩, h.lo, h.up⟩
  obtain ⟨cs, t, hc, ht⟩ := hk.2.2
  exact hT.not_own hc (by rcases ht with rfl | rfl | rfl <;> decide) (by rcases ht with rfl | rfl | rfl <;> decide) (by rcases ht with rfl | rfl | rfl <;> decide)
theorem RTt.move {W0 W W' : World} {q B B' : Nat} {P : List Pc} {Q : List Lk} (h : RTt W0 W q B P Q) (hm : PMove W0 B' W W') : RTt W0 W' q B P Q := by
  obtain ⟨gv, qv, hR, hq⟩ := h.rt
  refine ⟨⟨gv, qv, hR.keep hm (fun k hk => ⟨fun e => ?_, fun e => ?_, fun e => ?_⟩), hq⟩, h.lo, h.up⟩
  · subst e; exact hk.2.2 ⟨_, _, hR.hdr, .inl rfl⟩
  · obtain ⟨cs, hc⟩ := own_ty hR.gr e
    exact hk.2.2 ⟨_, _, hc, .inr (.inl rfl)⟩
  · obtain ⟨cs, hc⟩ := own_ty hR.qr e
    exact hk.2.2 ⟨_, _, hc, .inr (.inr rfl)⟩
theorem PT.below {W0 W W' : World} {p mb B : Nat} {T : Tb} {Q : List Lk} (h : PT W0 W p mb B T Q) (hb : Below W.heap.size W W') : PT W0 W' p mb B T Q := h.move (B' := B) (RMove.below hb)
theorem RTt.below {W0 W W' : World} {q B : Nat} {P : List Pc} {Q : List Lk} (h : RTt W0 W q B P Q) (hb : Below W.heap.size W W') : RTt W0 W' q B P Q := h.move (B' := B) (PMove.below hb)
theorem PT.up' {W0 W : World} {p mb B B' : Nat} {T : Tb} {Q : List Lk} (h : PT W0 W p mb B T Q) (hb : B ≤ B') : PT W0 W p mb B' T Q := by
  obtain ⟨qv, G, hT, hG, hq⟩ := h.tg
  exact ⟨⟨qv, G, hT, hG, fun k hk => ⟨(hq k hk).1, by have := (hq k hk).2; omega⟩⟩, h.lo, by have := h.up; omega, by have := h.up; omega⟩
theorem RTt.up' {W0 W : World} {q B B' : Nat} {P : List Pc} {Q : List Lk} (h : RTt W0 W q B P Q) (hb : B ≤ B') : RTt W0 W q B' P Q := by
  obtain ⟨gv, qv, hR, hq⟩ := h.rt
  exact ⟨⟨gv, qv, hR, fun k hk => ⟨(hq k hk).1, by have := (hq k hk).2; omega⟩⟩, h.lo, by have := h.up; omega⟩
theorem after_c {W0 W W' : World} {p mb B : Nat} {qv : Value} {G : List Ent} {T : Tb} {Q Q' : List Lk} (hT : TG W p mb qv G Q) (hq : ∀ k, qv.ownBlock = some k → W0.heap.size ≤ k ∧ k < B) (lo : W0.heap.size ≤ p ∧ W0.heap.size ≤ mb) (up : p < B ∧ mb < B) (h0 : W0.heap.size ≤ W.heap.size)
    (h : After p mb qv W W' T Q') : PT W0 W' p mb W'.heap.size T Q' ∧ PMove W0 B W W' := by
  obtain ⟨qv', G', hT', hG', ho, hk⟩ := h
  refine ⟨⟨⟨qv', G', hT', hG', fun k hk' => ⟨?_, row_lt hT'.queue hk'⟩⟩, lo, hT'.own_lt (.inl rfl), hT'.own_lt (.inr (.inl rfl))⟩, hk.mono (fun k hf => ?_)⟩
  · rcases ho with h1 | h1 | ⟨j, h1, h2⟩
    · rw [h1] at hk'; cases hk'
    · exact (hq k (h1 ▸ hk')).1
    · rw [h1] at hk'; injection hk' with e; omega
  · have nty : ¬ RTy W k := by
      rintro ⟨cs, t, hc, ht⟩
      have hn := hT.not_own hc (by rcases ht with rfl | rfl | rfl <;> decide) (by rcases ht with rfl | rfl | rfl <;> decide) (by rcases ht with rfl | rfl | rfl <;> decide)
      rcases hf with rfl | rfl | hf
      · exact hn (.inl rfl)
      · exact hn (.inr (.inl rfl))
      · exact hn (.inr (.inr (.inl hf)))
    rcases hf with rfl | rfl | hf
    · exact ⟨lo.1, up.1, nty⟩
    · exact ⟨lo.2, up.2, nty⟩
    · exact ⟨(hq k hf).1, (hq k hf).2, nty⟩
theorem rafter_c {W0 W W' : World} {q B : Nat} {gv qv : Value} {P P' : List Pc} {Q Q' : List Lk} (hT : RT W q gv qv P Q) (hq : ∀ k, qv.ownBlock = some k → W0.heap.size ≤ k ∧ k < B) (lo : W0.heap.size ≤ q) (up : q < B) (h0 : W0.heap.size ≤ W.heap.size)
    (h : RAfter q qv W W' P' Q') : RTt W0 W' q W'.heap.size P' Q' ∧ RMove W0 B W W' := by
  obtain ⟨gv', qv', hT', ho, hk⟩ := h
  refine ⟨⟨⟨gv', qv', hT', fun k hk' => ⟨?_, row_lt hT'.qr hk'⟩⟩, lo, blk_lt hT'.hdr⟩, hk.mono (fun k hf => ?_)⟩
  · rcases ho k hk' with h1 | h1
    · exact (hq k h1).1
    · omega
  · rcases hf with rfl | hf
    · exact ⟨lo, up, ⟨_, _, hT.hdr, .inl rfl⟩⟩
    · obtain ⟨cs, hc⟩ := own_ty hT.qr hf
      exact ⟨(hq k hf).1, (hq k hf).2, ⟨_, _, hc, .inr (.inr rfl)⟩⟩
/-- Rows and boxes made behind the bound stay. -/
theorem PMove.row {W0 W W' : World} {B base e sz n : Nat} {v : Value} {xs : List Value} (hm : PMove W0 B W W') (h : W.ownsRow base e sz v n xs) (hb : B ≤ base) : W'.ownsRow base e sz v n xs :=
  own_move h (fun k hk => hm.block k (row_lt h hk) (fun hf => by have := (h.lt k hk).1; omega))
theorem RMove.row {W0 W W' : World} {B base e sz n : Nat} {v : Value} {xs : List Value} (hm : RMove W0 B W W') (h : W.ownsRow base e sz v n xs) (hb : B ≤ base) : W'.ownsRow base e sz v n xs :=
  own_move h (fun k hk => hm.block k (row_lt h hk) (fun hf => by have := (h.lt k hk).1; omega))
theorem PMove.blk {W0 W W' : World} {B b : Nat} {o : Obj} (hm : PMove W0 B W W') (h : W.heap[b]? = some o) (hb : B ≤ b) : W'.heap[b]? = some o := Keeps.blk hm h (fun hf => by omega)
theorem RMove.blk {W0 W W' : World} {B b : Nat} {o : Obj} (hm : RMove W0 B W W') (h : W.heap[b]? = some o) (hb : B ≤ b) : W'.heap[b]? = some o := Keeps.blk hm h (fun hf => by omega)
theorem PMove.base {W0 W W' : World} {B : Nat} (hm : PMove W0 B W W') (h : Below W0.heap.size W0 W) : Below W0.heap.size W0 W' := h.trans (Keeps.below hm h.size (fun i hi => hi.1))
theorem RMove.base {W0 W W' : World} {B : Nat} (hm : RMove W0 B W W') (h : Below W0.heap.size W0 W) : Below W0.heap.size W0 W' := h.trans (Keeps.below hm h.size (fun i hi => hi.1))

/-- slices.Equal of two rows that are equal -/
theorem ieq_nil (v1 v2 : Value) (h1 : v1 = .slice none 0 0 ∨ ∃ g c, v1 = .slice (some ⟨g, 0, none⟩) 0 c) (h2 : v2 = .slice none 0 0 ∨ ∃ g c, v2 = .slice (some ⟨g, 0, none⟩) 0 c) (w : World) :
    Calls Tryz.prog 30 #[v1, v2] w fun e w' => e = .returned (.bool true) ∧ Below w.heap.size w w' := by
  rcases h1 with rfl | ⟨g1, c1, rfl⟩ <;> rcases h2 with rfl | ⟨g2, c2, rfl⟩
  all_goals
    go_enter Tryz.func30, Tryz.ntmps30
    go_wp2
    refine wp_loop_rounds 1 ?_
    rw [rounds_succ]
    go_wp2
    go_ret
    exact ⟨rfl, Below.refl _ _⟩
theorem row_max {w : World} {base e sz n : Nat} {v : Value} {xs : List Value} (h : w.ownsRow base e sz v n xs) : n ≤ maxLen := by
  rcases h.2 with ⟨-, h⟩ | ⟨g, c, cur, -, -, -, h1, h2, -⟩
  · omega
  · exact Nat.le_trans h1 h2
set_option maxRecDepth 100000 in
theorem ieq_same (b1 b2 : Nat) (v1 v2 : Value) (l : List Int) (w : World) (h1 : w.ownsRow b1 3 1 v1 l.length (l.map encZ)) (h2 : w.ownsRow b2 3 1 v2 l.length (l.map encZ)) :
    Calls Tryz.prog 30 #[v1, v2] w fun e w' => e = .returned (.bool true) ∧ Below w.heap.size w w' := by
  by_cases hz : l.length = 0
  · refine ieq_nil v1 v2 ?_ ?_ w
    · rcases row_form h1 with ⟨rfl, -⟩ | ⟨g, c, rfl⟩
      · exact .inl rfl
      · exact .inr ⟨g, c, by rw [hz]⟩
    · rcases row_form h2 with ⟨rfl, -⟩ | ⟨g, c, rfl⟩
      · exact .inl rfl
      · exact .inr ⟨g, c, by rw [hz]⟩
  · have HR1 := Lib.hid h1
    have HR2 := Lib.hid h2
    have HL := Lib.hid (row_max h1)
    rcases row_form h1 with ⟨-, e⟩ | ⟨g1, c1, rfl⟩
    · exact absurd e hz
    rcases row_form h2 with ⟨-, e⟩ | ⟨g2, c2, rfl⟩
    · exact absurd e hz
    clear h1 h2 hz
    go_enter Tryz.func30, Tryz.ntmps30
    go_wp2
    go_loopw [13] (fun t wr => ∃ k : Nat, k ≤ l.length ∧ t = .int .i64 k ∧ Hid (Below w.heap.size w wr)) (fun t _ => l.length - (RowKit.intOf t).toNat)
    case atStart => exact ⟨0, Nat.zero_le _, rfl, Lib.hid (Below.refl _ _)⟩
    case round =>
      obtain ⟨k, hk, rfl, hB⟩ := hrel
      have hlr : (l.length : Int) ≤ 9223372036854775807 := by have := HL.out; unfold maxLen at this; omega
      by_cases hlt : k < l.length
      · obtain ⟨j, hj⟩ : ∃ j, l[k]? = some j := ⟨_, List.getElem?_eq_getElem hlt⟩
        have d0 : wr.cell? ⟨g1, k, none⟩ = some (.int .i64 j) := by
          have h1 := (pw_own_below HR1.out hB.out).cells (g := g1) rfl k (.int .i64 j) (by simp [hj, encZ])
          rw [addmk, Nat.zero_add] at h1
          exact h1
        have d1 : wr.cell? ⟨g2, k, none⟩ = some (.int .i64 j) := by
          have h1 := (pw_own_below HR2.out hB.out).cells (g := g2) rfl k (.int .i64 j) (by simp [hj, encZ])
          rw [addmk, Nat.zero_add] at h1
          exact h1
        have hk0 : (0 : Int) ≤ (k : Int) := by omega
        have hk1 : (k : Int) < (l.length : Int) := by omega
        have HKL := Lib.hid hlt
        clear hj hlt
        go_wp2
        go_quiet (fail)
        go_wp2
        go_roundw
        case rel => exact ⟨k + 1, by have := HKL.out; omega, by go_num, Lib.hid (pw_below_drewN hB.out _)⟩
        case measure => have := HKL.out; simp [RowKit.intOf]; omega
      · obtain rfl : k = l.length := by omega
        go_wp2
        go_ret
        exact ⟨rfl, hB.out⟩
end
section
set_option linter.unusedVariables false
set_option linter.unusedSimpArgs false
open Go.RowKit Go.Maps Go.Sort Go.Lib Go.Shelf Go.Proofs.YtoolflmaaooplaaGreatW.PrintWords Go.Proofs.YtoolflmaaooplaaGreatW.PrintLast Go.Proofs.YtoolflmaaooplaaGreatW.PrintMore FLib

section
variable {W0 W : World} {p mb q B Bd : Nat} {T : Tb} {Q : List Lk}
theorem set_c (hI : GI Bd T Q) (hB : Bd ≤ 180) (l : Lk) (wt : Bool) (hw : (Lit.int .i64 l.own).wf = true) (h0 : W0.heap.size ≤ W.heap.size) (h : PT W0 W p mb B T Q) :
    Calls Tryz.prog 14 #[.pointer (some ⟨p, 0, none⟩), lkV l, .bool wt] W fun e w' => ∃ u, e = .returned (setV (setF T Q l wt).1.1 u (setF T Q l wt).1.2.2) ∧ w'.ownsRow W.heap.size 3 1 u (setF T Q l wt).1.2.1.length ((setF T Q l wt).1.2.1.map encZ) ∧
      PT W0 w' p mb w'.heap.size (setF T Q l wt).2.1 (setF T Q l wt).2.2 ∧ PMove W0 B W w' := by
  obtain ⟨qv, G, hT, hG, hq⟩ := h.tg
  have hsz := hI.size
  exact (set_any p mb qv G T Q hI.inv.ok (by omega) (by omega) hI.qok hG l wt hw W hT).mono fun e w' ⟨u, he, hr, ha⟩ => ⟨u, he, hr, after_c hT hq h.lo h.up h0 ha⟩
theorem rset_c (hI : GI Bd T Q) (hB : Bd ≤ 180) (l : Lk) (wt : Bool) (hw : (Lit.int .i64 l.own).wf = true) (h0 : W0.heap.size ≤ W.heap.size) (h : RTt W0 W q B (flatP T) Q) :
    Calls Tryz.prog 29 #[.pointer (some ⟨q, 0, none⟩), lkV l, .bool wt] W fun e w' => ∃ u, e = .returned (setV (setF T Q l wt).1.1 u (setF T Q l wt).1.2.2) ∧ w'.ownsRow W.heap.size 3 1 u (setF T Q l wt).1.2.1.length ((setF T Q l wt).1.2.1.map encZ) ∧
      RTt W0 w' q w'.heap.size (flatP (setF T Q l wt).2.1) (setF T Q l wt).2.2 ∧ RMove W0 B W w' := by
  obtain ⟨gv, qv, hR, hq⟩ := h.rt
  have hsz := hI.size
  have hs := (hI.set hB l wt hw).1
  exact (rset_any q gv qv (flatP T) Q (by rw [flatP_len]; omega) hI.qok (by omega) l wt W hR).mono fun e w' ⟨u, he, hr, ha⟩ => by
    rw [hs] at he hr ha
    exact ⟨u, he, hr, rafter_c hR hq h.lo h.up h0 ha⟩
theorem rel_c (hI : GI Bd T Q) (hB : Bd ≤ 180) (o s n : Int) (hw : (Lit.int .i64 o).wf = true) (h0 : W0.heap.size ≤ W.heap.size) (h : PT W0 W p mb B T Q) :
    Calls Tryz.prog 31 #[.pointer (some ⟨p, 0, none⟩), .int .i64 o, .int .i64 s, .int .i64 n] W fun e w' => ∃ u, e = .returned (.tuple #[u, .int .i64 (relF T Q o s n).1.2]) ∧ w'.ownsRow W.heap.size 3 1 u (relF T Q o s n).1.1.length ((relF T Q o s n).1.1.map encZ) ∧
      PT W0 w' p mb w'.heap.size (relF T Q o s n).2.1 (relF T Q o s n).2.2 ∧ PMove W0 B W w' := by
  obtain ⟨qv, G, hT, hG, hq⟩ := h.tg
  have hsz := hI.size
  unfold relF
  cases hv : okL o s n
  · exact (release_bad p o s n hv W).mono fun e w' ⟨he, hb⟩ => by subst hb; exact ⟨_, he, World.ownsRow_nil _ _ _ _, after_c hT hq h.lo h.up h0 (by have := After.same hT (Below.refl W.heap.size W); rw [hG] at this; exact this)⟩
  · refine (release_any p mb qv G T Q hI.inv.ok (by omega) hI.qok hG o s n hv hw W hT).mono fun e w' hp => ?_
    simp only [Bool.true_eq_false, if_false]
    rcases hp with ⟨h1, he, hT', hb⟩ | ⟨h1, u, qv', G', he, hT', hG', hr, hq', hk⟩
    · rw [if_pos h1]
      exact ⟨_, he, World.ownsRow_nil _ _ _ _, after_c hT hq h.lo h.up h0 (by have := After.same hT hb; rw [hG] at this; exact this)⟩
    · rw [if_neg (by omega)]
      exact ⟨u, he, hr, after_c hT hq h.lo h.up h0 (After.of hT' hG' hq' hk)⟩
theorem rrel_c (hI : GI Bd T Q) (hB : Bd ≤ 180) (o s n : Int) (hw : (Lit.int .i64 o).wf = true) (h0 : W0.heap.size ≤ W.heap.size) (h : RTt W0 W q B (flatP T) Q) :
    Calls Tryz.prog 32 #[.pointer (some ⟨q, 0, none⟩), .int .i64 o, .int .i64 s, .int .i64 n] W fun e w' => ∃ u, e = .returned (.tuple #[u, .int .i64 (relF T Q o s n).1.2]) ∧ w'.ownsRow W.heap.size 3 1 u (relF T Q o s n).1.1.length ((relF T Q o s n).1.1.map encZ) ∧
      RTt W0 w' q w'.heap.size (flatP (relF T Q o s n).2.1) (relF T Q o s n).2.2 ∧ RMove W0 B W w' := by
  obtain ⟨gv, qv, hR, hq⟩ := h.rt
  have hsz := hI.size
  have hs := (hI.rel hB o s n hw).1
  exact (rrelease_any q gv qv (flatP T) Q (by rw [flatP_len]; omega) hI.qok (by omega) o s n W hR).mono fun e w' ⟨u, he, hr, ha⟩ => by
    rw [hs] at he hr ha
    exact ⟨u, he, hr, rafter_c hR hq h.lo h.up h0 ha⟩
theorem cancel_c (hI : GI Bd T Q) (hB : Bd ≤ 180) (o : Int) (h0 : W0.heap.size ≤ W.heap.size) (h : PT W0 W p mb B T Q) :
    Calls Tryz.prog 33 #[.pointer (some ⟨p, 0, none⟩), .int .i64 o] W fun e w' => e = .returned (.int .i64 (cancI Q o)) ∧ PT W0 w' p mb w'.heap.size T (cancQ Q o) ∧ PMove W0 B W w' := by
  obtain ⟨qv, G, hT, hG, hq⟩ := h.tg
  have hsz := hI.size
  exact (cancel_any p mb qv G Q (by omega) o W hT).mono fun e w' ⟨qv', he, hT', ho, hk⟩ => ⟨he, after_c hT hq h.lo h.up h0 ⟨qv', G, hT', hG, .inr (.inl ho), hk⟩⟩
theorem rcancel_c (hI : GI Bd T Q) (hB : Bd ≤ 180) (o : Int) (h0 : W0.heap.size ≤ W.heap.size) (h : RTt W0 W q B (flatP T) Q) :
    Calls Tryz.prog 34 #[.pointer (some ⟨q, 0, none⟩), .int .i64 o] W fun e w' => e = .returned (.int .i64 (cancI Q o)) ∧ RTt W0 w' q w'.heap.size (flatP T) (cancQ Q o) ∧ RMove W0 B W w' := by
  obtain ⟨gv, qv, hR, hq⟩ := h.rt
  have hsz := hI.size
  exact (rcancel_any q gv qv (flatP T) Q (by omega) o W hR).mono fun e w' ⟨qv', he, hR', ho, hk⟩ => ⟨he, rafter_c hR hq h.lo h.up h0 ⟨gv, qv', hR', ho, hk.mono (fun i hi => .inl hi)⟩⟩
theorem drop_c (hI : GI Bd T Q) (hB : Bd ≤ 180) (o : Int) (hw : (Lit.int .i64 o).wf = true) (h0 : W0.heap.size ≤ W.heap.size) (h : PT W0 W p mb B T Q) :
    Calls Tryz.prog 35 #[.pointer (some ⟨p, 0, none⟩), .int .i64 o] W fun e w' => ∃ u, e = .returned u ∧ w'.ownsRow W.heap.size 3 1 u (dropF T Q o).1.2.length ((dropF T Q o).1.2.map encZ) ∧
      PT W0 w' p mb w'.heap.size (dropF T Q o).1.1 (dropF T Q o).2 ∧ PMove W0 B W w' := by
  obtain ⟨qv, G, hT, hG, hq⟩ := h.tg
  have hsz := hI.size
  exact (drop_any p mb qv G T Q hI.inv.ok (by omega) hI.qok hG o hw W hT).mono fun e w' ⟨u, qv', G', he, hT', hG', hr, hq', hk⟩ => ⟨u, he, hr, after_c hT hq h.lo h.up h0 (After.of hT' hG' hq' hk)⟩
theorem rdrop_c (hI : GI Bd T Q) (hB : Bd ≤ 180) (o : Int) (h0 : W0.heap.size ≤ W.heap.size) (h : RTt W0 W q B (flatP T) Q) :
    Calls Tryz.prog 36 #[.pointer (some ⟨q, 0, none⟩), .int .i64 o] W fun e w' => ∃ u, e = .returned u ∧ w'.ownsRow W.heap.size 3 1 u (dropF T Q o).1.2.length ((dropF T Q o).1.2.map encZ) ∧
      RTt W0 w' q w'.heap.size (flatP (dropF T Q o).1.1) (dropF T Q o).2 ∧ RMove W0 B W w' := by
  obtain ⟨gv, qv, hR, hq⟩ := h.rt
  have hsz := hI.size
  have hs := (hI.drop (by omega) o).1
  exact (rdrop_any q gv qv (flatP T) Q (by rw [flatP_len]; omega) hI.qok (by omega) o W hR).mono fun e w' ⟨u, he, hr, ha⟩ => by
    rw [hs] at hr ha
    exact ⟨u, he, hr, rafter_c hR hq h.lo h.up h0 ha⟩
theorem test_c (hI : GI Bd T Q) (l : Lk) (h : PT W0 W p mb B T Q) : Calls Tryz.prog 37 #[.pointer (some ⟨p, 0, none⟩), lkV l] W fun e w' => e = .returned (testV T l) ∧ Below W.heap.size W w' := by
  obtain ⟨qv, G, hT, hG, hq⟩ := h.tg
  exact test_any p mb qv G T Q hI.inv.ok hG l W hT
theorem rtest_c (hI : GI Bd T Q) (hB : Bd ≤ 180) (l : Lk) (h : RTt W0 W q B (flatP T) Q) : Calls Tryz.prog 38 #[.pointer (some ⟨q, 0, none⟩), lkV l] W fun e w' => e = .returned (testV T l) ∧ Below W.heap.size W w' := by
  obtain ⟨gv, qv, hR, hq⟩ := h.rt
  have hsz := hI.size
  have := rtest_any q gv qv (flatP T) Q (by rw [flatP_len]; omega) (pok_flat hI.inv) l W hR
  rw [test_flat hI.inv] at this
  exact this
theorem check_c (hI : GI Bd T Q) (x : Lk) (h : PT W0 W p mb B T Q) : Calls Tryz.prog 39 #[.pointer (some ⟨p, 0, none⟩), .int .i64 x.own, .int .i64 x.st, .int .i64 x.len, .bool x.ex] W fun e w' => e = .returned (.int .i64 (chkI T x)) ∧ Below W.heap.size W w' := by
  obtain ⟨qv, G, hT, hG, hq⟩ := h.tg
  exact check_any p mb qv G T Q hI.inv.ok hG x W hT
theorem rcheck_c (hI : GI Bd T Q) (hB : Bd ≤ 180) (x : Lk) (h : RTt W0 W q B (flatP T) Q) : Calls Tryz.prog 40 #[.pointer (some ⟨q, 0, none⟩), .int .i64 x.own, .int .i64 x.st, .int .i64 x.len, .bool x.ex] W fun e w' => e = .returned (.int .i64 (chkI T x)) ∧ Below W.heap.size W w' := by
  obtain ⟨gv, qv, hR, hq⟩ := h.rt
  have hsz := hI.size
  have := rcheck_any q gv qv (flatP T) Q (by rw [flatP_len]; omega) x W hR
  rw [check_flat hI.inv] at this
  exact this
end
end
section
set_option linter.unusedVariables false
set_option linter.unusedSimpArgs false
open Go.RowKit Go.Maps Go.Sort Go.Lib Go.Shelf Go.Proofs.YtoolflmaaooplaaGreatW.PrintWords Go.Proofs.YtoolflmaaooplaaGreatW.PrintLast Go.Proofs.YtoolflmaaooplaaGreatW.PrintMore FLib
attribute [local go_sem] below_alloc_T below_drew_T below_drewN_T

def actV (kd : Int) (l : Lk) : Value := .agg #[.int .u8 kd, .int .i64 l.own, .int .i64 l.st, .int .i64 l.len, .bool l.ex]
def actC (kd : Int) (l : Lk) : List Value := [.int .u8 kd, .int .i64 l.own, .int .i64 l.st, .int .i64 l.len, .bool l.ex]
theorem PT.drew {W0 W : World} {p mb B : Nat} {T : Tb} {Q : List Lk} (h : PT W0 W p mb B T Q) : PT W0 W.drew p mb B T Q := h.below (below_drew (Below.refl _ _))
theorem RTt.drew {W0 W : World} {q B : Nat} {P : List Pc} {Q : List Lk} (h : RTt W0 W q B P Q) : RTt W0 W.drew q B P Q := h.below (below_drew (Below.refl _ _))
theorem testV_form (T : Tb) (l : Lk) : ∃ (a : Lk) (b : Bool) (n : Int), testV T l = .tuple #[lkV a, .bool b, .int .i64 n] := by
  unfold testV
  split
  · cases tConf T l with
    | nil => exact ⟨_, _, _, rfl⟩
    | cons a b => exact ⟨_, _, _, rfl⟩
  · exact ⟨_, _, _, rfl⟩
set_option maxRecDepth 100000 in
theorem frG (v0 v1 v2 v3 v4 v5 v6 v7 v8 v9 v10 v11 v12 v13 v14 v15 v16 v17 v18 v19 v20 v21 v22 v23 v24 v25 v26 v27 v28 v29 v30 v31 v32 v33 v34 v35 v36 v37 v38 v39 v40 v41 v42 v43 v44 v45 v46 v47 v48 v49 v50 v51 v52 v53 v54 v55 v56 v57 v58 v59 v60 v61 v62 v63 v64 v65 v66 v67 v68 v69 v70 v71 v72 v73 v74 v75 v76 v77 v78 v79 v80 v81 v82 v83 v84 v85 v86 v87 v88 v89 v90 v91 v92 v93 v94 v95 v96 v97 v98 v99 v100 v101 v102 v103 v104 v105 v106 v107 v108 v109 v110 v111 v112 v113 v114 v115 v116 v117 v118 v119 v120 v121 v122 v123 v124 v125 v126 v127 v128 v129 v130 v131 v132 v133 v134 v135 v136 v137 v138 v139 v140 v141 v142 v143 v144 v145 v146 v147 v148 v149 v150 v151 v152 v153 v154 v155 v156 v157 v158 v159 v160 v161 v162 v163 v164 v165 v166 v167 v168 v169 v170 v171 v172 v173 v174 v175 v176 : Value) (d : List Deferred) : ∃ u : Nat → Value, ({ tmps := #[v0, v1, v2, v3, v4, v5, v6, v7, v8, v9, v10, v11, v12, v13, v14, v15, v16, v17, v18, v19, v20, v21, v22, v23, v24, v25, v26, v27, v28, v29, v30, v31, v32, v33, v34, v35, v36, v37, v38, v39, v40, v41, v42, v43, v44, v45, v46, v47, v48, v49, v50, v51, v52, v53, v54, v55, v56, v57, v58, v59, v60, v61, v62, v63, v64, v65, v66, v67, v68, v69, v70, v71, v72, v73, v74, v75, v76, v77, v78, v79, v80, v81, v82, v83, v84, v85, v86, v87, v88, v89, v90, v91, v92, v93, v94, v95, v96, v97, v98, v99, v100, v101, v102, v103, v104, v105, v106, v107, v108, v109, v110, v111, v112, v113, v114, v115, v116, v117, v118, v119, v120, v121, v122, v123, v124, v125, v126, v127, v128, v129, v130, v131, v132, v133, v134, v135, v136, v137, v138, v139, v140, v141, v142, v143, v144, v145, v146, v147, v148, v149, v150, v151, v152, v153, v154, v155, v156, v157, v158, v159, v160, v161, v162, v163, v164, v165, v166, v167, v168, v169, v170, v171, v172, v173, v174, v175, v176], defers := d } : Act) = { tmps := #[v0, v1, u 2, u 3, u 4, v5, v6, v7, v8, u 9, u 10, u 11, u 12, u 13, u 14, u 15, u 16, u 17, u 18, u 19, u 20, u 21, u 22, u 23, u 24, u 25, u 26, u 27, u 28, u 29, u 30, u 31, u 32, u 33, u 34, u 35, u 36, u 37, u 38, u 39, u 40, u 41, u 42, u 43, u 44, u 45, u 46, u 47, u 48, u 49, u 50, u 51, u 52, u 53, u 54, u 55, u 56, u 57, u 58, u 59, u 60, u 61, u 62, u 63, u 64, u 65, u 66, u 67, u 68, u 69, u 70, u 71, u 72, u 73, u 74, u 75, u 76, u 77, u 78, u 79, u 80, u 81, u 82, u 83, u 84, u 85, u 86, u 87, u 88, u 89, u 90, u 91, u 92, u 93, u 94, u 95, u 96, u 97, u 98, u 99, u 100, u 101, u 102, u 103, u 104, u 105, u 106, u 107, u 108, u 109, u 110, u 111, u 112, u 113, u 114, u 115, u 116, u 117, u 118, u 119, u 120, u 121, u 122, u 123, u 124, u 125, u 126, u 127, u 128, u 129, u 130, u 131, u 132, u 133, u 134, u 135, u 136, u 137, u 138, u 139, u 140, u 141, u 142, u 143, u 144, u 145, u 146, u 147, u 148, u 149, u 150, u 151, u 152, u 153, u 154, u 155, u 156, u 157, u 158, u 159, u 160, u 161, u 162, u 163, u 164, u 165, u 166, u 167, u 168, u 169, u 170, u 171, u 172, u 173, u 174, u 175, u 176], defers := d } :=
  ⟨fun i => [v0, v1, v2, v3, v4, v5, v6, v7, v8, v9, v10, v11, v12, v13, v14, v15, v16, v17, v18, v19, v20, v21, v22, v23, v24, v25, v26, v27, v28, v29, v30, v31, v32, v33, v34, v35, v36, v37, v38, v39, v40, v41, v42, v43, v44, v45, v46, v47, v48, v49, v50, v51, v52, v53, v54, v55, v56, v57, v58, v59, v60, v61, v62, v63, v64, v65, v66, v67, v68, v69, v70, v71, v72, v73, v74, v75, v76, v77, v78, v79, v80, v81, v82, v83, v84, v85, v86, v87, v88, v89, v90, v91, v92, v93, v94, v95, v96, v97, v98, v99, v100, v101, v102, v103, v104, v105, v106, v107, v108, v109, v110, v111, v112, v113, v114, v115, v116, v117, v118, v119, v120, v121, v122, v123, v124, v125, v126, v127, v128, v129, v130, v131, v132, v133, v134, v135, v136, v137, v138, v139, v140, v141, v142, v143, v144, v145, v146, v147, v148, v149, v150, v151, v152, v153, v154, v155, v156, v157, v158, v159, v160, v161, v162, v163, v164, v165, v166, v167, v168, v169, v170, v171, v172, v173, v174, v175, v176].getD i undef, rfl⟩
set_option maxRecDepth 100000 in
set_option maxHeartbeats 2000000 in
theorem do_any (W0 : World) (p mb q B Bd : Nat) (T : Tb) (Q : List Lk) (hI : GI Bd T Q) (hB : Bd ≤ 180) (kd : Int) (hkd : 0 ≤ kd ∧ kd ≤ 255) (l : Lk) (hw : (Lit.int .i64 l.own).wf = true) (W : World) (h0 : Below W0.heap.size W0 W) (hBW : B ≤ W.heap.size) (hP : PT W0 W p mb B T Q) (hR : RTt W0 W q B (flatP T) Q) :
    Calls Tryz.prog 16 #[.pointer (some ⟨p, 0, none⟩), .pointer (some ⟨q, 0, none⟩), actV kd l] W fun e w' => e = .returned (.bool true) ∧ PT W0 w' p mb w'.heap.size (actF T Q (kd % 8) l).1 (actF T Q (kd % 8) l).2 ∧ RTt W0 w' q w'.heap.size (flatP (actF T Q (kd % 8) l).1) (actF T Q (kd % 8) l).2 ∧ Below W0.heap.size W0 w' := by
  have HI := Lib.hid (And.intro hI (And.intro hB hw))
  have hb5 := below_alloc (Below.refl W.heap.size W) (.cells (actC kd l).toArray 42)
  have hx5 := blk_new W (.cells (actC kd l).toArray 42)
  have HM := Lib.hid (And.intro (hP.below hb5) (And.intro (hR.below hb5) (And.intro (below_back h0 hb5) hBW)))
  obtain ⟨W1, hW1⟩ : ∃ W1, W1 = W.alloc (.cells (actC kd l).toArray 42) := ⟨_, rfl⟩
  rw [← hW1] at HM hx5
  have HW1 := Lib.hid hW1
  have HX5 := Lib.hid hx5
  have hs0 := hx5
  have c1 : ∀ w' : World, w'.heap[W.heap.size]? = some (.cells (actC kd l).toArray 42 (0, 0)) → w'.cell? ⟨W.heap.size, 1, none⟩ = some (.int .i64 l.own) := fun w' hw => blk_cell hw 1
  have c2 : ∀ w' : World, w'.heap[W.heap.size]? = some (.cells (actC kd l).toArray 42 (0, 0)) → w'.cell? ⟨W.heap.size, 2, none⟩ = some (.int .i64 l.st) := fun w' hw => blk_cell hw 2
  have c3 : ∀ w' : World, w'.heap[W.heap.size]? = some (.cells (actC kd l).toArray 42 (0, 0)) → w'.cell? ⟨W.heap.size, 3, none⟩ = some (.int .i64 l.len) := fun w' hw => blk_cell hw 3
  have c4 : ∀ w' : World, w'.heap[W.heap.size]? = some (.cells (actC kd l).toArray 42 (0, 0)) → w'.cell? ⟨W.heap.size, 4, none⟩ = some (.bool l.ex) := fun w' hw => blk_cell hw 4
  clear hP hR h0 hBW hI hB hw hb5 hx5
  obtain ⟨A, hA⟩ : ∃ A, actF T Q (kd % 8) l = A := ⟨_, rfl⟩
  rw [hA]
  have HA := Lib.hid hA
  clear hA
  simp only [actV]
  go_enter Tryz.func16, Tryz.ntmps16
  go_wp2
  rw [show W.alloc (.cells #[.int .u8 kd, .int .i64 l.own, .int .i64 l.st, .int .i64 l.len, .bool l.ex] 42) = W1 from hW1.symm]
  clear hW1
  refine region_n (fun a' w' => ∃ b7 b8 : Nat, (∃ u : Nat → Value, a' = { tmps := #[.pointer (some ⟨p, 0, none⟩), .pointer (some ⟨q, 0, none⟩), u 2, u 3, u 4, .pointer (some ⟨W.heap.size, 0, none⟩), .bool false, .pointer (some ⟨b7, 0, none⟩), .pointer (some ⟨b8, 0, none⟩), u 9, u 10, u 11, u 12, u 13, u 14, u 15, u 16, u 17, u 18, u 19, u 20, u 21, u 22, u 23, u 24, u 25, u 26, u 27, u 28, u 29, u 30, u 31, u 32, u 33, u 34, u 35, u 36, u 37, u 38, u 39, u 40, u 41, u 42, u 43, u 44, u 45, u 46, u 47, u 48, u 49, u 50, u 51, u 52, u 53, u 54, u 55, u 56, u 57, u 58, u 59, u 60, u 61, u 62, u 63, u 64, u 65, u 66, u 67, u 68, u 69, u 70, u 71, u 72, u 73, u 74, u 75, u 76, u 77, u 78, u 79, u 80, u 81, u 82, u 83, u 84, u 85, u 86, u 87, u 88, u 89, u 90, u 91, u 92, u 93, u 94, u 95, u 96, u 97, u 98, u 99, u 100, u 101, u 102, u 103, u 104, u 105, u 106, u 107, u 108, u 109, u 110, u 111, u 112, u 113, u 114, u 115, u 116, u 117, u 118, u 119, u 120, u 121, u 122, u 123, u 124, u 125, u 126, u 127, u 128, u 129, u 130, u 131, u 132, u 133, u 134, u 135, u 136, u 137, u 138, u 139, u 140, u 141, u 142, u 143, u 144, u 145, u 146, u 147, u 148, u 149, u 150, u 151, u 152, u 153, u 154, u 155, u 156, u 157, u 158, u 159, u 160, u 161, u 162, u 163, u 164, u 165, u 166, u 167, u 168, u 169, u 170, u 171, u 172, u 173, u 174, u 175, u 176], defers := [] }) ∧ Below W1.heap.size W1 w' ∧ W1.heap.size ≤ b7 ∧ W1.heap.size ≤ b8 ∧ w'.heap[b7]? = some (.cells #[.int .i64 l.own, .int .i64 l.st, .int .i64 l.len, .bool l.ex] 29 (0, 0)) ∧ w'.heap[b8]? = some (.cells #[.int .i64 l.own, .int .i64 l.st, .int .i64 l.len, .bool l.ex] 63 (0, 0))) ?_ ?_
  · go_region_held3 (fun w' => w'.heap[W.heap.size]? = some (.cells (actC kd l).toArray 42 (0, 0))) (first | assumption | (repeat (first | assumption | apply blk_drew | apply blk_alloc)) | (trace_state; fail)) (fail)
    all_goals refine normP_mk ⟨_, _, frG _ _ _ _ _ _ _ _ _ _ _ _ _ _ _ _ _ _ _ _ _ _ _ _ _ _ _ _ _ _ _ _ _ _ _ _ _ _ _ _ _ _ _ _ _ _ _ _ _ _ _ _ _ _ _ _ _ _ _ _ _ _ _ _ _ _ _ _ _ _ _ _ _ _ _ _ _ _ _ _ _ _ _ _ _ _ _ _ _ _ _ _ _ _ _ _ _ _ _ _ _ _ _ _ _ _ _ _ _ _ _ _ _ _ _ _ _ _ _ _ _ _ _ _ _ _ _ _ _ _ _ _ _ _ _ _ _ _ _ _ _ _ _ _ _ _ _ _ _ _ _ _ _ _ _ _ _ _ _ _ _ _ _ _ _ _ _ _ _ _ _ _ _ _ _ _ _ _, below_drew (below_alloc (below_alloc (Below.refl _ _) _) _), by omega, by omega, ?_, ?_⟩
    all_goals first | exact blk_new1 _ _ _ | exact blk_drew (blk_alloc (blk_new _ _) _)
  · rintro a' W2 ⟨b7, b8, ⟨u, rfl⟩, hb2, h7, h8, hx7, hx8⟩
    have hM := HM.out
    have H2 := Lib.hid (And.intro (hM.1.below hb2) (And.intro (hM.2.1.below hb2) (And.intro (below_back hM.2.2.1 hb2) (And.intro (blk_below HX5.out hb2) (And.intro hx7 hx8)))))
    clear hM c1 c2 c3 c4 hs0 hx7 hx8
    have k0 : W2.cell? ⟨W.heap.size, 0, none⟩ = some (.int .u8 kd) := blk_cell H2.out.2.2.2.1 0
    have l0 : W2.cell? ⟨b7, 0, none⟩ = some (.int .i64 l.own) := blk_cell H2.out.2.2.2.2.1 0
    have l1 : W2.cell? ⟨b7, 1, none⟩ = some (.int .i64 l.st) := blk_cell H2.out.2.2.2.2.1 1
    have l2 : W2.cell? ⟨b7, 2, none⟩ = some (.int .i64 l.len) := blk_cell H2.out.2.2.2.2.1 2
    have l3 : W2.cell? ⟨b7, 3, none⟩ = some (.bool l.ex) := blk_cell H2.out.2.2.2.2.1 3
    have hz1 : B ≤ W.heap.size ∧ W.heap.size < W1.heap.size ∧ W1.heap.size ≤ W2.heap.size := ⟨HM.out.2.2.2, blk_lt HX5.out, hb2.size⟩
    have HZ := Lib.hid (And.intro hz1 (And.intro h7 h8))
    clear hb2 hz1 h7 h8
    have hr8 : kd % 8 = 0 ∨ kd % 8 = 1 ∨ kd % 8 = 2 ∨ kd % 8 = 3 ∨ kd % 8 = 4 ∨ kd % 8 = 5 ∨ kd % 8 = 6 ∨ kd % 8 = 7 := by omega
    have htm : kd.tmod 8 = kd % 8 := Int.tmod_eq_emod_of_nonneg hkd.1
    clear hkd
    rcases hr8 with hr | hr | hr | hr | hr | hr | hr | hr
    · obtain ⟨F, hF⟩ : ∃ F, setF T Q l false = F := ⟨_, rfl⟩
      have ha : A = F.2 := by rw [← HA.out, hr, ← hF]; rfl
      subst ha
      rw [hr] at htm
      clear hr
      have HS := Lib.hid (fun W h0 h => set_c (W0 := W0) (W := W) (p := p) (mb := mb) (B := B) HI.out.1 HI.out.2.1 l false HI.out.2.2 h0 h)
      have HRS := Lib.hid (fun W h0 h => rset_c (W0 := W0) (W := W) (q := q) (B := B) HI.out.1 HI.out.2.1 l false HI.out.2.2 h0 h)
      rw [hF] at HS HRS
      clear hF
      simp only [lkV, setV] at HS HRS
      go_wp2_with fail
      refine (HS.out _ H2.out.2.2.1.size H2.out.1).mono ?_
      rintro e w3 ⟨u1, rfl, hrow3, hP3, hm3⟩
      have hx5 := hm3.blk H2.out.2.2.2.1 (by have := HZ.out; omega)
      have hx8 := hm3.blk H2.out.2.2.2.2.2 (by have := HZ.out; omega)
      have H3 := Lib.hid (And.intro hP3 (And.intro (H2.out.2.1.move hm3) (And.intro hrow3 (hm3.base H2.out.2.2.1))))
      clear hrow3 hP3 hm3 k0 l0 l1 l2 l3
      have k0 : w3.cell? ⟨W.heap.size, 0, none⟩ = some (.int .u8 kd) := blk_cell hx5 0
      have m0 : w3.cell? ⟨b8, 0, none⟩ = some (.int .i64 l.own) := blk_cell hx8 0
      have m1 : w3.cell? ⟨b8, 1, none⟩ = some (.int .i64 l.st) := blk_cell hx8 1
      have m2 : w3.cell? ⟨b8, 2, none⟩ = some (.int .i64 l.len) := blk_cell hx8 2
      have m3 : w3.cell? ⟨b8, 3, none⟩ = some (.bool l.ex) := blk_cell hx8 3
      clear hx5 hx8
      go_wp2_with fail
      refine (HRS.out _ H3.out.2.2.2.size H3.out.2.1).mono ?_
      rintro e w4 ⟨u2, rfl, hrow4, hR4, hm4⟩
      have H4 := Lib.hid (And.intro (H3.out.1.move hm4) (And.intro hR4 (And.intro (hm4.row H3.out.2.2.1 (by have := HZ.out; omega)) (And.intro hrow4 (hm4.base H3.out.2.2.2)))))
      have hz4 := hm4.size
      clear hrow4 hR4 hm4 k0 m0 m1 m2 m3
      go_wp2_with fail
      refine (ieq_same _ _ u1 u2 F.1.2.1 w4 H4.out.2.2.1 H4.out.2.2.2.1).mono ?_
      rintro e w5 ⟨rfl, hb5⟩
      go_wp2
      go_ret
      exact ⟨rfl, (H4.out.1.below hb5).up' (Nat.le_trans hz4 hb5.size), (H4.out.2.1.below hb5).up' hb5.size, below_back H4.out.2.2.2.2 hb5⟩
    · obtain ⟨F, hF⟩ : ∃ F, setF T Q l true = F := ⟨_, rfl⟩
      have ha : A = F.2 := by rw [← HA.out, hr, ← hF]; rfl
      subst ha
      rw [hr] at htm
      clear hr
      have HS := Lib.hid (fun W h0 h => set_c (W0 := W0) (W := W) (p := p) (mb := mb) (B := B) HI.out.1 HI.out.2.1 l true HI.out.2.2 h0 h)
      have HRS := Lib.hid (fun W h0 h => rset_c (W0 := W0) (W := W) (q := q) (B := B) HI.out.1 HI.out.2.1 l true HI.out.2.2 h0 h)
      rw [hF] at HS HRS
      clear hF
      simp only [lkV, setV] at HS HRS
      go_wp2_with fail
      refine (HS.out _ H2.out.2.2.1.size H2.out.1).mono ?_
      rintro e w3 ⟨u1, rfl, hrow3, hP3, hm3⟩
      have hx5 := hm3.blk H2.out.2.2.2.1 (by have := HZ.out; omega)
      have hx8 := hm3.blk H2.out.2.2.2.2.2 (by have := HZ.out; omega)
      have H3 := Lib.hid (And.intro hP3 (And.intro (H2.out.2.1.move hm3) (And.intro hrow3 (hm3.base H2.out.2.2.1))))
      clear hrow3 hP3 hm3 k0 l0 l1 l2 l3
      have k0 : w3.cell? ⟨W.heap.size, 0, none⟩ = some (.int .u8 kd) := blk_cell hx5 0
      have m0 : w3.cell? ⟨b8, 0, none⟩ = some (.int .i64 l.own) := blk_cell hx8 0
      have m1 : w3.cell? ⟨b8, 1, none⟩ = some (.int .i64 l.st) := blk_cell hx8 1
      have m2 : w3.cell? ⟨b8, 2, none⟩ = some (.int .i64 l.len) := blk_cell hx8 2
      have m3 : w3.cell? ⟨b8, 3, none⟩ = some (.bool l.ex) := blk_cell hx8 3
      clear hx5 hx8
      go_wp2_with fail
      refine (HRS.out _ H3.out.2.2.2.size H3.out.2.1).mono ?_
      rintro e w4 ⟨u2, rfl, hrow4, hR4, hm4⟩
      have H4 := Lib.hid (And.intro (H3.out.1.move hm4) (And.intro hR4 (And.intro (hm4.row H3.out.2.2.1 (by have := HZ.out; omega)) (And.intro hrow4 (hm4.base H3.out.2.2.2)))))
      have hz4 := hm4.size
      clear hrow4 hR4 hm4 k0 m0 m1 m2 m3
      go_wp2_with fail
      refine (ieq_same _ _ u1 u2 F.1.2.1 w4 H4.out.2.2.1 H4.out.2.2.2.1).mono ?_
      rintro e w5 ⟨rfl, hb5⟩
      go_wp2
      go_ret
      exact ⟨rfl, (H4.out.1.below hb5).up' (Nat.le_trans hz4 hb5.size), (H4.out.2.1.below hb5).up' hb5.size, below_back H4.out.2.2.2.2 hb5⟩
    · obtain ⟨F, hF⟩ : ∃ F, relF T Q l.own l.st l.len = F := ⟨_, rfl⟩
      have ha : A = F.2 := by rw [← HA.out, hr, ← hF]; rfl
      subst ha
      rw [hr] at htm
      clear hr
      have HS := Lib.hid (fun W h0 h => rel_c (W0 := W0) (W := W) (p := p) (mb := mb) (B := B) HI.out.1 HI.out.2.1 l.own l.st l.len HI.out.2.2 h0 h)
      have HRS := Lib.hid (fun W h0 h => rrel_c (W0 := W0) (W := W) (q := q) (B := B) HI.out.1 HI.out.2.1 l.own l.st l.len HI.out.2.2 h0 h)
      rw [hF] at HS HRS
      clear hF
      go_wp2_with fail
      refine (HS.out _ H2.out.2.2.1.size H2.out.1).mono ?_
      rintro e w3 ⟨u1, rfl, hrow3, hP3, hm3⟩
      have hx7 := hm3.blk H2.out.2.2.2.2.1 (by have := HZ.out; omega)
      have H3 := Lib.hid (And.intro hP3 (And.intro (H2.out.2.1.move hm3) (And.intro hrow3 (hm3.base H2.out.2.2.1))))
      clear hrow3 hP3 hm3 k0 l0 l1 l2 l3
      have m0 : w3.cell? ⟨b7, 0, none⟩ = some (.int .i64 l.own) := blk_cell hx7 0
      have m1 : w3.cell? ⟨b7, 1, none⟩ = some (.int .i64 l.st) := blk_cell hx7 1
      have m2 : w3.cell? ⟨b7, 2, none⟩ = some (.int .i64 l.len) := blk_cell hx7 2
      have m3 : w3.cell? ⟨b7, 3, none⟩ = some (.bool l.ex) := blk_cell hx7 3
      clear hx7
      go_wp2_with fail
      refine (HRS.out _ H3.out.2.2.2.size H3.out.2.1).mono ?_
      rintro e w4 ⟨u2, rfl, hrow4, hR4, hm4⟩
      have H4 := Lib.hid (And.intro (H3.out.1.move hm4) (And.intro hR4 (And.intro (hm4.row H3.out.2.2.1 (by have := HZ.out; omega)) (And.intro hrow4 (hm4.base H3.out.2.2.2)))))
      have hz4 := hm4.size
      clear hrow4 hR4 hm4 m0 m1 m2 m3
      go_wp2_with fail
      refine (ieq_same _ _ u1 u2 F.1.1 w4 H4.out.2.2.1 H4.out.2.2.2.1).mono ?_
      rintro e w5 ⟨rfl, hb5⟩
      go_wp2
      go_ret
      exact ⟨rfl, (H4.out.1.below hb5).up' (Nat.le_trans hz4 hb5.size), (H4.out.2.1.below hb5).up' hb5.size, below_back H4.out.2.2.2.2 hb5⟩
    · have ha : A = (T, cancQ Q l.own) := by rw [← HA.out, hr]; rfl
      subst ha
      rw [hr] at htm
      clear hr
      have HS := Lib.hid (fun W (hb : Below W0.heap.size W0 W) h => cancel_c (W0 := W0) (W := W) (p := p) (mb := mb) (B := B) HI.out.1 HI.out.2.1 l.own hb.size h)
      have HRS := Lib.hid (fun W (hb : Below W0.heap.size W0 W) h => rcancel_c (W0 := W0) (W := W) (q := q) (B := B) HI.out.1 HI.out.2.1 l.own hb.size h)
      have hP2 := H2.out.1
      have hR2 := H2.out.2.1
      have hB2 := H2.out.2.2.1
      have hx2 := H2.out.2.2.2.2.1
      clear l0 l1 l2 l3
      have l0 : ∀ W' : World, W'.heap[b7]? = some (.cells #[.int .i64 l.own, .int .i64 l.st, .int .i64 l.len, .bool l.ex] 29 (0, 0)) → W'.cell? ⟨b7, 0, none⟩ = some (.int .i64 l.own) := fun W' hw => blk_cell hw 0
      go_wp2
      go_region_held3 (fun W' => W'.heap[b7]? = some (.cells #[.int .i64 l.own, .int .i64 l.st, .int .i64 l.len, .bool l.ex] 29 (0, 0))) (first | assumption | exact blk_drew (by assumption))
        (first
          | (go_at_call 33; refine (HS.out _ (by first | assumption | exact below_drew (by assumption)) (by first | assumption | exact PT.drew (by assumption))).mono ?_; rintro e wA ⟨rfl, hPA, hmA⟩; have hRA := RTt.move (by first | assumption | exact RTt.drew (by assumption)) hmA; have hBA := hmA.base (by first | assumption | exact below_drew (by assumption)); have hxA := hmA.blk (by first | assumption | exact blk_drew (by assumption)) (by have := HZ.out; omega); have hzA := hmA.size; clear hmA)
          | (go_at_call 34; refine (HRS.out _ (by first | assumption | exact below_drew (by assumption)) (by first | assumption | exact RTt.drew (by assumption))).mono ?_; rintro e wB ⟨rfl, hRB, hmB⟩; have hPB := PT.move (by first | assumption | exact PT.drew (by assumption)) hmB; have hBB := hmB.base (by first | assumption | exact below_drew (by assumption)); have hxB := hmB.blk (by first | assumption | exact blk_drew (by assumption)) (by have := HZ.out; omega); have hzB := hmB.size; clear hmB))
      all_goals
        go_wp2
        go_ret
        refine ⟨rfl, PT.up' (by assumption) ?_, RTt.up' (by assumption) ?_, by assumption⟩
      all_goals first | exact Nat.le_refl _ | assumption
    · obtain ⟨F, hF⟩ : ∃ F, dropF T Q l.own = F := ⟨_, rfl⟩
      have ha : A = (F.1.1, F.2) := by rw [← HA.out, hr, ← hF]; rfl
      subst ha
      rw [hr] at htm
      clear hr
      have HS := Lib.hid (fun W (hb : Below W0.heap.size W0 W) h => drop_c (W0 := W0) (W := W) (p := p) (mb := mb) (B := B) HI.out.1 HI.out.2.1 l.own HI.out.2.2 hb.size h)
      have HRS := Lib.hid (fun W (hb : Below W0.heap.size W0 W) h => rdrop_c (W0 := W0) (W := W) (q := q) (B := B) HI.out.1 HI.out.2.1 l.own hb.size h)
      rw [hF] at HS HRS
      clear hF
      have hBz : B ≤ W2.heap.size := by have := HZ.out; omega
      have hP2 := H2.out.1
      have hR2 := H2.out.2.1
      have hB2 := H2.out.2.2.1
      have hx2 := H2.out.2.2.2.2.1
      clear l0 l1 l2 l3
      have l0 : ∀ W' : World, W'.heap[b7]? = some (.cells #[.int .i64 l.own, .int .i64 l.st, .int .i64 l.len, .bool l.ex] 29 (0, 0)) → W'.cell? ⟨b7, 0, none⟩ = some (.int .i64 l.own) := fun W' hw => blk_cell hw 0
      go_wp2
      go_region_held3 (fun W' => W'.heap[b7]? = some (.cells #[.int .i64 l.own, .int .i64 l.st, .int .i64 l.len, .bool l.ex] 29 (0, 0))) (first | assumption | exact blk_drew (by assumption))
        (first
          | (go_at_call 35; refine (HS.out _ (by first | assumption | exact below_drew (by assumption)) (by first | assumption | exact PT.drew (by assumption))).mono ?_; rintro e wA ⟨u1, rfl, hrowA, hPA, hmA⟩; have hRA := RTt.move (by first | assumption | exact RTt.drew (by assumption)) hmA; have hrowB2 := hmA.row hrowB (by have := HZ.out; first | omega | (simp; omega)); have hBA := hmA.base (by first | assumption | exact below_drew (by assumption)); have hxA := hmA.blk (by first | assumption | exact blk_drew (by assumption)) (by have := HZ.out; omega); have hzA := hmA.size; clear hmA)
          | (go_at_call 35; refine (HS.out _ (by first | assumption | exact below_drew (by assumption)) (by first | assumption | exact PT.drew (by assumption))).mono ?_; rintro e wA ⟨u1, rfl, hrowA, hPA, hmA⟩; have hRA := RTt.move (by first | assumption | exact RTt.drew (by assumption)) hmA; have hBA := hmA.base (by first | assumption | exact below_drew (by assumption)); have hxA := hmA.blk (by first | assumption | exact blk_drew (by assumption)) (by have := HZ.out; omega); have hzA := hmA.size; clear hmA)
          | (go_at_call 36; refine (HRS.out _ (by first | assumption | exact below_drew (by assumption)) (by first | assumption | exact RTt.drew (by assumption))).mono ?_; rintro e wB ⟨u2, rfl, hrowB, hRB, hmB⟩; have hPB := PT.move (by first | assumption | exact PT.drew (by assumption)) hmB; have hrowA2 := hmB.row hrowA (by have := HZ.out; first | omega | (simp; omega)); have hBB := hmB.base (by first | assumption | exact below_drew (by assumption)); have hxB := hmB.blk (by first | assumption | exact blk_drew (by assumption)) (by have := HZ.out; omega); have hzB := hmB.size; clear hmB)
          | (go_at_call 36; refine (HRS.out _ (by first | assumption | exact below_drew (by assumption)) (by first | assumption | exact RTt.drew (by assumption))).mono ?_; rintro e wB ⟨u2, rfl, hrowB, hRB, hmB⟩; have hPB := PT.move (by first | assumption | exact PT.drew (by assumption)) hmB; have hBB := hmB.base (by first | assumption | exact below_drew (by assumption)); have hxB := hmB.blk (by first | assumption | exact blk_drew (by assumption)) (by have := HZ.out; omega); have hzB := hmB.size; clear hmB)
          | (go_at_call 30; refine (ieq_same _ _ _ _ F.1.2 _ (by assumption) (by assumption)).mono ?_; rintro e wC ⟨rfl, hbC⟩; have hPC := PT.below (by assumption) hbC; have hRC := RTt.below (by assumption) hbC; have hBC := below_back (by assumption) hbC; have hxC := blk_below (by assumption) hbC; have hzC := hbC.size; clear hbC))
      all_goals
        go_wp2
        go_ret
        refine ⟨rfl, PT.up' (by assumption) ?_, RTt.up' (by assumption) ?_, by assumption⟩
      all_goals first | exact Nat.le_refl _ | omega
    · have ha : A = (T, Q) := by rw [← HA.out, hr]; rfl
      subst ha
      rw [hr] at htm
      clear hr
      have HS := Lib.hid (fun W h => test_c (W0 := W0) (W := W) (p := p) (mb := mb) (B := B) HI.out.1 l h)
      have HRS := Lib.hid (fun W h => rtest_c (W0 := W0) (W := W) (q := q) (B := B) HI.out.1 HI.out.2.1 l h)
      obtain ⟨ta, tb, tn, ht⟩ := testV_form T l
      rw [ht] at HS HRS
      simp only [lkV] at HS HRS
      clear ht
      go_wp2_with fail
      refine (HS.out _ H2.out.1).mono ?_
      rintro e w3 ⟨rfl, hb3⟩
      have h8 := blk_below (blk_below H2.out.2.2.2.2.2 hb3) (below_alloc (Below.refl w3.heap.size w3) (.cells #[.int .i64 ta.own, .int .i64 ta.st, .int .i64 ta.len, .bool ta.ex] 29))
      have hbb := below_step hb3 (below_alloc (Below.refl w3.heap.size w3) (.cells #[.int .i64 ta.own, .int .i64 ta.st, .int .i64 ta.len, .bool ta.ex] 29))
      have H3 := Lib.hid (And.intro (H2.out.1.below hbb) (And.intro (H2.out.2.1.below hbb) (And.intro (below_back H2.out.2.2.1 hbb) (blk_new w3 (.cells #[.int .i64 ta.own, .int .i64 ta.st, .int .i64 ta.len, .bool ta.ex] 29)))))
      have hz3 := hb3.size
      clear hb3 hbb l0 l1 l2 l3
      have m0 : (w3.alloc (.cells #[.int .i64 ta.own, .int .i64 ta.st, .int .i64 ta.len, .bool ta.ex] 29)).cell? ⟨b8, 0, none⟩ = some (.int .i64 l.own) := blk_cell h8 0
      have m1 : (w3.alloc (.cells #[.int .i64 ta.own, .int .i64 ta.st, .int .i64 ta.len, .bool ta.ex] 29)).cell? ⟨b8, 1, none⟩ = some (.int .i64 l.st) := blk_cell h8 1
      have m2 : (w3.alloc (.cells #[.int .i64 ta.own, .int .i64 ta.st, .int .i64 ta.len, .bool ta.ex] 29)).cell? ⟨b8, 2, none⟩ = some (.int .i64 l.len) := blk_cell h8 2
      have m3 : (w3.alloc (.cells #[.int .i64 ta.own, .int .i64 ta.st, .int .i64 ta.len, .bool ta.ex] 29)).cell? ⟨b8, 3, none⟩ = some (.bool l.ex) := blk_cell h8 3
      clear h8
      go_wp2_with fail
      refine (HRS.out _ H3.out.2.1).mono ?_
      rintro e w4 ⟨rfl, hb4⟩
      have hx4 := blk_below H3.out.2.2.2 hb4
      have H4 := Lib.hid (And.intro (H3.out.1.below hb4) (And.intro (H3.out.2.1.below hb4) (below_back H3.out.2.2.1 hb4)))
      have t0 := later_cell (v := .int .i64 ta.own) (blk_cell hx4 0)
      have t1 := later_cell (v := .int .i64 ta.st) (blk_cell hx4 1)
      have t2 := later_cell (v := .int .i64 ta.len) (blk_cell hx4 2)
      have t3 := later_cell (v := .bool ta.ex) (blk_cell hx4 3)
      have hs4 : Below w4.heap.size w4 w4 := Below.refl _ _
      have hz4 := hb4.size
      clear m0 m1 m2 m3 hb4 hx4
      go_wp2
      go_ret
      refine ⟨rfl, PT.up' (H4.out.1.below (below_alloc (Below.refl _ _) _)) ?_, RTt.up' (H4.out.2.1.below (below_alloc (Below.refl _ _) _)) ?_, below_alloc H4.out.2.2 _⟩
      all_goals (have := HZ.out; simp only [World.size_alloc] at *; omega)
    · have ha : A = (T, Q) := by rw [← HA.out, hr]; rfl
      subst ha
      rw [hr] at htm
      clear hr
      have HS := Lib.hid (fun W h => check_c (W0 := W0) (W := W) (p := p) (mb := mb) (B := B) HI.out.1 ⟨l.own, l.st, l.len, false⟩ h)
      have HRS := Lib.hid (fun W h => rcheck_c (W0 := W0) (W := W) (q := q) (B := B) HI.out.1 HI.out.2.1 ⟨l.own, l.st, l.len, false⟩ h)
      generalize chkI T ⟨l.own, l.st, l.len, false⟩ = cn at HS HRS
      have hz2 : B ≤ W2.heap.size := by have := HZ.out; omega
      have hP2 := H2.out.1
      have hR2 := H2.out.2.1
      have hB2 := H2.out.2.2.1
      have hx2 := H2.out.2.2.2.2.1
      clear l0 l1 l2 l3
      have l0 : ∀ W' : World, W'.heap[b7]? = some (.cells #[.int .i64 l.own, .int .i64 l.st, .int .i64 l.len, .bool l.ex] 29 (0, 0)) → W'.cell? ⟨b7, 0, none⟩ = some (.int .i64 l.own) := fun W' hw => blk_cell hw 0
      have l1 : ∀ W' : World, W'.heap[b7]? = some (.cells #[.int .i64 l.own, .int .i64 l.st, .int .i64 l.len, .bool l.ex] 29 (0, 0)) → W'.cell? ⟨b7, 1, none⟩ = some (.int .i64 l.st) := fun W' hw => blk_cell hw 1
      have l2 : ∀ W' : World, W'.heap[b7]? = some (.cells #[.int .i64 l.own, .int .i64 l.st, .int .i64 l.len, .bool l.ex] 29 (0, 0)) → W'.cell? ⟨b7, 2, none⟩ = some (.int .i64 l.len) := fun W' hw => blk_cell hw 2
      go_wp2
      go_region_held3 (fun W' => W'.heap[b7]? = some (.cells #[.int .i64 l.own, .int .i64 l.st, .int .i64 l.len, .bool l.ex] 29 (0, 0))) (first | assumption | exact blk_drew (by assumption))
        (first
          | (go_at_call 39; refine (HS.out _ (by first | assumption | exact PT.drew (by assumption))).mono ?_; rintro e wA ⟨rfl, hbA⟩; have hPA := PT.below (by first | assumption | exact PT.drew (by assumption)) hbA; have hRA := RTt.below (by first | assumption | exact RTt.drew (by assumption)) hbA; have hBA := below_back (by first | assumption | exact below_drew (by assumption)) hbA; have hxA := blk_below (by first | assumption | exact blk_drew (by assumption)) hbA; have hzA := hbA.size; clear hbA)
          | (go_at_call 40; refine (HRS.out _ (by first | assumption | exact RTt.drew (by assumption))).mono ?_; rintro e wB ⟨rfl, hbB⟩; have hPB := PT.below (by first | assumption | exact PT.drew (by assumption)) hbB; have hRB := RTt.below (by first | assumption | exact RTt.drew (by assumption)) hbB; have hBB := below_back (by first | assumption | exact below_drew (by assumption)) hbB; have hxB := blk_below (by first | assumption | exact blk_drew (by assumption)) hbB; have hzB := hbB.size; clear hbB))
      all_goals
        go_wp2
        go_ret
        refine ⟨rfl, PT.up' (by assumption) ?_, RTt.up' (by assumption) ?_, by assumption⟩
      all_goals (simp only [World.drew] at *; omega)
    · have ha : A = (T, Q) := by rw [← HA.out, hr]; rfl
      subst ha
      rw [hr] at htm
      clear hr
      have HS := Lib.hid (fun W h => check_c (W0 := W0) (W := W) (p := p) (mb := mb) (B := B) HI.out.1 ⟨l.own, l.st, l.len, true⟩ h)
      have HRS := Lib.hid (fun W h => rcheck_c (W0 := W0) (W := W) (q := q) (B := B) HI.out.1 HI.out.2.1 ⟨l.own, l.st, l.len, true⟩ h)
      generalize chkI T ⟨l.own, l.st, l.len, true⟩ = cn at HS HRS
      have hz2 : B ≤ W2.heap.size := by have := HZ.out; omega
      have hP2 := H2.out.1
      have hR2 := H2.out.2.1
      have hB2 := H2.out.2.2.1
      have hx2 := H2.out.2.2.2.2.1
      clear l0 l1 l2 l3
      have l0 : ∀ W' : World, W'.heap[b7]? = some (.cells #[.int .i64 l.own, .int .i64 l.st, .int .i64 l.len, .bool l.ex] 29 (0, 0)) → W'.cell? ⟨b7, 0, none⟩ = some (.int .i64 l.own) := fun W' hw => blk_cell hw 0
      have l1 : ∀ W' : World, W'.heap[b7]? = some (.cells #[.int .i64 l.own, .int .i64 l.st, .int .i64 l.len, .bool l.ex] 29 (0, 0)) → W'.cell? ⟨b7, 1, none⟩ = some (.int .i64 l.st) := fun W' hw => blk_cell hw 1
      have l2 : ∀ W' : World, W'.heap[b7]? = some (.cells #[.int .i64 l.own, .int .i64 l.st, .int .i64 l.len, .bool l.ex] 29 (0, 0)) → W'.cell? ⟨b7, 2, none⟩ = some (.int .i64 l.len) := fun W' hw => blk_cell hw 2
      go_wp2
      go_region_held3 (fun W' => W'.heap[b7]? = some (.cells #[.int .i64 l.own, .int .i64 l.st, .int .i64 l.len, .bool l.ex] 29 (0, 0))) (first | assumption | exact blk_drew (by assumption))
        (first
          | (go_at_call 39; refine (HS.out _ (by first | assumption | exact PT.drew (by assumption))).mono ?_; rintro e wA ⟨rfl, hbA⟩; have hPA := PT.below (by first | assumption | exact PT.drew (by assumption)) hbA; have hRA := RTt.below (by first | assumption | exact RTt.drew (by assumption)) hbA; have hBA := below_back (by first | assumption | exact below_drew (by assumption)) hbA; have hxA := blk_below (by first | assumption | exact blk_drew (by assumption)) hbA; have hzA := hbA.size; clear hbA)
          | (go_at_call 40; refine (HRS.out _ (by first | assumption | exact RTt.drew (by assumption))).mono ?_; rintro e wB ⟨rfl, hbB⟩; have hPB := PT.below (by first | assumption | exact PT.drew (by assumption)) hbB; have hRB := RTt.below (by first | assumption | exact RTt.drew (by assumption)) hbB; have hBB := below_back (by first | assumption | exact below_drew (by assumption)) hbB; have hxB := blk_below (by first | assumption | exact blk_drew (by assumption)) hbB; have hzB := hbB.size; clear hbB))
      all_goals
        go_wp2
        go_ret
        refine ⟨rfl, PT.up' (by assumption) ?_, RTt.up' (by assumption) ?_, by assumption⟩
      all_goals (simp only [World.drew] at *; omega)
end
section
set_option linter.unusedVariables false
set_option linter.unusedSimpArgs false
open Go.RowKit Go.Maps Go.Sort Go.Lib Go.Shelf Go.Proofs.YtoolflmaaooplaaGreatW.PrintWords Go.Proofs.YtoolflmaaooplaaGreatW.PrintLast Go.Proofs.YtoolflmaaooplaaGreatW.PrintMore FLib
attribute [local go_sem] below_alloc_T below_drew_T below_drewN_T

section
variable {W0 W : World} {p mb q B Bd : Nat} {T : Tb} {Q : List Lk}
theorem granted_c (hI : GI Bd T Q) (h : PT W0 W p mb B T Q) : Calls Tryz.prog 6 #[.pointer (some ⟨p, 0, none⟩)] W fun e w' => ∃ u, e = .returned u ∧ w'.ownsRow W.heap.size 29 4 u (tGran T).length (lflat (tGran T)) ∧ Below W.heap.size W w' := by
  obtain ⟨qv, G, hT, hG, hq⟩ := h.tg
  subst hG
  rw [← plain_gran]
  exact granted_any p mb qv G Q hI.inv.ok.gsort hI.inv.ok.gok W hT
theorem waiting_c (hI : GI Bd T Q) (hB : Bd ≤ 180) (h : PT W0 W p mb B T Q) : Calls Tryz.prog 10 #[.pointer (some ⟨p, 0, none⟩)] W fun e w' => ∃ u, e = .returned u ∧ w'.ownsRow W.heap.size 29 4 u Q.length (lflat Q) ∧ Below W.heap.size W w' := by
  obtain ⟨qv, G, hT, hG, hq⟩ := h.tg
  have hsz := hI.size
  exact waiting_any p mb qv G Q (by omega) W hT
end
/-- The first tables. -/
theorem new_c {W0 W : World} (h0 : W0.heap.size ≤ W.heap.size) : Calls Tryz.prog 13 #[] W fun e w' => ∃ p mb, e = .returned (.pointer (some ⟨p, 0, none⟩)) ∧ PT W0 w' p mb w'.heap.size [] [] ∧ Below W.heap.size W w' :=
  (newT_any W).mono fun e w' ⟨he, hT, hb⟩ => ⟨_, _, he, ⟨⟨_, [], hT, rfl, fun k hk => by cases hk⟩, ⟨by omega, by omega⟩, hT.own_lt (.inl rfl), hT.own_lt (.inr (.inl rfl))⟩, hb⟩
theorem rnew_c {W0 W : World} (h0 : W0.heap.size ≤ W.heap.size) : Calls Tryz.prog 15 #[] W fun e w' => ∃ q, e = .returned (.pointer (some ⟨q, 0, none⟩)) ∧ RTt W0 w' q w'.heap.size (flatP []) [] ∧ Below W.heap.size W w' :=
  (rnew_any W).mono fun e w' ⟨he, hT, hb⟩ => ⟨_, he, ⟨⟨_, _, hT, fun k hk => by cases hk⟩, by omega, blk_lt hT.hdr⟩, hb⟩
end
end Go.Proofs.YtoolflmaaooplaaGreat
