/- Ranges: with. -/
import Derived.Test.YtoolflmaaooplaaB7
namespace Go.Proofs.Ytoolflmaaooplaa
set_option linter.unusedVariables false
set_option linter.unusedSimpArgs false
open Go.RowKit Go.Maps Go.Sort Go.Lib Go.Shelf Go.Proofs.YtoolflmaaooplaaW.PrintWords Go.Proofs.YtoolflmaaooplaaW.PrintLast Go.Proofs.YtoolflmaaooplaaW.PrintMore FLib
attribute [local go_sem] below_alloc_T below_drew_T below_drewN_T

def spansOf (G : List Ent) (o : Int) : List Sp := match gAt G o with | some e => e.l | none => []
theorem TG.spans {W : World} {p mb : Nat} {qv : Value} {G : List Ent} {Q : List Lk} (h : TG W p mb qv G Q) (o : Int) : W.ownsRow 0 71 3 (entV (gAt G o)) (spansOf G o).length (sflat (spansOf G o)) := by
  unfold spansOf
  cases hg : gAt G o with
  | none => exact World.ownsRow_nil _ _ _ _
  | some e => exact h.row e (gAt_mem hg).1
theorem spans_len {G : List Ent} (h : GOk G) (o : Int) : (spansOf G o).length ≤ 1000 := by
  unfold spansOf
  cases hg : gAt G o with
  | none => simp
  | some e => exact h.len e (gAt_mem hg).1
theorem region_p {id : Nat} {ops : Array Oper} {b : Bool} {P : Program} {Q : Exit → Act → World → Prop} {a : Act} {w : World} (Φ : Act → Act → World → Prop)
    (h : (Code.region id ops b).wp P (fun e a' w' => e = .normal ∧ Φ a a' w') a w) (hq : ∀ a' w', Φ a a' w' → Q .normal a' w') : (Code.region id ops b).wp P Q a w :=
  Code.wp_mono (fun e a' w' hp => by obtain ⟨rfl, hp⟩ := hp; exact hq a' w' hp) h
theorem own_base {w : World} {base base' e sz n : Nat} {v : Value} {xs : List Value} (h : w.ownsRow base' e sz v n xs) (hb : base ≤ base') : w.ownsRow base e sz v n xs := by
  refine ⟨h.1, ?_⟩
  rcases h.2 with h2 | ⟨g, c, cur, h1, h2, h3⟩
  · exact .inl h2
  · exact .inr ⟨g, c, cur, h1, Nat.le_trans hb h2, h3⟩
theorem wout_any (v : Value) (hv : v.oneCell' = true) (l : List Sp) (lo hi : Int) (w : World) (hr : w.ownsRow 0 71 3 v l.length (sflat l)) :
    Calls Try.prog 40 #[v, .int .i64 lo, .int .i64 hi] w fun e w' => ∃ q0, e = .returned (.func (.func 65) #[] #[.pointer (some ⟨q0, 0, none⟩), .pointer (some ⟨q0 + 1, 0, none⟩), .pointer (some ⟨q0 + 2, 0, none⟩)]) ∧ RdW q0 v l lo hi w' ∧ Below w.heap.size w w' := by
  refine (without_any v hv lo hi w).mono ?_
  rintro e w' ⟨rfl, rfl⟩
  refine ⟨w.heap.size, rfl, ⟨?_, ?_, ?_, ?_⟩, below_alloc (below_alloc (below_alloc (Below.refl _ _) _) _) _⟩
  · exact blk_alloc (blk_alloc (blk_new _ _) _) _
  · have := blk_alloc (blk_new (w.alloc (.cells #[v] 60)) (.cells #[.int .i64 lo] 2)) (.cells #[.int .i64 hi] 2)
    simpa using this
  · have := blk_new ((w.alloc (.cells #[v] 60)).alloc (.cells #[.int .i64 lo] 2)) (.cells #[.int .i64 hi] 2)
    simpa using this
  · exact pw_own_below hr (below_alloc (below_alloc (below_alloc (Below.refl _ _) _) _) _)
theorem RdW.below {q : Nat} {v : Value} {l : List Sp} {lo hi : Int} {W W' : World} (h : RdW q v l lo hi W) (hb : Below W.heap.size W W') : RdW q v l lo hi W' := ⟨blk_below h.b0 hb, blk_below h.b1 hb, blk_below h.b2 hb, pw_own_below h.row hb⟩
theorem cells_at {w : World} {b : Nat} {cs : List Value} {ty : Nat} (h : w.heap[b]? = some (.cells cs.toArray ty (0, 0))) (j : Nat) (u : Value) (hu : cs[j]? = some u) : w.cell? ((⟨b, 0, none⟩ : Addr).add j) = some u := by
  rw [addmk, Nat.zero_add]
  exact (blk_cell h j).trans (by simpa using hu)
theorem below_keep {W w1 w2 : World} {g : Nat} (h : Below W.heap.size W w1) (hk : Keeps w1 w2 (fun b => b = g)) (hg : W.heap.size ≤ g) : Below W.heap.size W w2 := h.trans (hk.below h.size (fun i hi => by omega))
theorem entV_one (o : Option Ent) : (entV o).oneCell' = true := by cases o <;> rfl

set_option maxRecDepth 100000 in
set_option maxHeartbeats 1000000 in
theorem with_any (p mb : Nat) (qv : Value) (G : List Ent) (Q : List Lk) (hok : GOk G) (l : Lk) (hl : -1000000 ≤ l.st + l.len ∧ l.st + l.len ≤ 1000000) (ho : (Lit.int .i64 l.own).wf = true) (w : World) (h : TG w p mb qv G Q) :
    Calls Try.prog 33 #[.pointer (some ⟨p, 0, none⟩), lkV l] w fun e w' => ∃ u, e = .returned u ∧ ∃ l' : List Sp, l'.Perm (cutP (spansOf G l.own) (spanI l).lo (spanI l).hi ++ [spanI l]) ∧ l'.Pairwise (fun a b => ¬ b.lo < a.lo) ∧
      w'.ownsRow w.heap.size 71 3 u (joinP l').length (sflat (joinP l')) ∧ Below w.heap.size w w' := by
  obtain ⟨i0, hi0, hz0, hz1, hz2⟩ := info_parts info71
  have HI := Lib.hid (And.intro hi0 (And.intro hz0 (And.intro hz1 hz2)))
  have HSP := Lib.hid (fun w => span_any l hl w)
  have HT := Lib.hid h
  have HW := Lib.hid ho
  have HLN := Lib.hid (spans_len hok l.own)
  clear h hl ho hok hi0 hz0 hz1 hz2
  have b0 := below_alloc (below_alloc (Below.refl w.heap.size w) (.cells l.cells.toArray 23))
  simp only [lkV, spV] at HSP ⊢
  generalize hS : spanI l = S at HSP ⊢
  clear hS b0
  obtain ⟨s0, s1, s2⟩ := S
  simp only at HSP ⊢
  obtain ⟨L, hL⟩ : ∃ L, spansOf G l.own = L := ⟨_, rfl⟩
  rw [hL] at HLN ⊢
  obtain ⟨C, hC⟩ : ∃ C, cutP L s0 s1 = C := ⟨_, rfl⟩
  rw [hC]
  have HLL := Lib.hid hL
  have HCC := Lib.hid hC
  clear hL hC
  go_enter Try.func33, Try.ntmps33
  go_wp2_with fail
  refine (HSP.out _).mono ?_
  rintro e w1 ⟨rfl, hb1⟩
  go_wp2
  refine abs_w (fun W1 => W1.heap[w.heap.size]? = some (.cells l.cells.toArray 23 (0, 0)) ∧ W1.heap[w1.heap.size]? = some (.cells #[.int .i64 s0, .int .i64 s1, .bool s2] 71 (0, 0)) ∧ Below w.heap.size w W1) ?_ ?_
  · exact ⟨blk_alloc (blk_below (blk_new w _) hb1) _, blk_new _ _, below_alloc ((below_alloc (Below.refl w.heap.size w) _).trans (hb1.mono (by simp))) _⟩
  rintro W1 ⟨h3, h5, hB1⟩
  have hT1 := HT.out.below hB1
  generalize w1.heap.size = b5 at h5 ⊢
  generalize w.heap.size = b3 at h3 ⊢
  have c0 := later_cell (v := .map (some mb)) (blk_cell hT1.hdr 0)
  have c3 := later_cell (v := .int .i64 l.own) (blk_cell h3 0)
  have c50 := later_cell (v := .int .i64 s0) (blk_cell h5 0)
  have c51 := later_cell (v := .int .i64 s1) (blk_cell h5 1)
  have c52 := later_cell (v := .bool s2) (blk_cell h5 2)
  have hlk : ∀ w', Below W1.heap.size W1 w' → (Instr.lookup 65 (.map (some mb)) (.int .i64 l.own) false).run Try.prog w' = .ok (entV (gAt G l.own)) w' := fun w' hb => (hT1.below hb).run_look HW.out
  have HV := Lib.hid (And.intro (entV_one (gAt G l.own)) (fun w' (hb : Below W1.heap.size W1 w') => (hT1.below hb).spans l.own))
  have hL := HLL.out
  rw [hL] at HV
  clear hL HLL
  have hC := HCC.out
  obtain ⟨n, hn⟩ : ∃ n, (cutP L s0 s1).length = n := ⟨_, rfl⟩
  have HCN := Lib.hid (show n ≤ 2000 ∧ (C ++ [(⟨s0, s1, s2⟩ : Sp)]).length ≤ 10000 ∧ (C ++ [(⟨s0, s1, s2⟩ : Sp)]).length = n + 1 ∧ sflat (C ++ [(⟨s0, s1, s2⟩ : Sp)]) = sflat C ++ [.int .i64 s0, .int .i64 s1, .bool s2] by
    have := cut_le L s0 s1
    have := HLN.out
    rw [List.length_append]
    have e0 := congrArg List.length hC
    refine ⟨by omega, by simp; omega, by simp; omega, by rw [sflat_snoc]; rfl⟩)
  generalize entV (gAt G l.own) = v at hlk HV
  have HCO := Lib.hid (fun q0 w h => collect_any q0 v L s0 s1 HLN.out w h)
  rw [hn, hC] at HCO
  have HCA := Lib.hid (fun g c w h => canon_any W1.heap.size g c (C ++ [(⟨s0, s1, s2⟩ : Sp)]) HCN.out.2.1 w h)
  rw [HCN.out.2.2.1, HCN.out.2.2.2] at HCA
  have hb0 : Below W1.heap.size W1 W1 := Below.refl _ _
  have HBW := Lib.hid hB1
  clear h3 h5 hB1 hT1 hb1 hC hn
  refine region_p (fun a a' w' => ∃ u, (∃ v8 v9 v10 v11 v12 v13 v14 v15 v16 v17 v18 v19 v20 v21 v22 v23 : Value, a' = { tmps := (((((((((((((((((a.tmps.setIfInBounds 8 v8).setIfInBounds 9 v9).setIfInBounds 10 v10).setIfInBounds 11 v11).setIfInBounds 12 v12).setIfInBounds 13 v13).setIfInBounds 14 v14).setIfInBounds 15 v15).setIfInBounds 16 v16).setIfInBounds 17 v17).setIfInBounds 18 v18).setIfInBounds 19 v19).setIfInBounds 20 v20).setIfInBounds 21 v21).setIfInBounds 22 v22).setIfInBounds 23 v23).setIfInBounds 24 u).setIfInBounds 4 u, defers := a.defers }) ∧ ∃ l' : List Sp, l'.Perm (C ++ [(⟨s0, s1, s2⟩ : Sp)]) ∧ l'.Pairwise (fun a b => ¬ b.lo < a.lo) ∧ w'.ownsRow W1.heap.size 71 3 u (joinP l').length (sflat (joinP l')) ∧ Below W1.heap.size W1 w') ?_ ?_
  · go_region_held3 (fun w' => Below W1.heap.size W1 w') (first | assumption | exact below_drew (by assumption) | exact below_alloc (by assumption) _ | exact below_alloc (below_drew (by assumption)) _)
      (first
        | (go_at_call 40; refine (wout_any v HV.out.1 L s0 s1 _ (HV.out.2 _ (by first | assumption | exact below_drew (by assumption) | exact below_alloc (by assumption) _ | exact below_alloc (below_drew (by assumption)) _))).mono ?_; rintro e w3 ⟨q0, rfl, hrw, hb3⟩; have hbx := below_step (by first | assumption | exact below_drew (by assumption) | exact below_alloc (by assumption) _ | exact below_alloc (below_drew (by assumption)) _) hb3; (first | (have hbk := blk_below (blk_drew (blk_new _ _)) hb3) | (have hbk := blk_below (blk_new _ _) hb3) | skip); clear hb3)
        | (go_at_call 39; refine (HCO.out _ _ (by first | assumption | exact RdW.below (by assumption) (below_alloc (Below.refl _ _) _))).mono ?_; rintro e w5 ⟨u, rfl, hu, hb5⟩; have hby := below_step (by first | assumption | exact below_drew (by assumption) | exact below_alloc (by assumption) _ | exact below_alloc (below_drew (by assumption)) _) hb5; replace hu := own_base (base := W1.heap.size) hu (Below.size (show Below W1.heap.size W1 _ from by first | assumption | exact below_drew (by assumption) | exact below_alloc (by assumption) _ | exact below_alloc (below_drew (by assumption)) _)); (first | (have hbk5 := blk_below (by assumption : _ = some (Obj.cells #[Value.int .i64 s0, .int .i64 s1, .bool s2] 71)) hb5) | (have hbk5 := blk_below (blk_new _ _) hb5) | skip); clear hb5)
        | ((refine step_append_lies _ (by rfl) _ _ _ (by rfl) W1.heap.size 71 i0 (.agg #[.int .i64 0, .int .i64 0, .bool false]) 3 24 Try.underlying60 HI.out.1 HI.out.2.1 HI.out.2.2.1 HI.out.2.2.2 rfl (by decide) u n (sflat C) (by rfl) (by first | assumption | exact World.ownsRow.alloc (by assumption) _) _ 1 1 [.int .i64 s0, .int .i64 s1, .bool s2] (by rfl) (by rfl) (by intro j z hz; first | exact cells_new j z hz | exact cells_at (by assumption) j z hz) (by simp [Value.oneCell']) (by omega) (by have := HCN.out; unfold maxLen; omega) (by have := HCN.out; omega) (Below.size (show Below W1.heap.size W1 _ from by first | assumption | exact below_drew (by assumption) | exact below_alloc (by assumption) _ | exact below_alloc (below_drew (by assumption)) _)) _ rfl ?_; intro gg cap1 w' hown' hg' hat' hlt'); have hbz := Below.grown (show Below W1.heap.size W1 _ from by first | assumption | exact below_drew (by assumption) | exact below_alloc (by assumption) _ | exact below_alloc (below_drew (by assumption)) _) hg' (Below.size (show Below W1.heap.size W1 _ from by first | assumption | exact below_drew (by assumption) | exact below_alloc (by assumption) _ | exact below_alloc (below_drew (by assumption)) _)) (fun j hj => (hu.lt j hj).1))
        | (go_at_call 38; refine (HCA.out _ _ _ (by assumption)).mono ?_; rintro e w7 ⟨u7, rfl, l', hp, hsrt, hu7, hk7⟩; have hbc := below_keep hbz hk7 (hown'.lt _ rfl).1; replace hu7 := own_base (base := W1.heap.size) hu7 (Below.size (by assumption))))
    all_goals exact ⟨rfl, _, ⟨_, _, _, _, _, _, _, _, _, _, _, _, _, _, _, _, rfl⟩, _, by assumption, by assumption, by assumption, by first | assumption | exact below_drew (by assumption)⟩
  · rintro a' W2 ⟨u, ⟨v8, v9, v10, v11, v12, v13, v14, v15, v16, v17, v18, v19, v20, v21, v22, v23, rfl⟩, l', hp, hsrt, hu, hb⟩
    simp only [List.setIfInBounds_toArray, List.set_cons_zero, List.set_cons_succ]
    have HR := Lib.hid (And.intro hp (And.intro hsrt (And.intro hu hb)))
    clear hp hsrt hu hb hb0
    go_wp2
    go_ret
    obtain ⟨hp, hsrt, hu, hb⟩ := HR.out
    exact ⟨u, rfl, l', hp, hsrt, own_base hu HBW.out.size, HBW.out.trans (hb.mono HBW.out.size)⟩
end Go.Proofs.Ytoolflmaaooplaa
