/- Ranges: Set where nobody waits, without waiting. -/
import Derived.Test.YtoolflmaaooplaaN2
namespace Go.Proofs.Ytoolflmaaooplaa
set_option linter.unusedVariables false
set_option linter.unusedSimpArgs false
open Go.RowKit Go.Maps Go.Sort Go.Lib Go.Shelf Go.Proofs.YtoolflmaaooplaaW.PrintWords Go.Proofs.YtoolflmaaooplaaW.PrintLast Go.Proofs.YtoolflmaaooplaaW.PrintMore FLib
attribute [local go_sem] below_alloc_T below_drew_T below_drewN_T

theorem okL_sum {o s l : Int} (h : okL o s l = true) : -1000000 ≤ s + l ∧ s + l ≤ 1000000 := by have := okL_iff.1 h; omega
theorem okL_wf {o s l : Int} (h : okL o s l = true) (hw : o ≤ 9223372036854775807) : (Lit.int .i64 o).wf = true := by
  have := (okL_iff.1 h).1
  simp [Lit.wf, IntKind.min, IntKind.max, IntKind.bits, IntKind.signed]
  omega
set_option maxRecDepth 100000 in
set_option maxHeartbeats 1000000 in
theorem set_conf (p mb : Nat) (G : List Ent) (hs : GSort G) (hok : GOk G) (l : Lk) (hl : okL l.own l.st l.len = true) (hc : (confL G l).isEmpty = false) (w : World) (h : TG w p mb (.slice none 0 0) G []) :
    Calls Try.prog 8 #[.pointer (some ⟨p, 0, none⟩), lkV l, .bool false] w fun e w' => e = .returned (.tuple #[.bool false, .slice none 0 0, .int .i64 2]) ∧ TG w' p mb (.slice none 0 0) G [] ∧ Below w.heap.size w w' := by
  have HT := Lib.hid h
  have HV := Lib.hid (fun w => valid_any l.own l.st l.len w)
  rw [hl] at HV
  have HW := Lib.hid (fun w h => waits_any p mb (.slice none 0 0) G [] (by simp) l.own w h)
  have HF := Lib.hid (fun w h => free_any p mb (.slice none 0 0) G [] hs hok l (okL_sum hl) w h)
  rw [hc] at HF
  clear h hs hok hl hc
  have hb1 := below_alloc (Below.refl w.heap.size w) (.cells l.cells.toArray 23)
  have hbx := blk_new w (.cells l.cells.toArray 23)
  have HB := Lib.hid (And.intro hb1 hbx)
  clear hb1 hbx
  simp only [lkV, Lk.cells] at HF HB ⊢
  go_enter Try.func8, Try.ntmps8
  go_wp2_with fail
  refine (HV.out _).mono ?_
  rintro e w1 ⟨rfl, rfl⟩
  go_wp2_with fail
  refine (HW.out _ (HT.out.below HB.out.1)).mono ?_
  rintro e w2 ⟨rfl, hb2⟩
  have hT2 := (HT.out.below HB.out.1).below hb2
  have hx2 := blk_below HB.out.2 hb2
  have z0 : w2.cell? ⟨w.heap.size, 0, none⟩ = some (.int .i64 l.own) := blk_cell hx2 0
  have z1 : w2.cell? ⟨w.heap.size, 1, none⟩ = some (.int .i64 l.st) := blk_cell hx2 1
  have z2 : w2.cell? ⟨w.heap.size, 2, none⟩ = some (.int .i64 l.len) := blk_cell hx2 2
  have z3 : w2.cell? ⟨w.heap.size, 3, none⟩ = some (.bool l.ex) := blk_cell hx2 3
  have H2 := Lib.hid (And.intro hT2 (HB.out.1.trans (hb2.mono (by simp))))
  have hw0 : waitI [] l.own = -1 := rfl
  rw [hw0]
  clear hT2 hx2 hb2 hw0
  go_wp2_with fail
  refine (HF.out _ H2.out.1).mono ?_
  rintro e w3 ⟨rfl, hb3⟩
  have H3 := Lib.hid (And.intro (H2.out.1.below hb3) (H2.out.2.trans (hb3.mono H2.out.2.size)))
  clear hb3
  go_wp2
  refine bodyPost_ret (v := .tuple #[.bool false, .slice none 0 0, .int .i64 2]) (by simp [results, Try.results8, go_sem]) rfl ?_
  exact ⟨rfl, H3.out⟩

set_option maxRecDepth 100000 in
set_option maxHeartbeats 1000000 in
theorem set_free (p mb : Nat) (G : List Ent) (hs : GSort G) (hok : GOk G) (hG : G.length < 1000) (l : Lk) (hl : okL l.own l.st l.len = true) (hwf : (Lit.int .i64 l.own).wf = true) (hc : (confL G l).isEmpty = true)
    (hcnt : ∀ l' : List Sp, l'.Perm (cutP (spansOf G l.own) (spanI l).lo (spanI l).hi ++ [spanI l]) → l'.Pairwise (fun a b => ¬ b.lo < a.lo) → 0 < (joinP l').length ∧ (joinP l').length + cntG G l.own ≤ 200) (w : World) (h : TG w p mb (.slice none 0 0) G []) :
    Calls Try.prog 8 #[.pointer (some ⟨p, 0, none⟩), lkV l, .bool false] w fun e w' => e = .returned (.tuple #[.bool true, .slice none 0 0, .int .i64 0]) ∧
      ∃ (g c : Nat) (l' : List Sp), l'.Perm (cutP (spansOf G l.own) (spanI l).lo (spanI l).hi ++ [spanI l]) ∧ l'.Pairwise (fun a b => ¬ b.lo < a.lo) ∧ TG w' p mb (.slice none 0 0) (gPut G ⟨l.own, g, c, joinP l'⟩) [] ∧ Keeps w w' (fun b => b = p ∨ b = mb) := by
  have HT := Lib.hid h
  have HV := Lib.hid (fun w => valid_any l.own l.st l.len w)
  rw [hl] at HV
  have HW := Lib.hid (fun w h => waits_any p mb (.slice none 0 0) G [] (by simp) l.own w h)
  have HF := Lib.hid (fun w h => free_any p mb (.slice none 0 0) G [] hs hok l (okL_sum hl) w h)
  rw [hc] at HF
  have HWI := Lib.hid (fun w h => with_any p mb (.slice none 0 0) G [] hok l (okL_sum hl) hwf w h)
  have HCN := Lib.hid hcnt
  have HCO := Lib.hid (fun a n c hn w h => count_any p mb (.slice none 0 0) G [] hs hok.len l.own a n c hn w h)
  have HPU := Lib.hid (fun e (he : e.own = l.own) hne hl w h hr h1 h2 h3 => put_ins p mb (.slice none 0 0) G [] hs e (by rw [he]; exact hwf) hne hl hG w h hr h1 h2 h3)
  have HSC := Lib.hid (fun G' w h => scan_nil p mb G' w h)
  clear h hs hok hl hc hcnt hwf hG
  have hb1 := below_alloc (Below.refl w.heap.size w) (.cells l.cells.toArray 23)
  have hbx := blk_new w (.cells l.cells.toArray 23)
  have HB := Lib.hid (And.intro hb1 hbx)
  clear hb1 hbx
  simp only [lkV, Lk.cells] at HF HB HWI ⊢
  generalize cutP (spansOf G l.own) (spanI l).lo (spanI l).hi ++ [spanI l] = C at HCN HWI ⊢
  go_enter Try.func8, Try.ntmps8
  go_wp2_with fail
  refine (HV.out _).mono ?_
  rintro e w1 ⟨rfl, rfl⟩
  go_wp2_with fail
  refine (HW.out _ (HT.out.below HB.out.1)).mono ?_
  rintro e w2 ⟨rfl, hb2⟩
  have hT2 := (HT.out.below HB.out.1).below hb2
  have hx2 := blk_below HB.out.2 hb2
  have z0 : w2.cell? ⟨w.heap.size, 0, none⟩ = some (.int .i64 l.own) := blk_cell hx2 0
  have z1 : w2.cell? ⟨w.heap.size, 1, none⟩ = some (.int .i64 l.st) := blk_cell hx2 1
  have z2 : w2.cell? ⟨w.heap.size, 2, none⟩ = some (.int .i64 l.len) := blk_cell hx2 2
  have z3 : w2.cell? ⟨w.heap.size, 3, none⟩ = some (.bool l.ex) := blk_cell hx2 3
  have H2 := Lib.hid (And.intro hT2 (HB.out.1.trans (hb2.mono (by simp))))
  have hw0 : waitI [] l.own = -1 := rfl
  rw [hw0]
  clear hT2 hx2 hb2 hw0
  go_wp2_with fail
  refine (HF.out _ H2.out.1).mono ?_
  rintro e w3 ⟨rfl, hb3⟩
  replace z0 := pw_cell_below hb3 z0
  replace z1 := pw_cell_below hb3 z1
  replace z2 := pw_cell_below hb3 z2
  replace z3 := pw_cell_below hb3 z3
  have H3 := Lib.hid (And.intro (H2.out.1.below hb3) (H2.out.2.trans (hb3.mono H2.out.2.size)))
  clear hb3 H2
  go_wp2_with fail
  refine (HWI.out _ H3.out.1).mono ?_
  rintro e w4 ⟨u, rfl, l', hp, hsrt, hu, hb4⟩
  replace z0 := pw_cell_below hb4 z0
  have H4 := Lib.hid (And.intro (H3.out.1.below hb4) (H3.out.2.trans (hb4.mono H3.out.2.size)))
  have HC := Lib.hid (HCN.out l' hp hsrt)
  have HP := Lib.hid (And.intro hp hsrt)
  have hu2 := own_base (base := w.heap.size) hu H3.out.2.size
  clear hp hsrt hb4 z1 z2 z3 hu HCN
  rcases row_form hu2 with ⟨-, hz⟩ | ⟨g, c, rfl⟩
  · have := HC.out.1; omega
  have HU := Lib.hid hu2
  have hn : (joinP l').length ≤ 200 := by have := HC.out.2; omega
  have HNN := Lib.hid hn
  have HCO2 := Lib.hid (HCO.out (some ⟨g, 0, none⟩) (joinP l').length c (by omega) w4 H4.out.1)
  have d1 : decide ((200 : Int) < (((joinP l').length + cntG G l.own : Nat) : Int)) = false := decide_eq_false (by have := HC.out.2; omega)
  obtain ⟨N, hN⟩ : ∃ N : Nat, (joinP l').length + cntG G l.own = N := ⟨_, rfl⟩
  rw [hN] at HCO2 d1
  clear hu2 hN hn
  go_wp2_with fail
  refine HCO2.out.mono ?_
  rintro e w5 ⟨rfl, hb5⟩
  replace z0 := pw_cell_below hb5 z0
  have H5 := Lib.hid (And.intro (H4.out.1.below hb5) (And.intro (H4.out.2.trans (hb5.mono H4.out.2.size)) (pw_own_below HU.out hb5)))
  clear hb5
  have HPU2 := Lib.hid (HPU.out ⟨l.own, g, c, joinP l'⟩ rfl HC.out.1 (by have := HNN.out; show (joinP l').length ≤ 100000; omega) w5 H5.out.1 (own_base H5.out.2.2 (Nat.zero_le _)) (fun e => by have h1 := (H5.out.2.2.lt g rfl).1; have h2 := HT.out.own_lt (k := p) (.inl rfl); dsimp only at e; omega)
    (fun e => by have h1 := (H5.out.2.2.lt g rfl).1; have h2 := HT.out.own_lt (k := mb) (.inr (.inl rfl)); dsimp only at e; omega) (by simp [Value.ownBlock]))
  simp only [entV] at HPU2
  go_wp2_with fail
  refine HPU2.out.mono ?_
  rintro e w6 ⟨rfl, hT6, hg6⟩
  have H6 := Lib.hid (And.intro hT6 hg6)
  clear hT6 hg6
  go_wp2_with fail
  refine (HSC.out _ _ H6.out.1).mono ?_
  rintro e w7 ⟨rfl, hT7, hK7⟩
  have H7 := Lib.hid (And.intro hT7 hK7)
  clear hT7 hK7
  go_wp2
  refine bodyPost_ret (v := .tuple #[.bool true, .slice none 0 0, .int .i64 0]) (by simp [results, Try.results8, go_sem]) rfl ?_
  have hk : Keeps w w6 (fun b => b = p ∨ b = mb) := (Keeps.of_below H5.out.2.1 _).grown H6.out.2 (fun k hk => by cases hk; exact .inl (.inr rfl))
  exact ⟨rfl, g, c, l', HP.out.1, HP.out.2, H7.out.1, hk.trans H7.out.2 (fun i hi => .inl (.inl hi))⟩
end Go.Proofs.Ytoolflmaaooplaa
