/- Ranges: Release, Test, Set by cases. -/
import Derived.Test.YtoolflmaaooplaaGreatMG
import Derived.ControlIn
import Derived.OrdersIn
namespace Go.Proofs.YtoolflmaaooplaaGreat
section
set_option linter.unusedVariables false
set_option linter.unusedSimpArgs false
open Go.RowKit Go.Maps Go.Sort Go.Lib Go.Shelf Go.Proofs.YtoolflmaaooplaaGreatW.PrintWords Go.Proofs.YtoolflmaaooplaaGreatW.PrintLast Go.Proofs.YtoolflmaaooplaaGreatW.PrintMore FLib
attribute [local go_sem] below_alloc_T below_drew_T below_drewN_T

theorem below_keepo {W w1 w2 : World} {o : Option Nat} (h : Below W.heap.size W w1) (hk : Keeps w1 w2 (fun b => o = some b)) (hg : ∀ b, o = some b → W.heap.size ≤ b) : Below W.heap.size W w2 := h.trans (hk.below h.size (fun i hi => hg i hi))
/-- A table behind a release. -/
def relT (T : Tb) (o s n : Int) : Tb := tPut T o (rSp (tAt T o) s (endI s n))
def relN (T : Tb) (o s n : Int) : Nat := (rSp (tAt T o) s (endI s n)).length + tCnt T o
theorem endI_le {o s n : Int} (h : okL o s n = true) : s ≤ endI s n := by
  have := okL_iff.1 h
  unfold endI
  split <;> omega
theorem release_bad (p : Nat) (o s n : Int) (hv : okL o s n = false) (w : World) : Calls Tryz.prog 31 #[.pointer (some ⟨p, 0, none⟩), .int .i64 o, .int .i64 s, .int .i64 n] w fun e w' => e = .returned (.tuple #[.slice none 0 0, .int .i64 34]) ∧ w = w' := by
  have HV := Lib.hid (fun w => valid_any o s n w)
  rw [hv] at HV
  clear hv
  go_enter Tryz.func31, Tryz.ntmps31
  go_wp2_with fail
  refine (HV.out _).mono ?_
  rintro e w1 ⟨rfl, rfl⟩
  go_wp2
  refine bodyPost_ret (v := .tuple #[.slice none 0 0, .int .i64 34]) (by simp [results, Tryz.results31, go_sem]) rfl ?_
  exact ⟨rfl, rfl⟩
set_option maxRecDepth 100000 in
set_option maxHeartbeats 1000000 in
theorem release_any (p mb : Nat) (qv : Value) (G : List Ent) (T : Tb) (Q : List Lk) (hT : TOk T) (hTl : tAll T + 2 * Q.length ≤ 800) (hQ : QOk Q) (hG : plainG G = T) (o s n : Int) (hv : okL o s n = true) (hwf : (Lit.int .i64 o).wf = true) (w : World) (h : TG w p mb qv G Q) :
    Calls Tryz.prog 31 #[.pointer (some ⟨p, 0, none⟩), .int .i64 o, .int .i64 s, .int .i64 n] w fun e w' =>
      (200 < relN T o s n ∧ e = .returned (.tuple #[.slice none 0 0, .int .i64 18]) ∧ TG w' p mb qv G Q ∧ Below w.heap.size w w') ∨
      (relN T o s n ≤ 200 ∧ ∃ (u qv' : Value) (G' : List Ent), e = .returned (.tuple #[u, .int .i64 0]) ∧ TG w' p mb qv' G' (scanF (Q.length + 1) (relT T o s n) [] Q).2 ∧ plainG G' = (scanF (Q.length + 1) (relT T o s n) [] Q).1.1 ∧
        w'.ownsRow w.heap.size 3 1 u (scanF (Q.length + 1) (relT T o s n) [] Q).1.2.length ((scanF (Q.length + 1) (relT T o s n) [] Q).1.2.map encZ) ∧ QvOk qv.ownBlock qv' (scanF (Q.length + 1) (relT T o s n) [] Q).2 ∧ Keeps w w' (PF p mb qv)) := by
  subst hG
  have HVA := Lib.hid (fun w => valid_any o s n w)
  rw [hv] at HVA
  have hE := endI_le hv
  have HE := Lib.hid (fun w => end_any s n (okL_sum hv) w)
  have hsp := tAt_ok hT o
  have hrl := rSp_len hsp.1 hE
  have hall := tAll_del hT.sort o
  have hGl : G.length < 1000 := by have := len_all hT.ne; unfold plainG at this hTl; rw [List.length_map] at this; omega
  have HR1 := Lib.hid (fun l' hp hs => rSp_one (l' := l') hsp.1 hE hp hs)
  have HRO := Lib.hid (rSp_ok hsp.1 hE)
  have HCO0 := Lib.hid (fun a n c hn w h => count_any p mb qv G Q hT.gsort hT.gok.len o a n c hn w h)
  have HPD := Lib.hid (fun a c w h => put_del p mb qv G Q hT.gsort o hwf a c w h)
  have HPU := Lib.hid (fun e (he : e.own = o) hne hl w h hr h1 h2 h3 => put_ins p mb qv G Q hT.gsort e (by rw [he]; exact hwf) hne hl hGl w h hr h1 h2 h3)
  have HSC := Lib.hid (fun w G' h hG' => scan_any p mb qv (relT (plainG G) o s n) Q (hT.put hwf (rSp_ok hsp.1 hE) (by omega)) (by unfold relT; rw [tAll_put]; omega) hQ w G' h hG')
  have HLN := Lib.hid hsp.2
  have HRL := Lib.hid (show (rSp (tAt (plainG G) o) s (endI s n)).length ≤ 900 by omega)
  have HTG := Lib.hid h
  have HV := Lib.hid (And.intro (entV_one (gAt G o)) (fun w' (hb : Below w.heap.size w w') => (h.below hb).spans o))
  rw [plain_at] at HV
  have hlk : ∀ w', Below w.heap.size w w' → (Instr.lookup 46 (.map (some mb)) (.int .i64 o) false).run Tryz.prog w' = .ok (entV (gAt G o)) w' := fun w' hb => (h.below hb).run_look hwf
  have c0 := later_cell (v := .map (some mb)) (blk_cell h.hdr 0)
  obtain ⟨R, hR⟩ : ∃ R, scanF (Q.length + 1) (relT (plainG G) o s n) [] Q = R := ⟨_, rfl⟩
  rw [hR] at HSC
  rw [hR]
  clear hR
  generalize entV (gAt G o) = v at HV hlk
  unfold relN
  have HREL := Lib.hid (show relT (plainG G) o s n = tPut (plainG G) o (rSp (tAt (plainG G) o) s (endI s n)) from rfl)
  have HPP := Lib.hid (fun g c (hl : 0 < (rSp (tAt (plainG G) o) s (endI s n)).length) => plain_put G ⟨o, g, c, rSp (tAt (plainG G) o) s (endI s n)⟩ hl)
  have HPN := Lib.hid (plain_del G o)
  rw [← plain_cnt] at *
  clear h hT hTl hQ hv hwf hE hsp hrl hall hGl
  generalize tAt (plainG G) o = L at *
  generalize endI s n = E at *
  generalize relT (plainG G) o s n = TR at *
  obtain ⟨C, hC⟩ : ∃ C, cutP L s E = C := ⟨_, rfl⟩
  obtain ⟨m, hm⟩ : ∃ m, C.length = m := ⟨_, rfl⟩
  have HCO := Lib.hid (fun q0 w h => collect_any q0 v L s E HLN.out w h)
  rw [hC, hm] at HCO
  have HML := Lib.hid (show m ≤ 2000 by have := cut_le L s E; have := HLN.out; rw [hC, hm] at *; omega)
  have HCA := Lib.hid (fun (u : Value) (w1 : World) (h : w1.ownsRow w.heap.size 50 3 u C.length (sflat C)) => canon_v w.heap.size u C (by rw [hm]; have := HML.out; omega) w1 h)
  rw [hm] at HCA
  have HRR := Lib.hid (show ∀ l' : List Sp, l'.Perm C → l'.Pairwise (fun a b => ¬ b.lo < a.lo) → joinP l' = rSp L s E from fun l' hp hs => HR1.out l' (by rw [hC]; exact hp) hs)
  generalize rSp L s E = N at *
  have hb0 : Below w.heap.size w w := Below.refl _ _
  clear hC hm HR1 HLN
  go_enter Tryz.func31, Tryz.ntmps31
  go_wp2_with fail
  refine (HVA.out _).mono ?_
  rintro e w1 ⟨rfl, rfl⟩
  go_wp2
  refine region_p (fun a a' w' => ∃ u, (∃ v20 v21 v22 v23 v24 v25 v26 v27 v28 v29 v30 v31 : Value, a' = { tmps := (((((((((((((a.tmps.setIfInBounds 20 v20).setIfInBounds 21 v21).setIfInBounds 22 v22).setIfInBounds 23 v23).setIfInBounds 24 v24).setIfInBounds 25 v25).setIfInBounds 26 v26).setIfInBounds 27 v27).setIfInBounds 28 v28).setIfInBounds 29 v29).setIfInBounds 30 v30).setIfInBounds 31 v31).setIfInBounds 32 u).setIfInBounds 10 u, defers := a.defers }) ∧ ∃ l' : List Sp, l'.Perm C ∧ l'.Pairwise (fun a b => ¬ b.lo < a.lo) ∧ w'.ownsRow w.heap.size 50 3 u (joinP l').length (sflat (joinP l')) ∧ Below w.heap.size w w') ?_ ?_
  · go_region_held3 (fun w' => Below w.heap.size w w') (first | assumption | exact below_drew (by assumption))
      (first
        | (go_at_call 57; refine (HE.out _).mono ?_; rintro e w2 ⟨rfl, rfl⟩)
        | (go_at_call 47; refine (wout_any v HV.out.1 L s E _ (HV.out.2 _ (by first | assumption | exact below_drew (by assumption)))).mono ?_; rintro e w3 ⟨q0, rfl, hrw, hb3⟩; have hbx := below_step (by first | assumption | exact below_drew (by assumption)) hb3; clear hb3)
        | (go_at_call 46; refine (HCO.out _ _ (by assumption)).mono ?_; rintro e w5 ⟨u, rfl, hu, hb5⟩; have hby := below_step (by first | assumption | exact below_drew (by assumption)) hb5; replace hu := own_base (base := w.heap.size) hu (Below.size (by assumption)); clear hb5)
        | (go_at_call 45; refine (HCA.out _ _ (by assumption)).mono ?_; rintro e w7 ⟨u7, rfl, l', hp, hsrt, hu7, hk7⟩; have hbc := below_keepo hby hk7 (fun b hb => (hu.lt b hb).1); replace hu7 := own_base (base := w.heap.size) hu7 (Below.size hby)))
    all_goals exact ⟨rfl, _, ⟨_, _, _, _, _, _, _, _, _, _, _, _, rfl⟩, _, by assumption, by assumption, by assumption, by first | assumption | exact below_drew (by assumption)⟩
  · rintro a' W2 ⟨u, ⟨v20, v21, v22, v23, v24, v25, v26, v27, v28, v29, v30, v31, rfl⟩, l', hp, hsrt, hu, hb2⟩
    simp only [List.setIfInBounds_toArray, List.set_cons_zero, List.set_cons_succ]
    rw [HRR.out l' hp (hsrt.imp fun h => by omega)] at hu
    have HU := Lib.hid (And.intro hu hb2)
    clear hp hsrt hb0 hlk c0 l'
    obtain ⟨aa, cc, rfl⟩ : ∃ aa cc, u = .slice aa N.length cc := by
      rcases row_form HU.out.1 with ⟨rfl, hz⟩ | ⟨g, c, rfl⟩
      · exact ⟨none, 0, by rw [hz]⟩
      · exact ⟨_, c, rfl⟩
    have hNl := HRL.out
    have HC2 := Lib.hid (HCO0.out aa N.length cc (by omega) W2 (HTG.out.below HU.out.2))
    by_cases hle : N.length + cntG G o ≤ 200
    · have d1 : decide ((200 : Int) < ((N.length + cntG G o : Nat) : Int)) = false := decide_eq_false (by omega)
      have HLE := Lib.hid hle
      clear hle
      obtain ⟨cn, hcn⟩ : ∃ cn : Nat, N.length + cntG G o = cn := ⟨_, rfl⟩
      rw [hcn] at HC2 d1
      clear hcn
      go_wp2_with fail
      refine HC2.out.mono ?_
      rintro e w3 ⟨rfl, hb3⟩
      have H3 := Lib.hid (And.intro ((HTG.out.below HU.out.2).below hb3) (And.intro (HU.out.2.trans (hb3.mono HU.out.2.size)) (pw_own_below HU.out.1 hb3)))
      clear hb3
      rcases Nat.eq_zero_or_pos N.length with hz | hpos
      · have hN0 : N = [] := List.eq_nil_of_length_eq_zero hz
        have HP3 := Lib.hid (HPD.out aa cc w3 H3.out.1)
        rw [hz]
        have HTR := Lib.hid (show plainG (gDel G o) = TR by rw [HPN.out, HREL.out, hN0]; rfl)
        clear hz hN0 HC2
        go_wp2_with fail
        refine HP3.out.mono ?_
        rintro e w4 ⟨rfl, hT4, hg4⟩
        have HS2 := Lib.hid (HSC.out w4 _ hT4 HTR.out)
        have H4 := Lib.hid (And.intro hT4 (show Keeps w w4 (PF p mb qv) from (Keeps.of_below H3.out.2.1 _).grown hg4 (fun k hk => .inl (.inr (.inl (by injection hk with hk; exact hk.symm))))))
        clear hT4 hg4
        go_wp2_with fail
        refine HS2.out.mono ?_
        rintro e w5 ⟨u5, qv5, G5, rfl, hT5, hG5, hu5, hq5, hk5⟩
        have H5 := Lib.hid (And.intro hT5 (And.intro hG5 (And.intro hu5 (And.intro hq5 hk5))))
        clear hT5 hG5 hu5 hq5 hk5
        go_wp2
        refine bodyPost_ret (v := .tuple #[u5, .int .i64 0]) (by simp [results, Tryz.results31, go_sem]) rfl ?_
        obtain ⟨hT5, hG5, hu5, hq5, hk5⟩ := H5.out
        exact .inr ⟨HLE.out, u5, qv5, G5, rfl, hT5, hG5, own_base hu5 H4.out.2.size, hq5, H4.out.2.trans hk5 (fun i hi => .inl hi)⟩
      · obtain ⟨g, rfl⟩ : ∃ g, aa = some ⟨g, 0, none⟩ := by
          rcases row_form HU.out.1 with ⟨e, hz⟩ | ⟨g, c, e⟩
          · omega
          · exact ⟨g, by injection e⟩
        have hlt := fun k hk => HTG.out.own_lt (k := k) hk
        have hgw := (HU.out.1.lt g rfl).1
        have HP3 := Lib.hid (HPU.out ⟨o, g, cc, N⟩ rfl hpos (by show N.length ≤ 100000; omega) w3 H3.out.1 (own_base H3.out.2.2 (Nat.zero_le _)) (fun e => by have := hlt p (.inl rfl); dsimp only at e; omega) (fun e => by have := hlt mb (.inr (.inl rfl)); dsimp only at e; omega)
          (fun e => by have := hlt g (.inr (.inr (.inl e))); omega))
        simp only [entV] at HP3
        have HTR := Lib.hid (show plainG (gPut G ⟨o, g, cc, N⟩) = TR by rw [HPP.out g cc hpos, HREL.out])
        clear hlt hgw hpos HC2
        go_wp2_with fail
        refine HP3.out.mono ?_
        rintro e w4 ⟨rfl, hT4, hg4⟩
        have HS2 := Lib.hid (HSC.out w4 _ hT4 HTR.out)
        have H4 := Lib.hid (And.intro hT4 (show Keeps w w4 (PF p mb qv) from (Keeps.of_below H3.out.2.1 _).grown hg4 (fun k hk => .inl (.inr (.inl (by injection hk with hk; exact hk.symm))))))
        clear hT4 hg4
        go_wp2_with fail
        refine HS2.out.mono ?_
        rintro e w5 ⟨u5, qv5, G5, rfl, hT5, hG5, hu5, hq5, hk5⟩
        have H5 := Lib.hid (And.intro hT5 (And.intro hG5 (And.intro hu5 (And.intro hq5 hk5))))
        clear hT5 hG5 hu5 hq5 hk5
        go_wp2
        refine bodyPost_ret (v := .tuple #[u5, .int .i64 0]) (by simp [results, Tryz.results31, go_sem]) rfl ?_
        obtain ⟨hT5, hG5, hu5, hq5, hk5⟩ := H5.out
        exact .inr ⟨HLE.out, u5, qv5, G5, rfl, hT5, hG5, own_base hu5 H4.out.2.size, hq5, H4.out.2.trans hk5 (fun i hi => .inl hi)⟩
    · have d1 : decide ((200 : Int) < ((N.length + cntG G o : Nat) : Int)) = true := decide_eq_true (by omega)
      have HLE := Lib.hid hle
      clear hle
      obtain ⟨cn, hcn⟩ : ∃ cn : Nat, N.length + cntG G o = cn := ⟨_, rfl⟩
      rw [hcn] at HC2 d1
      clear hcn
      go_wp2_with fail
      refine HC2.out.mono ?_
      rintro e w3 ⟨rfl, hb3⟩
      have H3 := Lib.hid (And.intro ((HTG.out.below HU.out.2).below hb3) (HU.out.2.trans (hb3.mono HU.out.2.size)))
      clear hb3
      go_wp2
      refine bodyPost_ret (v := .tuple #[.slice none 0 0, .int .i64 18]) (by simp [results, Tryz.results31, go_sem]) rfl ?_
      exact .inl ⟨by have := HLE.out; omega, rfl, H3.out⟩
end
section
set_option linter.unusedVariables false
set_option linter.unusedSimpArgs false
open Go.RowKit Go.Maps Go.Sort Go.Lib Go.Shelf Go.Proofs.YtoolflmaaooplaaGreatW.PrintWords Go.Proofs.YtoolflmaaooplaaGreatW.PrintLast Go.Proofs.YtoolflmaaooplaaGreatW.PrintMore FLib
attribute [local go_sem] Oper.semAt_some
attribute [local go_sem] below_alloc_T below_drew_T below_drewN_T

def testR : List Lk → Value
  | [] => .tuple #[lkV ⟨0, 0, 0, false⟩, .bool false, .int .i64 0]
  | c :: _ => .tuple #[lkV c, .bool true, .int .i64 0]
/-- What Test answers. -/
def testV (T : Tb) (x : Lk) : Value := if okL x.own x.st x.len then testR (tConf T x) else .tuple #[lkV ⟨0, 0, 0, false⟩, .bool false, .int .i64 34]
theorem heap_alloc_eq (w : World) (o : Obj) (i : Nat) : (w.alloc o).heap[i]? = if i = w.heap.size then some o else w.heap[i]? := by
  simp only [World.alloc, Array.getElem?_push]
theorem test_bad (p : Nat) (l : Lk) (hv : okL l.own l.st l.len = false) (w : World) : Calls Tryz.prog 37 #[.pointer (some ⟨p, 0, none⟩), lkV l] w fun e w' => e = .returned (.tuple #[lkV ⟨0, 0, 0, false⟩, .bool false, .int .i64 34]) ∧ Below w.heap.size w w' := by
  have HV := Lib.hid (fun w => valid_any l.own l.st l.len w)
  rw [hv] at HV
  have hbx := blk_new w (.cells l.cells.toArray 29)
  clear hv hbx
  simp only [lkV]
  go_enter Tryz.func37, Tryz.ntmps37
  go_wp2_with fail
  refine (HV.out _).mono ?_
  rintro e w1 ⟨rfl, rfl⟩
  go_wp2
  refine bodyPost_ret (v := .tuple #[.agg #[.int .i64 0, .int .i64 0, .int .i64 0, .bool false], .bool false, .int .i64 34]) (by simp [results, Tryz.results37, go_sem]) rfl ?_
  exact ⟨rfl, below_alloc (below_alloc (below_alloc (below_alloc (Below.refl _ _) _) _) _) _⟩
/-- The three cells of Test's results. -/
structure Res (W : World) (b : Nat) (x : Lk) (f : Bool) : Prop where
  c0 : W.heap[b]? = some (.cells x.cells.toArray 29 (0, 0))
  c1 : W.heap[b + 1]? = some (.cells #[.bool f] 4 (0, 0))
  c2 : W.heap[b + 1 + 1]? = some (.cells #[.int .i64 0] 36 (0, 0))
theorem Res.put {W : World} {b : Nat} {x : Lk} {f : Bool} (h : Res W b x f) {k : Nat} (hk : b + 1 + 1 < k) (o : Obj) : Res (W.putObj k o) b x f := ⟨(World.putObj_heap_other (by omega)).trans h.c0, (World.putObj_heap_other (by omega)).trans h.c1, (World.putObj_heap_other (by omega)).trans h.c2⟩
set_option maxRecDepth 100000 in
set_option maxHeartbeats 2000000 in
theorem test_good (p mb : Nat) (qv : Value) (G : List Ent) (Q : List Lk) (hs : GSort G) (hok : GOk G) (l : Lk) (hv : okL l.own l.st l.len = true) (w : World) (h : TG w p mb qv G Q) :
    Calls Tryz.prog 37 #[.pointer (some ⟨p, 0, none⟩), lkV l] w fun e w' => e = .returned (testR (confL G l)) ∧ Below w.heap.size w w' := by
  have HV := Lib.hid (fun w => (callsIn_wide (n := 19)).2 (valid_any l.own l.st l.len w))
  rw [hv] at HV
  have h30 : Fence.wide.fn 21 := trivial
  have h42 : Fence.wide.fn 43 := trivial
  refine (callsIn_wide (n := 20)).1 ?_
  have HT := Lib.hid h
  have HC := Lib.hid (fun w => (callsIn_wide (n := 19)).2 (conflicts_any p l w))
  have HS := Lib.hid (And.intro hs (And.intro hok (okL_sum hv)))
  clear h hs hok hv
  simp only [lkV] at HC
  rw [show lkV l = .agg #[.int .i64 l.own, .int .i64 l.st, .int .i64 l.len, .bool l.ex] from rfl]
  refine callsIn_of_wp_marks Tryz.func37 rfl trivial ?_ rfl
  simp only [Tryz.ntmps37, List.size_toArray, List.length_cons, List.length_nil, Nat.reduceAdd, Nat.reduceSub, Array.replicate_succ, Array.replicate_zero, List.push_toArray, List.append_toArray, List.nil_append, List.cons_append]
  gi_wp2_with fail
  refine (HV.out _).mono ?_
  rintro e w1 ⟨rfl, rfl⟩
  gi_wp2_with fail
  refine (HC.out _).mono ?_
  rintro e w3 ⟨rfl, rfl⟩
  simp only [World.size_alloc]
  gi_wp2
  refine abs_in (fun W0 => W0.heap.size = w.heap.size + 6 ∧ RdC p mb qv G Q (w.heap.size + 1 + 1 + 1 + 1) l W0 ∧ Res W0 (w.heap.size + 1) ⟨0, 0, 0, false⟩ false ∧ Below w.heap.size w W0) ?_ ?_
  · have hb : ∀ o1 o2 o3 o4 o5 o6 : Obj, Below w.heap.size w ((((((w.alloc o1).alloc o2).alloc o3).alloc o4).alloc o5).alloc o6) := fun o1 o2 o3 o4 o5 o6 => below_alloc (below_alloc (below_alloc (below_alloc (below_alloc (below_alloc (Below.refl _ _) _) _) _) _) _) _
    refine ⟨by simp, ⟨HT.out.below (hb _ _ _ _ _ _), ?_, ?_⟩, ⟨?_, ?_, ?_⟩, hb _ _ _ _ _ _⟩
    all_goals (simp only [heap_alloc_eq, World.size_alloc, Lk.cells]; repeat (first | rfl | (rw [if_pos (by omega)]) | (rw [if_neg (by omega)])))
  rintro W0 ⟨hz0, hR0, h4, hB0⟩
  have HZ := Lib.hid hz0
  have HR0 := Lib.hid hR0
  have H4 := Lib.hid h4
  have HB0 := Lib.hid hB0
  clear hz0 hR0 h4 hB0
  refine range_al (m := 20) (by omega) (gf := 63) (ba := #[]) (lb := #[.pointer (some ⟨w.heap.size + 1 + 1 + 1 + 1, 0, none⟩), .pointer (some ⟨w.heap.size + 1 + 1 + 1 + 1 + 1, 0, none⟩)]) rfl (enters_of Tryz.func63 (by kernel_rfl) rfl)
    (conf_at 19 (by omega) p mb qv G Q HS.out.1 HS.out.2.1 (w.heap.size + 1 + 1 + 1 + 1) l HS.out.2.2 W0 HR0.out) (fun k => encC_size _ k)
    (fun _ k W => k = 0 ∧ Below W0.heap.size W0 W) (fun c W => c = .ret ∧ Below w.heap.size w W ∧ ∃ x r, confL G l = x :: r ∧ Res W (w.heap.size + 1) x true) ?rd ?inv ?invx ?ext ?start
    (fun k a W => ∃ b7, a = { tmps := #[.pointer (some ⟨p, 0, none⟩), .agg #[.int .i64 l.own, .int .i64 l.st, .int .i64 l.len, .bool l.ex], undef, .pointer (some ⟨w.heap.size, 0, none⟩), .pointer (some ⟨w.heap.size + 1, 0, none⟩), .pointer (some ⟨w.heap.size + 1 + 1, 0, none⟩), .pointer (some ⟨w.heap.size + 1 + 1 + 1, 0, none⟩), .pointer (some ⟨b7, 0, none⟩), .bool false,
      .pointer (some ⟨p, 0, none⟩), .bool false, undef, .bool false, .pointer (some ⟨w.heap.size, 0, none⟩), .int .i64 l.own, .pointer (some ⟨w.heap.size, 1, none⟩), .int .i64 l.st, .pointer (some ⟨w.heap.size, 2, none⟩), .int .i64 l.len, .bool true, .bool false, undef, .pointer (some ⟨p, 0, none⟩),
      .agg #[.int .i64 l.own, .int .i64 l.st, .int .i64 l.len, .bool l.ex], .func (.func 63) #[] #[.pointer (some ⟨w.heap.size + 1 + 1 + 1 + 1, 0, none⟩), .pointer (some ⟨w.heap.size + 1 + 1 + 1 + 1 + 1, 0, none⟩)], encVC (confL G l) k, undef, undef], defers := [] } ∧ (∀ x, (confL G l)[k]? = some x → W.heap[b7]? = some (.cells x.cells.toArray 29 (0, 0))) ∧ W0.heap.size + 2 ≤ b7) ?fa (fun _ _ _ _ h _ _ _ => h)
    ?assign ?body ?done ?stop
  case rd => exact fun _ k W hI => HR0.out.below hI.2
  case inv => exact fun _ k W r o hI hl => ⟨hI.1, below_put hI.2 (by omega) o⟩
  case invx =>
    rintro c W r o ⟨h1, h2, x, r2, h3, h4⟩ hl
    exact ⟨h1, below_put h2 (by have := HZ.out; omega) o, x, r2, h3, h4.put (by have := HZ.out; omega) o⟩
  case ext => exact fun B k W1 W2 _ hI hb => ⟨hI.1, below_back hI.2 hb⟩
  case start => exact fun W hb _ => ⟨rfl, hb⟩
  case fa =>
    rintro k a W r o ⟨b7, rfl, h7, hz⟩ _
    exact ⟨b7, rfl, fun x hx => (World.putObj_heap_other (by omega)).trans (h7 x hx), hz⟩
  case assign =>
    intro k W K hk hzW hK
    rw [encC_eq]
    obtain ⟨x, hx⟩ : ∃ x, (confL G l)[k]? = some x := ⟨_, List.getElem?_eq_getElem hk⟩
    have henc : encVC (confL G l) k = lkV x := by unfold encVC; rw [hx]
    have hK' := fun a h => hK a _ ((Below.refl _ W).alloc (Nat.le_refl _) (.cells x.cells.toArray 29)) h
    rw [henc] at hK' ⊢
    obtain ⟨x0, x1, x2, x3⟩ := x
    have HK := Lib.hid hK'
    have HX := Lib.hid hx
    clear hK hK' hx henc
    simp only [lkV]
    gi_wp2
    refine HK.out _ ⟨W.heap.size, by simp [lkV], fun x h => ?_, ?_⟩
    · rw [HX.out] at h
      cases h
      exact blk_new _ _
    · exact hzW
  case body =>
    rintro B k W a hB hk ⟨rfl, hI⟩ ⟨b7, rfl, h7, hz7⟩
    obtain ⟨x, hx⟩ : ∃ x, (confL G l)[0]? = some x := ⟨_, List.getElem?_eq_getElem hk⟩
    have henc : encVC (confL G l) 0 = lkV x := by unfold encVC; rw [hx]
    have h7 := h7 x hx
    rw [henc]
    obtain ⟨x0, x1, x2, x3⟩ := x
    simp only [lkV]
    have v0 : W.cell? ⟨b7, 0, none⟩ = some (.int .i64 x0) := blk_cell h7 0
    have v1 : W.cell? ⟨b7, 1, none⟩ = some (.int .i64 x1) := blk_cell h7 1
    have v2 : W.cell? ⟨b7, 2, none⟩ = some (.int .i64 x2) := blk_cell h7 2
    have v3 : W.cell? ⟨b7, 3, none⟩ = some (.bool x3) := blk_cell h7 3
    have hr := H4.out
    have r0 := blk_below hr.c0 hI
    have r1 := blk_below hr.c1 hI
    have r2 := blk_below hr.c2 hI
    have u0 : W.cell? ⟨w.heap.size + 1, 0, none⟩ = some (.int .i64 0) := blk_cell r0 0
    have u1 : W.cell? ⟨w.heap.size + 1, 1, none⟩ = some (.int .i64 0) := blk_cell r0 1
    have u2 : W.cell? ⟨w.heap.size + 1, 2, none⟩ = some (.int .i64 0) := blk_cell r0 2
    have u3 : W.cell? ⟨w.heap.size + 1, 3, none⟩ = some (.bool false) := blk_cell r0 3
    have f0 : W.frozen? ⟨w.heap.size + 1, 0, none⟩ = false := blk_frozen r0 0
    have f1 : W.frozen? ⟨w.heap.size + 1, 1, none⟩ = false := blk_frozen r0 1
    have f2 : W.frozen? ⟨w.heap.size + 1, 2, none⟩ = false := blk_frozen r0 2
    have f3 : W.frozen? ⟨w.heap.size + 1, 3, none⟩ = false := blk_frozen r0 3
    have u4 : W.cell? ⟨w.heap.size + 1 + 1, 0, none⟩ = some (.bool false) := blk_cell r1 0
    have f4 : W.frozen? ⟨w.heap.size + 1 + 1, 0, none⟩ = false := blk_frozen r1 0
    have u5 : W.cell? ⟨w.heap.size + 1 + 1 + 1, 0, none⟩ = some (.int .i64 0) := blk_cell r2 0
    have f5 : W.frozen? ⟨w.heap.size + 1 + 1 + 1, 0, none⟩ = false := blk_frozen r2 0
    have HH := Lib.hid (And.intro hB (And.intro hx (And.intro hI (And.intro r0 (And.intro r1 r2)))))
    clear hB hk hI hx henc h7 hz7 hr r0 r1 r2
    gi_wp2
    obtain ⟨hB, hx, hI, r0, r1, r2⟩ := HH.out
    have n1 : w.heap.size + 1 ≠ w.heap.size + 1 + 1 := by omega
    have n2 : w.heap.size + 1 ≠ w.heap.size + 1 + 1 + 1 := by omega
    have n3 : w.heap.size + 1 + 1 ≠ w.heap.size + 1 + 1 + 1 := by omega
    have keep : Keeps w ((((((W.setCell ⟨w.heap.size + 1, 0, none⟩ (.int .i64 x0)).setCell ⟨w.heap.size + 1, 1, none⟩ (.int .i64 x1)).setCell ⟨w.heap.size + 1, 2, none⟩ (.int .i64 x2)).setCell ⟨w.heap.size + 1, 3, none⟩ (.bool x3)).setCell ⟨w.heap.size + 1 + 1, 0, none⟩ (.bool true)).setCell ⟨w.heap.size + 1 + 1 + 1, 0, none⟩ (.int .i64 0)) (fun _ => False) :=
      ((((((Keeps.of_below (below_back HB0.out hI) (fun _ => False)).set _ _ (.inr (by show w.heap.size ≤ w.heap.size + 1; omega))).set _ _ (.inr (by show w.heap.size ≤ w.heap.size + 1; omega))).set _ _ (.inr (by show w.heap.size ≤ w.heap.size + 1; omega))).set _ _ (.inr (by show w.heap.size ≤ w.heap.size + 1; omega))).set _ _ (.inr (by show w.heap.size ≤ w.heap.size + 1 + 1; omega))).set _ _ (.inr (by show w.heap.size ≤ w.heap.size + 1 + 1 + 1; omega))
    refine ⟨fun b hb => ?_, rfl, keep.below (Nat.le_refl _) (fun _ h => h.elim), ⟨x0, x1, x2, x3⟩, (confL G l).tail, ?_, ?_, ?_, ?_⟩
    · have := hB b hb
      have := HZ.out
      exact (Below.heap_setCell _ _ _ _ (by show b ≠ w.heap.size + 1 + 1 + 1; omega)).trans ((Below.heap_setCell _ _ _ _ (by show b ≠ w.heap.size + 1 + 1; omega)).trans ((Below.heap_setCell _ _ _ _ (by show b ≠ w.heap.size + 1; omega)).trans ((Below.heap_setCell _ _ _ _ (by show b ≠ w.heap.size + 1; omega)).trans ((Below.heap_setCell _ _ _ _ (by show b ≠ w.heap.size + 1; omega)).trans (Below.heap_setCell _ _ _ _ (by show b ≠ w.heap.size + 1; omega))))))
    · cases hl : confL G l with
      | nil => rw [hl] at hx; simp at hx
      | cons y r => rw [hl] at hx; simp at hx; rw [hx]; rfl
    · exact blk_far (blk_far (blk_put (blk_put (blk_put (blk_put r0 0 _ rfl) 1 _ rfl) 2 _ rfl) 3 _ rfl) n1 _) n2 _
    · exact blk_far (blk_put (blk_far (blk_far (blk_far (blk_far r1 (Ne.symm n1) _) (Ne.symm n1) _) (Ne.symm n1) _) (Ne.symm n1) _) 0 _ rfl) n3 _
    · exact blk_put (blk_far (blk_far (blk_far (blk_far (blk_far r2 (Ne.symm n2) _) (Ne.symm n2) _) (Ne.symm n2) _) (Ne.symm n2) _) (Ne.symm n3) _) 0 _ rfl
  case done =>
    rintro B W ⟨hN, hI⟩ hK
    have hnil : confL G l = [] := List.eq_nil_of_length_eq_zero hN
    have hr := H4.out
    have r0 := blk_below hr.c0 hI
    have r1 := blk_below hr.c1 hI
    have r2 := blk_below hr.c2 hI
    have u0 : W.cell? ⟨w.heap.size + 1, 0, none⟩ = some (.int .i64 0) := blk_cell r0 0
    have u1 : W.cell? ⟨w.heap.size + 1, 1, none⟩ = some (.int .i64 0) := blk_cell r0 1
    have u2 : W.cell? ⟨w.heap.size + 1, 2, none⟩ = some (.int .i64 0) := blk_cell r0 2
    have u3 : W.cell? ⟨w.heap.size + 1, 3, none⟩ = some (.bool false) := blk_cell r0 3
    have f0 : W.frozen? ⟨w.heap.size + 1, 0, none⟩ = false := blk_frozen r0 0
    have f1 : W.frozen? ⟨w.heap.size + 1, 1, none⟩ = false := blk_frozen r0 1
    have f2 : W.frozen? ⟨w.heap.size + 1, 2, none⟩ = false := blk_frozen r0 2
    have f3 : W.frozen? ⟨w.heap.size + 1, 3, none⟩ = false := blk_frozen r0 3
    have u4 : W.cell? ⟨w.heap.size + 1 + 1, 0, none⟩ = some (.bool false) := blk_cell r1 0
    have f4 : W.frozen? ⟨w.heap.size + 1 + 1, 0, none⟩ = false := blk_frozen r1 0
    have u5 : W.cell? ⟨w.heap.size + 1 + 1 + 1, 0, none⟩ = some (.int .i64 0) := blk_cell r2 0
    have f5 : W.frozen? ⟨w.heap.size + 1 + 1 + 1, 0, none⟩ = false := blk_frozen r2 0
    have HH := Lib.hid (And.intro hnil (And.intro hK (And.intro hI (And.intro r0 (And.intro r1 r2)))))
    clear hnil hK hI hN hr r0 r1 r2
    gi_wp2
    obtain ⟨hnil, hK, hI, r0, r1, r2⟩ := HH.out
    have n1 : w.heap.size + 1 ≠ w.heap.size + 1 + 1 := by omega
    have n2 : w.heap.size + 1 ≠ w.heap.size + 1 + 1 + 1 := by omega
    have n3 : w.heap.size + 1 + 1 ≠ w.heap.size + 1 + 1 + 1 := by omega
    have keep : Keeps w ((((((W.setCell ⟨w.heap.size + 1, 0, none⟩ (.int .i64 0)).setCell ⟨w.heap.size + 1, 1, none⟩ (.int .i64 0)).setCell ⟨w.heap.size + 1, 2, none⟩ (.int .i64 0)).setCell ⟨w.heap.size + 1, 3, none⟩ (.bool false)).setCell ⟨w.heap.size + 1 + 1, 0, none⟩ (.bool false)).setCell ⟨w.heap.size + 1 + 1 + 1, 0, none⟩ (.int .i64 0)) (fun _ => False) :=
      ((((((Keeps.of_below (below_back HB0.out hI) (fun _ => False)).set _ _ (.inr (by show w.heap.size ≤ w.heap.size + 1; omega))).set _ _ (.inr (by show w.heap.size ≤ w.heap.size + 1; omega))).set _ _ (.inr (by show w.heap.size ≤ w.heap.size + 1; omega))).set _ _ (.inr (by show w.heap.size ≤ w.heap.size + 1; omega))).set _ _ (.inr (by show w.heap.size ≤ w.heap.size + 1 + 1; omega))).set _ _ (.inr (by show w.heap.size ≤ w.heap.size + 1 + 1 + 1; omega))
    have hres : Res ((((((W.setCell ⟨w.heap.size + 1, 0, none⟩ (.int .i64 0)).setCell ⟨w.heap.size + 1, 1, none⟩ (.int .i64 0)).setCell ⟨w.heap.size + 1, 2, none⟩ (.int .i64 0)).setCell ⟨w.heap.size + 1, 3, none⟩ (.bool false)).setCell ⟨w.heap.size + 1 + 1, 0, none⟩ (.bool false)).setCell ⟨w.heap.size + 1 + 1 + 1, 0, none⟩ (.int .i64 0)) (w.heap.size + 1) ⟨0, 0, 0, false⟩ false :=
      ⟨blk_far (blk_far (blk_put (blk_put (blk_put (blk_put r0 0 _ rfl) 1 _ rfl) 2 _ rfl) 3 _ rfl) n1 _) n2 _,
        blk_far (blk_put (blk_far (blk_far (blk_far (blk_far r1 (Ne.symm n1) _) (Ne.symm n1) _) (Ne.symm n1) _) (Ne.symm n1) _) 0 _ rfl) n3 _,
        blk_put (blk_far (blk_far (blk_far (blk_far (blk_far r2 (Ne.symm n2) _) (Ne.symm n2) _) (Ne.symm n2) _) (Ne.symm n2) _) (Ne.symm n3) _) 0 _ rfl⟩
    have hK2 : (((((((W.setCell ⟨w.heap.size + 1, 0, none⟩ (.int .i64 0)).setCell ⟨w.heap.size + 1, 1, none⟩ (.int .i64 0)).setCell ⟨w.heap.size + 1, 2, none⟩ (.int .i64 0)).setCell ⟨w.heap.size + 1, 3, none⟩ (.bool false)).setCell ⟨w.heap.size + 1 + 1, 0, none⟩ (.bool false)).setCell ⟨w.heap.size + 1 + 1 + 1, 0, none⟩ (.int .i64 0))).heap[W0.heap.size]? = some (.deferred (some [])) := by
      have := HZ.out
      exact ((Below.heap_setCell _ _ _ _ (by show W0.heap.size ≠ w.heap.size + 1 + 1 + 1; omega)).trans ((Below.heap_setCell _ _ _ _ (by show W0.heap.size ≠ w.heap.size + 1 + 1; omega)).trans ((Below.heap_setCell _ _ _ _ (by show W0.heap.size ≠ w.heap.size + 1; omega)).trans ((Below.heap_setCell _ _ _ _ (by show W0.heap.size ≠ w.heap.size + 1; omega)).trans ((Below.heap_setCell _ _ _ _ (by show W0.heap.size ≠ w.heap.size + 1; omega)).trans (Below.heap_setCell _ _ _ _ (by show W0.heap.size ≠ w.heap.size + 1; omega))))))).trans hK
    have hb := keep.below (Nat.le_refl _) (fun _ h => h.elim)
    generalize ((((((W.setCell ⟨w.heap.size + 1, 0, none⟩ (.int .i64 0)).setCell ⟨w.heap.size + 1, 1, none⟩ (.int .i64 0)).setCell ⟨w.heap.size + 1, 2, none⟩ (.int .i64 0)).setCell ⟨w.heap.size + 1, 3, none⟩ (.bool false)).setCell ⟨w.heap.size + 1 + 1, 0, none⟩ (.bool false)).setCell ⟨w.heap.size + 1 + 1 + 1, 0, none⟩ (.int .i64 0)) = W4 at hres hK2 hb
    refine ⟨by simp, .inl ⟨_, _, rfl, run_takeDeferred hK2, ?_⟩⟩
    have hr2 := hres.put (k := W0.heap.size) (by have := HZ.out; omega) (.deferred none)
    have hb2 := below_put hb (l := W0.heap.size) (by have := HZ.out; omega) (.deferred none)
    generalize W4.putObj W0.heap.size (.deferred none) = W5 at hr2 hb2
    have u0 : W5.cell? ⟨w.heap.size + 1, 0, none⟩ = some (.int .i64 0) := blk_cell hr2.c0 0
    have u1 : W5.cell? ⟨w.heap.size + 1, 1, none⟩ = some (.int .i64 0) := blk_cell hr2.c0 1
    have u2 : W5.cell? ⟨w.heap.size + 1, 2, none⟩ = some (.int .i64 0) := blk_cell hr2.c0 2
    have u3 : W5.cell? ⟨w.heap.size + 1, 3, none⟩ = some (.bool false) := blk_cell hr2.c0 3
    have u4 : W5.cell? ⟨w.heap.size + 1 + 1, 0, none⟩ = some (.bool false) := blk_cell hr2.c1 0
    have u5 : W5.cell? ⟨w.heap.size + 1 + 1 + 1, 0, none⟩ = some (.int .i64 0) := blk_cell hr2.c2 0
    refine ⟨.tuple #[lkV ⟨0, 0, 0, false⟩, .bool false, .int .i64 0], by simp [results, Tryz.results37, go_sem, u0, u1, u2, u3, u4, u5, lkV], by rw [hnil]; rfl, hb2⟩
  case stop =>
    rintro c W ⟨rfl, hb, x, r, hl, hr⟩ hK
    gi_wp2
    refine ⟨by simp, .inl ⟨_, _, rfl, run_takeDeferred hK, ?_⟩⟩
    have hr2 := hr.put (k := W0.heap.size) (by have := HZ.out; omega) (.deferred none)
    have hb2 := below_put hb (l := W0.heap.size) (by have := HZ.out; omega) (.deferred none)
    generalize W.putObj W0.heap.size (.deferred none) = W5 at hr2 hb2
    obtain ⟨x0, x1, x2, x3⟩ := x
    have u0 : W5.cell? ⟨w.heap.size + 1, 0, none⟩ = some (.int .i64 x0) := blk_cell hr2.c0 0
    have u1 : W5.cell? ⟨w.heap.size + 1, 1, none⟩ = some (.int .i64 x1) := blk_cell hr2.c0 1
    have u2 : W5.cell? ⟨w.heap.size + 1, 2, none⟩ = some (.int .i64 x2) := blk_cell hr2.c0 2
    have u3 : W5.cell? ⟨w.heap.size + 1, 3, none⟩ = some (.bool x3) := blk_cell hr2.c0 3
    have u4 : W5.cell? ⟨w.heap.size + 1 + 1, 0, none⟩ = some (.bool true) := blk_cell hr2.c1 0
    have u5 : W5.cell? ⟨w.heap.size + 1 + 1 + 1, 0, none⟩ = some (.int .i64 0) := blk_cell hr2.c2 0
    refine ⟨.tuple #[lkV ⟨x0, x1, x2, x3⟩, .bool true, .int .i64 0], by simp [results, Tryz.results37, go_sem, u0, u1, u2, u3, u4, u5, lkV], by rw [hl]; rfl, hb2⟩
theorem test_any (p mb : Nat) (qv : Value) (G : List Ent) (T : Tb) (Q : List Lk) (hT : TOk T) (hG : plainG G = T) (l : Lk) (w : World) (h : TG w p mb qv G Q) :
    Calls Tryz.prog 37 #[.pointer (some ⟨p, 0, none⟩), lkV l] w fun e w' => e = .returned (testV T l) ∧ Below w.heap.size w w' := by
  subst hG
  unfold testV
  cases hv : okL l.own l.st l.len
  · exact test_bad p l hv w
  · rw [← plain_conf]
    exact test_good p mb qv G Q hT.gsort hT.gok l hv w h
end
section
set_option linter.unusedVariables false
set_option linter.unusedSimpArgs false
open Go.RowKit Go.Maps Go.Sort Go.Lib Go.Shelf Go.Proofs.YtoolflmaaooplaaGreatW.PrintWords Go.Proofs.YtoolflmaaooplaaGreatW.PrintLast Go.Proofs.YtoolflmaaooplaaGreatW.PrintMore FLib
attribute [local go_sem] below_alloc_T below_drew_T below_drewN_T

/-- What Set answers: whether it is granted, whose locks were granted after, the error. -/
def setV (ok : Bool) (u : Value) (e : Int) : Value := .tuple #[.bool ok, u, .int .i64 e]
theorem set_bad (p : Nat) (l : Lk) (wt : Bool) (hv : okL l.own l.st l.len = false) (w : World) : Calls Tryz.prog 14 #[.pointer (some ⟨p, 0, none⟩), lkV l, .bool wt] w fun e w' => e = .returned (setV false (.slice none 0 0) 34) ∧ Below w.heap.size w w' := by
  have HV := Lib.hid (fun w => valid_any l.own l.st l.len w)
  rw [hv] at HV
  clear hv
  simp only [lkV]
  go_enter Tryz.func14, Tryz.ntmps14
  go_wp2_with fail
  refine (HV.out _).mono ?_
  rintro e w1 ⟨rfl, rfl⟩
  go_wp2
  refine bodyPost_ret (v := .tuple #[.bool false, .slice none 0 0, .int .i64 34]) (by simp [results, Tryz.results14, go_sem]) rfl ?_
  exact ⟨rfl, below_alloc (Below.refl _ _) _⟩
theorem set_busy (p mb : Nat) (qv : Value) (G : List Ent) (Q : List Lk) (hq : Q.length ≤ 1000) (l : Lk) (wt : Bool) (hl : okL l.own l.st l.len = true) (hf : fdI Q l.own < Q.length) (w : World) (h : TG w p mb qv G Q) :
    Calls Tryz.prog 14 #[.pointer (some ⟨p, 0, none⟩), lkV l, .bool wt] w fun e w' => e = .returned (setV false (.slice none 0 0) 5) ∧ Below w.heap.size w w' := by
  have HT := Lib.hid h
  have HV := Lib.hid (fun w => valid_any l.own l.st l.len w)
  rw [hl] at HV
  have HW := Lib.hid (fun w h => waits_any p mb qv G Q (by omega) l.own w h)
  rw [waitI_eq] at HW
  rw [if_pos hf] at HW
  generalize fdI Q l.own = k at HW
  have hk0 : (0 : Int) ≤ (k : Int) := by omega
  clear h hf hq hl
  have hb1 := below_alloc (Below.refl w.heap.size w) (.cells l.cells.toArray 29)
  have hbx := blk_new w (.cells l.cells.toArray 29)
  have HB := Lib.hid (And.intro hb1 hbx)
  clear hb1 hbx
  simp only [lkV, Lk.cells] at HB ⊢
  go_enter Tryz.func14, Tryz.ntmps14
  go_wp2_with fail
  refine (HV.out _).mono ?_
  rintro e w1 ⟨rfl, rfl⟩
  go_wp2_with fail
  refine (HW.out _ (HT.out.below HB.out.1)).mono ?_
  rintro e w2 ⟨rfl, hb2⟩
  have H2 := Lib.hid (HB.out.1.trans (hb2.mono (by simp)))
  clear hb2
  go_wp2
  refine bodyPost_ret (v := .tuple #[.bool false, .slice none 0 0, .int .i64 5]) (by simp [results, Tryz.results14, go_sem]) rfl ?_
  exact ⟨rfl, H2.out⟩
set_option maxRecDepth 100000 in
set_option maxHeartbeats 1000000 in
theorem set_again (p mb : Nat) (qv : Value) (G : List Ent) (Q : List Lk) (hs : GSort G) (hok : GOk G) (hq : Q.length ≤ 1000) (l : Lk)  (hl : okL l.own l.st l.len = true) (hf : ¬ fdI Q l.own < Q.length) (hc : (confL G l).isEmpty = false) (w : World) (h : TG w p mb qv G Q) :
    Calls Tryz.prog 14 #[.pointer (some ⟨p, 0, none⟩), lkV l, .bool false] w fun e w' => e = .returned (setV false (.slice none 0 0) 2) ∧ Below w.heap.size w w' := by
  have HT := Lib.hid h
  have HV := Lib.hid (fun w => valid_any l.own l.st l.len w)
  rw [hl] at HV
  have HW := Lib.hid (fun w h => waits_any p mb qv G Q (by omega) l.own w h)
  rw [waitI_eq] at HW
  rw [if_neg hf] at HW
  have HF := Lib.hid (fun w h => free_any p mb qv G Q hs hok l (okL_sum hl) w h)
  rw [hc] at HF
  clear h hf hl hs hok hc
  have hb1 := below_alloc (Below.refl w.heap.size w) (.cells l.cells.toArray 29)
  have hbx := blk_new w (.cells l.cells.toArray 29)
  have HB := Lib.hid (And.intro hb1 hbx)
  clear hb1 hbx
  simp only [lkV, Lk.cells] at HF HB ⊢
  go_enter Tryz.func14, Tryz.ntmps14
  go_wp2_with fail
  refine (HV.out _).mono ?_
  rintro e w1 ⟨rfl, rfl⟩
  go_wp2_with fail
  refine (HW.out _ (HT.out.below HB.out.1)).mono ?_
  rintro e w2 ⟨rfl, hb2⟩
  have hT2 := (HT.out.below HB.out.1).below hb2
  have hx2 := blk_below HB.out.2 hb2
  have z0 : w2.cell? ⟨w.heap.size, 0, none⟩ = some (.int .i64 l.own) := blk_cell hx2 0
  have z1 : w2.cell? ⟨w.heap.size, 1, none⟩ = some (.int .i64 l.st) := blk_cell hx2 1
  have z2 : w2.cell? ⟨w.heap.size, 2, none⟩ = some (.int .i64 l.len) := blk_cell hx2 2
  have z3 : w2.cell? ⟨w.heap.size, 3, none⟩ = some (.bool l.ex) := blk_cell hx2 3
  have H2 := Lib.hid (And.intro hT2 (And.intro (HB.out.1.trans (hb2.mono (by simp))) hx2))
  clear hT2 hx2 hb2
  go_wp2_with fail
  refine (HF.out _ H2.out.1).mono ?_
  rintro e w3 ⟨rfl, hb3⟩
  have H3 := Lib.hid (And.intro (H2.out.1.below hb3) (And.intro (H2.out.2.1.trans (hb3.mono H2.out.2.1.size)) (blk_below H2.out.2.2 hb3)))
  clear hb3 H2
  go_wp2
  refine bodyPost_ret (v := .tuple #[.bool false, .slice none 0 0, .int .i64 2]) (by simp [results, Tryz.results14, go_sem]) rfl ?_
  exact ⟨rfl, H3.out.2.1⟩
set_option maxRecDepth 100000 in
set_option maxHeartbeats 1000000 in
theorem set_full (p mb : Nat) (qv : Value) (G : List Ent) (Q : List Lk) (hs : GSort G) (hok : GOk G) (hq : Q.length ≤ 1000) (l : Lk) (hfull : 200 ≤ Q.length) (hl : okL l.own l.st l.len = true) (hf : ¬ fdI Q l.own < Q.length) (hc : (confL G l).isEmpty = false) (w : World) (h : TG w p mb qv G Q) :
    Calls Tryz.prog 14 #[.pointer (some ⟨p, 0, none⟩), lkV l, .bool true] w fun e w' => e = .returned (setV false (.slice none 0 0) 18) ∧ Below w.heap.size w w' := by
  have HT := Lib.hid h
  have HV := Lib.hid (fun w => valid_any l.own l.st l.len w)
  rw [hl] at HV
  have HW := Lib.hid (fun w h => waits_any p mb qv G Q (by omega) l.own w h)
  rw [waitI_eq] at HW
  rw [if_neg hf] at HW
  have HF := Lib.hid (fun w h => free_any p mb qv G Q hs hok l (okL_sum hl) w h)
  rw [hc] at HF
  obtain ⟨qa, qc, hqf⟩ : ∃ a c, qv = .slice a Q.length c := by
    rcases row_form h.queue with ⟨rfl, hz⟩ | ⟨g, c, rfl⟩
    · exact ⟨none, 0, by rw [hz]⟩
    · exact ⟨_, c, rfl⟩
  subst hqf
  have hge : decide ((200 : Int) ≤ (Q.length : Int)) = true := decide_eq_true (by omega)
  have hge2 : (200 : Int) ≤ (Q.length : Int) := by omega
  clear hq hfull
  clear h hf hl hs hok hc
  have hb1 := below_alloc (Below.refl w.heap.size w) (.cells l.cells.toArray 29)
  have hbx := blk_new w (.cells l.cells.toArray 29)
  have HB := Lib.hid (And.intro hb1 hbx)
  clear hb1 hbx
  simp only [lkV, Lk.cells] at HF HB ⊢
  go_enter Tryz.func14, Tryz.ntmps14
  go_wp2_with fail
  refine (HV.out _).mono ?_
  rintro e w1 ⟨rfl, rfl⟩
  go_wp2_with fail
  refine (HW.out _ (HT.out.below HB.out.1)).mono ?_
  rintro e w2 ⟨rfl, hb2⟩
  have hT2 := (HT.out.below HB.out.1).below hb2
  have hx2 := blk_below HB.out.2 hb2
  have z0 : w2.cell? ⟨w.heap.size, 0, none⟩ = some (.int .i64 l.own) := blk_cell hx2 0
  have z1 : w2.cell? ⟨w.heap.size, 1, none⟩ = some (.int .i64 l.st) := blk_cell hx2 1
  have z2 : w2.cell? ⟨w.heap.size, 2, none⟩ = some (.int .i64 l.len) := blk_cell hx2 2
  have z3 : w2.cell? ⟨w.heap.size, 3, none⟩ = some (.bool l.ex) := blk_cell hx2 3
  have H2 := Lib.hid (And.intro hT2 (And.intro (HB.out.1.trans (hb2.mono (by simp))) hx2))
  clear hT2 hx2 hb2
  go_wp2_with fail
  refine (HF.out _ H2.out.1).mono ?_
  rintro e w3 ⟨rfl, hb3⟩
  have y1 : w3.cell? ⟨p, 1, none⟩ = some (.slice qa Q.length qc) := pw_cell_below hb3 (blk_cell H2.out.1.hdr 1)
  replace z0 := pw_cell_below hb3 z0
  replace z1 := pw_cell_below hb3 z1
  replace z2 := pw_cell_below hb3 z2
  replace z3 := pw_cell_below hb3 z3
  have H3 := Lib.hid (And.intro (H2.out.1.below hb3) (And.intro (H2.out.2.1.trans (hb3.mono H2.out.2.1.size)) (blk_below H2.out.2.2 hb3)))
  clear hb3 H2
  go_wp2
  refine bodyPost_ret (v := .tuple #[.bool false, .slice none 0 0, .int .i64 18]) (by simp [results, Tryz.results14, go_sem]) rfl ?_
  exact ⟨rfl, H3.out.2.1⟩
set_option maxRecDepth 100000 in
set_option maxHeartbeats 1000000 in
theorem set_dead (p mb : Nat) (qv : Value) (G : List Ent) (Q : List Lk) (hs : GSort G) (hok : GOk G) (hq : Q.length ≤ 1000) (l : Lk) (hfull : Q.length < 200) (hd : ∀ w, TG w p mb qv G Q → Calls Tryz.prog 28 #[.pointer (some ⟨p, 0, none⟩), lkV l] w fun e w' => e = .returned (.bool true) ∧ Below w.heap.size w w') (hl : okL l.own l.st l.len = true) (hf : ¬ fdI Q l.own < Q.length) (hc : (confL G l).isEmpty = false) (w : World) (h : TG w p mb qv G Q) :
    Calls Tryz.prog 14 #[.pointer (some ⟨p, 0, none⟩), lkV l, .bool true] w fun e w' => e = .returned (setV false (.slice none 0 0) 8) ∧ Below w.heap.size w w' := by
  have HT := Lib.hid h
  have HV := Lib.hid (fun w => valid_any l.own l.st l.len w)
  rw [hl] at HV
  have HW := Lib.hid (fun w h => waits_any p mb qv G Q (by omega) l.own w h)
  rw [waitI_eq] at HW
  rw [if_neg hf] at HW
  have HF := Lib.hid (fun w h => free_any p mb qv G Q hs hok l (okL_sum hl) w h)
  rw [hc] at HF
  obtain ⟨qa, qc, hqf⟩ : ∃ a c, qv = .slice a Q.length c := by
    rcases row_form h.queue with ⟨rfl, hz⟩ | ⟨g, c, rfl⟩
    · exact ⟨none, 0, by rw [hz]⟩
    · exact ⟨_, c, rfl⟩
  subst hqf
  have hge : decide ((200 : Int) ≤ (Q.length : Int)) = false := decide_eq_false (by omega)
  have HDD := Lib.hid hd
  simp only [lkV] at HDD
  clear hq hfull hd
  clear h hf hl hs hok hc
  have hb1 := below_alloc (Below.refl w.heap.size w) (.cells l.cells.toArray 29)
  have hbx := blk_new w (.cells l.cells.toArray 29)
  have HB := Lib.hid (And.intro hb1 hbx)
  clear hb1 hbx
  simp only [lkV, Lk.cells] at HF HB ⊢
  go_enter Tryz.func14, Tryz.ntmps14
  go_wp2_with fail
  refine (HV.out _).mono ?_
  rintro e w1 ⟨rfl, rfl⟩
  go_wp2_with fail
  refine (HW.out _ (HT.out.below HB.out.1)).mono ?_
  rintro e w2 ⟨rfl, hb2⟩
  have hT2 := (HT.out.below HB.out.1).below hb2
  have hx2 := blk_below HB.out.2 hb2
  have z0 : w2.cell? ⟨w.heap.size, 0, none⟩ = some (.int .i64 l.own) := blk_cell hx2 0
  have z1 : w2.cell? ⟨w.heap.size, 1, none⟩ = some (.int .i64 l.st) := blk_cell hx2 1
  have z2 : w2.cell? ⟨w.heap.size, 2, none⟩ = some (.int .i64 l.len) := blk_cell hx2 2
  have z3 : w2.cell? ⟨w.heap.size, 3, none⟩ = some (.bool l.ex) := blk_cell hx2 3
  have H2 := Lib.hid (And.intro hT2 (And.intro (HB.out.1.trans (hb2.mono (by simp))) hx2))
  clear hT2 hx2 hb2
  go_wp2_with fail
  refine (HF.out _ H2.out.1).mono ?_
  rintro e w3 ⟨rfl, hb3⟩
  have y1 : w3.cell? ⟨p, 1, none⟩ = some (.slice qa Q.length qc) := pw_cell_below hb3 (blk_cell H2.out.1.hdr 1)
  replace z0 := pw_cell_below hb3 z0
  replace z1 := pw_cell_below hb3 z1
  replace z2 := pw_cell_below hb3 z2
  replace z3 := pw_cell_below hb3 z3
  have H3 := Lib.hid (And.intro (H2.out.1.below hb3) (And.intro (H2.out.2.1.trans (hb3.mono H2.out.2.1.size)) (blk_below H2.out.2.2 hb3)))
  clear hb3 H2
  go_wp2_with fail
  refine (HDD.out _ H3.out.1).mono ?_
  rintro e w4 ⟨rfl, hb4⟩
  have H4 := Lib.hid (H3.out.2.1.trans (hb4.mono H3.out.2.1.size))
  clear hb4
  go_wp2
  refine bodyPost_ret (v := .tuple #[.bool false, .slice none 0 0, .int .i64 8]) (by simp [results, Tryz.results14, go_sem]) rfl ?_
  exact ⟨rfl, H4.out⟩
set_option maxRecDepth 100000 in
set_option maxHeartbeats 1000000 in
theorem set_grant (p mb : Nat) (qv : Value) (G : List Ent) (Q : List Lk) (T : Tb) (hT : TOk T) (hTl : tAll T + 2 * Q.length ≤ 800) (hQ : QOk Q) (hG : plainG G = T) (l : Lk) (wt : Bool) (hl : okL l.own l.st l.len = true) (hwf : (Lit.int .i64 l.own).wf = true) (hf : ¬ fdI Q l.own < Q.length) (hc : (tConf T l).isEmpty = true) (w : World) (h : TG w p mb qv G Q) :
    Calls Tryz.prog 14 #[.pointer (some ⟨p, 0, none⟩), lkV l, .bool wt] w fun e w' =>
      (grB T l = false ∧ e = .returned (setV false (.slice none 0 0) 18) ∧ Below w.heap.size w w') ∨
      (grB T l = true ∧ ∃ (u qv' : Value) (G' : List Ent), e = .returned (setV true u 0) ∧ TG w' p mb qv' G' (scanF (Q.length + 1) (grT T l) [] Q).2 ∧ plainG G' = (scanF (Q.length + 1) (grT T l) [] Q).1.1 ∧
        w'.ownsRow w.heap.size 3 1 u (scanF (Q.length + 1) (grT T l) [] Q).1.2.length ((scanF (Q.length + 1) (grT T l) [] Q).1.2.map encZ) ∧ QvOk qv.ownBlock qv' (scanF (Q.length + 1) (grT T l) [] Q).2 ∧ Keeps w w' (PF p mb qv)) := by
  subst hG
  have HT := Lib.hid h
  have HV := Lib.hid (fun w => valid_any l.own l.st l.len w)
  rw [hl] at HV
  have HW := Lib.hid (fun w h => waits_any p mb qv G Q (by omega) l.own w h)
  rw [waitI_eq] at HW
  rw [if_neg hf] at HW
  have hGl : G.length < 1000 := by have := len_all hT.ne; unfold plainG at this hTl; rw [List.length_map] at this; omega
  have HF := Lib.hid (fun w h => free_any p mb qv G Q hT.gsort hT.gok l (okL_sum hl) w h)
  rw [plain_conf, hc] at HF
  have HWI := Lib.hid (fun w h => with_any p mb qv G Q hT.gok l (okL_sum hl) hwf w h)
  have HCO := Lib.hid (fun a n c hn w h => count_any p mb qv G Q hT.gsort hT.gok.len l.own a n c hn w h)
  have HPU := Lib.hid (fun e (he : e.own = l.own) hne hl w h hr h1 h2 h3 => put_ins p mb qv G Q hT.gsort e (by rw [he]; exact hwf) hne hl hGl w h hr h1 h2 h3)
  have HW1 := Lib.hid (fun l' hp hs => wSp_one (l' := l') (tAt_ok hT l.own).1 (okL_span hl) (by rw [← plain_at]; exact hp) hs)
  have HLW := Lib.hid (show (wSp (tAt (plainG G) l.own) (spanI l)).length ≤ 1000 by
    have h1 := wSp_len (tAt_ok hT l.own).1 (okL_span hl).2.1
    have h2 := tAll_del hT.sort l.own
    omega)
  have HPL := Lib.hid (fun g c => plain_put G ⟨l.own, g, c, wSp (tAt (plainG G) l.own) (spanI l)⟩ (wSp_pos _ _))
  have HPO := Lib.hid (wSp_pos (tAt (plainG G) l.own) (spanI l))
  have hgt := grT_ok hT hl hwf (by omega)
  have HSC := Lib.hid (fun w G' h hG' => scan_any p mb qv (grT (plainG G) l) Q hgt.1 (by have := hgt.2; omega) hQ w G' h hG')
  have hgr : grB (plainG G) l = decide ((wSp (tAt (plainG G) l.own) (spanI l)).length + cntG G l.own ≤ 200) := by unfold grB; rw [hc, ← plain_cnt, Bool.true_and]
  rw [hgr]
  have HGT := Lib.hid (show grT (plainG G) l = tPut (plainG G) l.own (wSp (tAt (plainG G) l.own) (spanI l)) from rfl)
  obtain ⟨R, hR⟩ : ∃ R, scanF (Q.length + 1) (grT (plainG G) l) [] Q = R := ⟨_, rfl⟩
  rw [hR] at HSC
  rw [hR]
  clear hR hgr
  generalize grT (plainG G) l = TR at HSC HGT
  generalize wSp (tAt (plainG G) l.own) (spanI l) = L at HW1 HLW HPL HPO HGT ⊢
  clear h hf hl hT hTl hQ hwf hc hGl hgt
  have hb1 := below_alloc (Below.refl w.heap.size w) (.cells l.cells.toArray 29)
  have hbx := blk_new w (.cells l.cells.toArray 29)
  have HB := Lib.hid (And.intro hb1 hbx)
  clear hb1 hbx
  simp only [lkV, Lk.cells] at HF HB HWI ⊢
  go_enter Tryz.func14, Tryz.ntmps14
  go_wp2_with fail
  refine (HV.out _).mono ?_
  rintro e w1 ⟨rfl, rfl⟩
  go_wp2_with fail
  refine (HW.out _ (HT.out.below HB.out.1)).mono ?_
  rintro e w2 ⟨rfl, hb2⟩
  have hT2 := (HT.out.below HB.out.1).below hb2
  have hx2 := blk_below HB.out.2 hb2
  have z0 : w2.cell? ⟨w.heap.size, 0, none⟩ = some (.int .i64 l.own) := blk_cell hx2 0
  have z1 : w2.cell? ⟨w.heap.size, 1, none⟩ = some (.int .i64 l.st) := blk_cell hx2 1
  have z2 : w2.cell? ⟨w.heap.size, 2, none⟩ = some (.int .i64 l.len) := blk_cell hx2 2
  have z3 : w2.cell? ⟨w.heap.size, 3, none⟩ = some (.bool l.ex) := blk_cell hx2 3
  have H2 := Lib.hid (And.intro hT2 (And.intro (HB.out.1.trans (hb2.mono (by simp))) hx2))
  clear hT2 hx2 hb2
  go_wp2_with fail
  refine (HF.out _ H2.out.1).mono ?_
  rintro e w3 ⟨rfl, hb3⟩
  replace z0 := pw_cell_below hb3 z0
  replace z1 := pw_cell_below hb3 z1
  replace z2 := pw_cell_below hb3 z2
  replace z3 := pw_cell_below hb3 z3
  have H3 := Lib.hid (And.intro (H2.out.1.below hb3) (H2.out.2.1.trans (hb3.mono H2.out.2.1.size)))
  clear hb3 H2
  go_wp2_with fail
  refine (HWI.out _ H3.out.1).mono ?_
  rintro e w4 ⟨u, rfl, l', hp, hsrt, hu, hb4⟩
  replace z0 := pw_cell_below hb4 z0
  have hj := HW1.out l' hp (hsrt.imp fun h => by omega)
  rw [hj] at hu
  have H4 := Lib.hid (And.intro (H3.out.1.below hb4) (And.intro (H3.out.2.trans (hb4.mono H3.out.2.size)) (own_base (base := w.heap.size) hu H3.out.2.size)))
  have HLL := HLW.out
  clear hp hsrt hb4 z1 z2 z3 hj hu
  obtain ⟨g, c, rfl⟩ : ∃ g c, u = .slice (some ⟨g, 0, none⟩) L.length c := by
    rcases row_form H4.out.2.2 with ⟨rfl, hz⟩ | ⟨g, c, rfl⟩
    · have := HPO.out; omega
    · exact ⟨g, c, rfl⟩
  have HCO2 := Lib.hid (HCO.out (some ⟨g, 0, none⟩) L.length c HLL w4 H4.out.1)
  by_cases hle : L.length + cntG G l.own ≤ 200
  · have d1 : decide ((200 : Int) < ((L.length + cntG G l.own : Nat) : Int)) = false := decide_eq_false (by omega)
    have HLE := Lib.hid hle
    clear hle
    obtain ⟨N, hN⟩ : ∃ N : Nat, L.length + cntG G l.own = N := ⟨_, rfl⟩
    rw [hN] at HCO2 d1
    clear hN
    go_wp2_with fail
    refine HCO2.out.mono ?_
    rintro e w5 ⟨rfl, hb5⟩
    replace z0 := pw_cell_below hb5 z0
    have H5 := Lib.hid (And.intro (H4.out.1.below hb5) (And.intro (H4.out.2.1.trans (hb5.mono H4.out.2.1.size)) (pw_own_below H4.out.2.2 hb5)))
    clear hb5
    have HPU2 := Lib.hid (HPU.out ⟨l.own, g, c, L⟩ rfl HPO.out (by show L.length ≤ 100000; omega) w5 H5.out.1 (own_base H5.out.2.2 (Nat.zero_le _)) (fun e => by have h1 := (H5.out.2.2.lt g rfl).1; have h2 := HT.out.own_lt (k := p) (.inl rfl); dsimp only at e; omega)
      (fun e => by have h1 := (H5.out.2.2.lt g rfl).1; have h2 := HT.out.own_lt (k := mb) (.inr (.inl rfl)); dsimp only at e; omega) (fun e => by have h1 := (H5.out.2.2.lt g rfl).1; have h2 := HT.out.own_lt (k := g) (.inr (.inr (.inl e))); omega))
    simp only [entV] at HPU2
    go_wp2_with fail
    refine HPU2.out.mono ?_
    rintro e w6 ⟨rfl, hT6, hg6⟩
    have HS6 := Lib.hid (HSC.out w6 _ hT6 (by rw [HPL.out g c, HGT.out]))
    have H6 := Lib.hid (show Keeps w w6 (PF p mb qv) from (Keeps.of_below H5.out.2.1 _).grown hg6 (fun k hk => .inl (.inr (.inl (by injection hk with hk; exact hk.symm)))))
    clear hT6 hg6
    go_wp2_with fail
    refine HS6.out.mono ?_
    rintro e w7 ⟨u7, qv7, G7, rfl, hT7, hG7, hu7, hq7, hk7⟩
    have H7 := Lib.hid (And.intro hT7 (And.intro hG7 (And.intro hu7 (And.intro hq7 hk7))))
    clear hT7 hG7 hu7 hq7 hk7
    go_wp2
    refine bodyPost_ret (v := .tuple #[.bool true, u7, .int .i64 0]) (by simp [results, Tryz.results14, go_sem]) rfl ?_
    obtain ⟨hT7, hG7, hu7, hq7, hk7⟩ := H7.out
    exact .inr ⟨decide_eq_true HLE.out, u7, qv7, G7, rfl, hT7, hG7, own_base hu7 H6.out.size, hq7, H6.out.trans hk7 (fun i hi => .inl hi)⟩
  · have d1 : decide ((200 : Int) < ((L.length + cntG G l.own : Nat) : Int)) = true := decide_eq_true (by omega)
    have HLE := Lib.hid hle
    clear hle
    obtain ⟨N, hN⟩ : ∃ N : Nat, L.length + cntG G l.own = N := ⟨_, rfl⟩
    rw [hN] at HCO2 d1
    clear hN
    go_wp2_with fail
    refine HCO2.out.mono ?_
    rintro e w5 ⟨rfl, hb5⟩
    have H5 := Lib.hid (H4.out.2.1.trans (hb5.mono H4.out.2.1.size))
    clear hb5
    go_wp2
    refine bodyPost_ret (v := .tuple #[.bool false, .slice none 0 0, .int .i64 18]) (by simp [results, Tryz.results14, go_sem]) rfl ?_
    exact .inl ⟨decide_eq_false HLE.out, rfl, H5.out⟩
end
section
set_option linter.unusedVariables false
set_option linter.unusedSimpArgs false
open Go.RowKit Go.Maps Go.Sort Go.Lib Go.Shelf Go.Proofs.YtoolflmaaooplaaGreatW.PrintWords Go.Proofs.YtoolflmaaooplaaGreatW.PrintLast Go.Proofs.YtoolflmaaooplaaGreatW.PrintMore FLib
attribute [local go_sem] below_alloc_T below_drew_T below_drewN_T

theorem TG.requeue2 {W W2 : World} {p mb : Nat} {qv qv' : Value} {G : List Ent} {Q Q' : List Lk} (h : TG W p mb qv G Q) (hk : Keeps W W2 (fun b => qv.ownBlock = some b)) (hr : W2.ownsRow 0 29 4 qv' Q'.length (lflat Q')) (hq : qv'.ownBlock = qv.ownBlock ∨ ∃ k, qv'.ownBlock = some k ∧ W.heap.size ≤ k) :
    TG (W2.setCell ⟨p, 1, none⟩ qv') p mb qv' G Q' := by
  obtain ⟨D, hD, hL⟩ := h.map
  have s0 : ∀ k, GOwn p mb qv G k → qv.ownBlock ≠ some k → qv'.ownBlock ≠ some k := fun k hk1 hk2 => by
    rcases hq with e | ⟨j, e, hj⟩
    · rw [e]; exact hk2
    · rw [e]; intro e2; have := h.own_lt hk1; injection e2 with e2; omega
  have hpm : mb ≠ p := fun e => by
    obtain ⟨es, clock, ho, -⟩ := hD
    have := h.hdr; rw [← e, ho] at this; cases this
  have hb : ∀ k, k < W.heap.size → qv.ownBlock ≠ some k → k ≠ p → (W2.setCell ⟨p, 1, none⟩ qv').heap[k]? = W.heap[k]? := fun k h1 h2 h3 => (Below.heap_setCell _ _ _ _ h3).trans (hk.block k h1 h2)
  have t1 := s0 p (.inl rfl) h.sepq.1
  refine ⟨blk_put ((hk.block p (blk_lt h.hdr) h.sepq.1).trans h.hdr) 1 qv' rfl, ⟨D, ?_, hL⟩, fun e he => own_move (h.row e he) (fun k hk' => hb k (row_lt (h.row e he) hk') ?_ ?_), fun e he => ⟨(h.sepr e he).1, (h.sepr e he).2.1, s0 e.g (.inr (.inr (.inr ⟨e, he, rfl⟩))) (h.sepr e he).2.2⟩,
    own_move hr (fun k hk' => Below.heap_setCell _ _ _ _ (fun e => t1 (by rw [hk']; exact congrArg some e))), ⟨t1, s0 mb (.inr (.inl rfl)) h.sepq.2⟩, h.len⟩
  · obtain ⟨es, clock, ho, F', hs, e⟩ := hD
    exact ⟨es, clock, (hb _ (blk_lt ho) h.sepq.2 hpm).trans ho, F', hs, e⟩
  · have e1 : e.g = k := by simpa [entV, Value.ownBlock] using hk'
    subst e1; exact (h.sepr e he).2.2
  · have e1 : e.g = k := by simpa [entV, Value.ownBlock] using hk'
    subst e1; exact (h.sepr e he).1
theorem stepIn_run {F : Fence} {m : Nat} {P : Program} {ops : Array Oper} {o : Oper} {a : Act} {w w' : World} {K : Act → World → Prop} {Q : Exit → Act → World → Prop} {E : Prop} {v : Value} (hro : F.round = none) (hgd : o.guard = none) (s x : Operand) (t : TypeId)
    (ho : o.op = .call { callee := .builtin .append, args := #[s, x], argTypes := #[t, t] }) (u y : Value) (hs : a.eval s = u) (hx : a.eval x = y) (hr : (Builtin.append_ #[t, t] o.type #[u, y]).run P w = .ok v w') (h : K (a.put o.dst v) w') :
    if Region.wanted o (yielded ops a.tmps) = true then Oper.wpIn F m P o a w K Q else E := by
  have hw : Region.wanted o (yielded ops a.tmps) = true := by simp [Region.wanted, hgd]
  rw [if_pos hw]
  unfold Oper.wpIn
  refine ⟨by simp [Oper.about, ho, resolve, Target.leads, Sem.run_pure], ?_⟩
  rw [Oper.semAt_plain F _ _ (by rw [ho]; intro c hc'; cases hc')]
  simp [execOp, ho, resolve, invoke, builtin, hs, hx, hr, Result.andThen, Oper.uponIn]
  exact h
set_option maxRecDepth 100000 in
set_option maxHeartbeats 1000000 in
theorem set_wait (p mb : Nat) (qv : Value) (G : List Ent) (Q : List Lk) (hs : GSort G) (hok : GOk G) (hq : Q.length ≤ 1000) (l : Lk) (hfull : Q.length < 200) (hd : ∀ w, TG w p mb qv G Q → Calls Tryz.prog 28 #[.pointer (some ⟨p, 0, none⟩), lkV l] w fun e w' => e = .returned (.bool false) ∧ Below w.heap.size w w') (hl : okL l.own l.st l.len = true) (hf : ¬ fdI Q l.own < Q.length) (hc : (confL G l).isEmpty = false) (w : World) (h : TG w p mb qv G Q) :
    Calls Tryz.prog 14 #[.pointer (some ⟨p, 0, none⟩), lkV l, .bool true] w fun e w' => ∃ qv', e = .returned (setV false (.slice none 0 0) 0) ∧ TG w' p mb qv' G (Q ++ [l]) ∧ (qv'.ownBlock = qv.ownBlock ∨ ∃ k, qv'.ownBlock = some k ∧ w.heap.size ≤ k) ∧ Keeps w w' (PF p mb qv) := by
  have HT := Lib.hid h
  have HV := Lib.hid (fun w => valid_any l.own l.st l.len w)
  rw [hl] at HV
  have HW := Lib.hid (fun w h => waits_any p mb qv G Q (by omega) l.own w h)
  rw [waitI_eq] at HW
  rw [if_neg hf] at HW
  have HF := Lib.hid (fun w h => free_any p mb qv G Q hs hok l (okL_sum hl) w h)
  rw [hc] at HF
  obtain ⟨qa, qc, hqf⟩ : ∃ a c, qv = .slice a Q.length c := by
    rcases row_form h.queue with ⟨rfl, hz⟩ | ⟨g, c, rfl⟩
    · exact ⟨none, 0, by rw [hz]⟩
    · exact ⟨_, c, rfl⟩
  subst hqf
  have hge : decide ((200 : Int) ≤ (Q.length : Int)) = false := decide_eq_false (by omega)
  have HDD := Lib.hid hd
  have HFL := Lib.hid hfull
  obtain ⟨i0, hi0, hz0, hz1, hz2⟩ := info_parts info23
  have HI := Lib.hid (And.intro hi0 (And.intro hz0 (And.intro hz1 hz2)))
  simp only [lkV] at HDD
  clear hq hfull hd hi0 hz0 hz1 hz2
  clear h hf hl hs hok hc
  have hb1 := below_alloc (Below.refl w.heap.size w) (.cells l.cells.toArray 29)
  have hbx := blk_new w (.cells l.cells.toArray 29)
  have HB := Lib.hid (And.intro hb1 hbx)
  clear hb1 hbx
  simp only [lkV, Lk.cells] at HF HB ⊢
  go_enter Tryz.func14, Tryz.ntmps14
  go_wp2_with fail
  refine (HV.out _).mono ?_
  rintro e w1 ⟨rfl, rfl⟩
  go_wp2_with fail
  refine (HW.out _ (HT.out.below HB.out.1)).mono ?_
  rintro e w2 ⟨rfl, hb2⟩
  have hT2 := (HT.out.below HB.out.1).below hb2
  have hx2 := blk_below HB.out.2 hb2
  have z0 : w2.cell? ⟨w.heap.size, 0, none⟩ = some (.int .i64 l.own) := blk_cell hx2 0
  have z1 : w2.cell? ⟨w.heap.size, 1, none⟩ = some (.int .i64 l.st) := blk_cell hx2 1
  have z2 : w2.cell? ⟨w.heap.size, 2, none⟩ = some (.int .i64 l.len) := blk_cell hx2 2
  have z3 : w2.cell? ⟨w.heap.size, 3, none⟩ = some (.bool l.ex) := blk_cell hx2 3
  have H2 := Lib.hid (And.intro hT2 (And.intro (HB.out.1.trans (hb2.mono (by simp))) hx2))
  clear hT2 hx2 hb2
  go_wp2_with fail
  refine (HF.out _ H2.out.1).mono ?_
  rintro e w3 ⟨rfl, hb3⟩
  have y1 : w3.cell? ⟨p, 1, none⟩ = some (.slice qa Q.length qc) := pw_cell_below hb3 (blk_cell H2.out.1.hdr 1)
  replace z0 := pw_cell_below hb3 z0
  replace z1 := pw_cell_below hb3 z1
  replace z2 := pw_cell_below hb3 z2
  replace z3 := pw_cell_below hb3 z3
  have H3 := Lib.hid (And.intro (H2.out.1.below hb3) (And.intro (H2.out.2.1.trans (hb3.mono H2.out.2.1.size)) (blk_below H2.out.2.2 hb3)))
  clear hb3 H2
  go_wp2_with fail
  refine (HDD.out _ H3.out.1).mono ?_
  rintro e w4 ⟨rfl, hb4⟩
  have H4 := Lib.hid (And.intro (H3.out.1.below hb4) (And.intro (H3.out.2.1.trans (hb4.mono H3.out.2.1.size)) (blk_below H3.out.2.2 hb4)))
  clear hb4 z0 z1 z2 z3 y1
  go_wp2
  have hT4 := H4.out.1
  have hx4 := H4.out.2.2
  have hrow : (w4.drew.alloc (.cells #[.int .i64 l.own, .int .i64 l.st, .int .i64 l.len, .bool l.ex] 29)).ownsRow 0 29 4 (.slice qa Q.length qc) Q.length (lflat Q) := World.ownsRow.alloc (own_move hT4.queue (fun _ _ => rfl)) _
  obtain ⟨v', w5, hrun, hown5, hg5, hnil5, hat5⟩ := run_append_own_at (P := Tryz.prog) (w := w4.drew.alloc (.cells #[.int .i64 l.own, .int .i64 l.st, .int .i64 l.len, .bool l.ex] 29)) 0 26 26 29 i0 (.agg #[.int .i64 0, .int .i64 0, .int .i64 0, .bool false]) 4 32 Tryz.underlying26 HI.out.1 HI.out.2.1 HI.out.2.2.1 HI.out.2.2.2 rfl (by decide) (.slice qa Q.length qc) Q.length (lflat Q) hrow ⟨w4.heap.size, 0, none⟩ 1 1 [.int .i64 l.own, .int .i64 l.st, .int .i64 l.len, .bool l.ex] rfl (fun j z h => cells_new j z h) (by simp [Value.oneCell']) (by have := HFL.out; unfold maxLen; omega) (by have := HFL.out; omega) (Nat.zero_le _)
  obtain ⟨g5, c5, rfl⟩ := row_some hown5
  have hown6 : w5.ownsRow 0 29 4 (.slice (some ⟨g5, 0, none⟩) (Q.length + 1) c5) (Q ++ [l]).length (lflat (Q ++ [l])) := by
    rw [lflat_snoc, List.length_append]; exact hown5
  have hk5 : Keeps w4 w5 (fun b => (Value.slice qa Q.length qc).ownBlock = some b) := (((Keeps.refl w4 _).drew).alloc _).grown hg5 (fun k hk => .inl hk)
  have hat6 : (Value.slice (some ⟨g5, 0, none⟩) (Q.length + 1) c5).ownBlock = (Value.slice qa Q.length qc).ownBlock ∨ ∃ k, (Value.slice (some ⟨g5, 0, none⟩) (Q.length + 1) c5).ownBlock = some k ∧ w4.heap.size ≤ k := by
    rcases hat5 with h1 | h1
    · exact .inl h1
    · exact .inr ⟨_, h1, by simp⟩
  have hp5 : w5.heap[p]? = some (.cells #[.map (some mb), .slice qa Q.length qc] 48 (0, 0)) := (hk5.block p (blk_lt hT4.hdr) (fun e => hT4.sepq.1 e)).trans hT4.hdr
  have y5 : w5.cell? ⟨p, 1, none⟩ = some (.slice qa Q.length qc) := blk_cell hp5 1
  have y6 : w5.frozen? ⟨p, 1, none⟩ = false := blk_frozen hp5 1
  have HFI := Lib.hid (show TG (w5.setCell ⟨p, 1, none⟩ (.slice (some ⟨g5, 0, none⟩) (Q.length + 1) c5)) p mb (.slice (some ⟨g5, 0, none⟩) (Q.length + 1) c5) G (Q ++ [l]) ∧ ((Value.slice (some ⟨g5, 0, none⟩) (Q.length + 1) c5).ownBlock = (Value.slice qa Q.length qc).ownBlock ∨ ∃ k, (Value.slice (some ⟨g5, 0, none⟩) (Q.length + 1) c5).ownBlock = some k ∧ w.heap.size ≤ k) ∧ Keeps w (w5.setCell ⟨p, 1, none⟩ (.slice (some ⟨g5, 0, none⟩) (Q.length + 1) c5)) (PF p mb (.slice qa Q.length qc)) from
    ⟨hT4.requeue2 hk5 hown6 hat6, hat6.imp_right (fun ⟨k, h1, h2⟩ => ⟨k, h1, Nat.le_trans H4.out.2.1.size h2⟩), ((Keeps.of_below H4.out.2.1 (PF p mb (.slice qa Q.length qc))).trans hk5 (fun i hi => .inl (.inr (.inr hi)))).set _ _ (.inl (.inl rfl))⟩)
  have q1 := later_cell (v := .slice qa Q.length qc) (blk_cell hT4.hdr 1)
  have x0 := later_cell (v := .int .i64 l.own) (blk_cell hx4 0)
  have x1 := later_cell (v := .int .i64 l.st) (blk_cell hx4 1)
  have x2 := later_cell (v := .int .i64 l.len) (blk_cell hx4 2)
  have x3 := later_cell (v := .bool l.ex) (blk_cell hx4 3)
  have hs0 : Below w4.heap.size w4 w4 := Below.refl _ _
  have hmx : Tryz.prog.follows .mixedOrders = true := by kernel_rfl
  clear hT4 hx4 hrow hown5 hg5 hnil5 hat5 hown6 hk5 hat6 hp5
  refine region_p (fun a a' w' => (∃ v64 v65 v66 v67 v68 v69 v70 v71 v72 v73 : Value, a' = { tmps := ((((((((((a.tmps.setIfInBounds 64 v64).setIfInBounds 65 v65).setIfInBounds 66 v66).setIfInBounds 67 v67).setIfInBounds 68 v68).setIfInBounds 69 v69).setIfInBounds 70 v70).setIfInBounds 71 v71).setIfInBounds 72 v72).setIfInBounds 73 v73), defers := a.defers }) ∧ (TG w' p mb (.slice (some ⟨g5, 0, none⟩) (Q.length + 1) c5) G (Q ++ [l]) ∧ ((Value.slice (some ⟨g5, 0, none⟩) (Q.length + 1) c5).ownBlock = (Value.slice qa Q.length qc).ownBlock ∨ ∃ k, (Value.slice (some ⟨g5, 0, none⟩) (Q.length + 1) c5).ownBlock = some k ∧ w.heap.size ≤ k) ∧ Keeps w w' (PF p mb (.slice qa Q.length qc)))) ?_ ?_
  · refine (wpIn_wide (n := 5)).1 ?_
    refine wpIn_region_any hmx ?_
    change wpAnyIn _ _ _ _ _ _ _ _ _ w4.drew
    simp only [List.size_toArray, List.length_cons, List.length_nil, Nat.reduceAdd]
    refine wpAnyIn_take (i := 0) (oi := { dst := some 64, op := Op.move (Operand.tmp 0), type := 24, pos := "ranges.go:233", after := #[], guard := none }) (v := ?_) rfl rfl (by kernel_rfl) (by kernel_rfl) (by kernel_rfl) (fun _ _ _ h => by cases h.1) ⟨Or.inl ⟨by rfl, ?_⟩, fun _ => rfl⟩ ?_
    rotate_left
    · (intro w; go_simp; try with_reducible rfl)
    simp only [Act.put, List.setIfInBounds_toArray, List.set_cons_zero, List.set_cons_succ]
    refine wpAnyIn_take (i := 1) (oi := { dst := some 65, op := Op.move (Operand.tmp 0), type := 24, pos := "ranges.go:233", after := #[], guard := none }) (v := ?_) rfl rfl (by kernel_rfl) (by kernel_rfl) (by kernel_rfl) (fun _ _ _ h => by cases h.1) ⟨Or.inl ⟨by rfl, ?_⟩, fun _ => rfl⟩ ?_
    rotate_left
    · (intro w; go_simp; try with_reducible rfl)
    simp only [Act.put, List.setIfInBounds_toArray, List.set_cons_zero, List.set_cons_succ]
    refine wpAnyIn_take (i := 2) (oi := { dst := some 66, op := Op.nilCheck (Operand.tmp 65), type := 0, pos := "ranges.go:233", after := #[{ on := 1, ground := Ground.data }], guard := none }) (v := ?_) rfl rfl (by kernel_rfl) (by kernel_rfl) (by kernel_rfl) (fun _ _ _ h => by cases h.1) ⟨Or.inl ⟨by rfl, ?_⟩, fun _ => rfl⟩ ?_
    rotate_left
    · (intro w; go_simp; try with_reducible rfl)
    simp only [Act.put, List.setIfInBounds_toArray, List.set_cons_zero, List.set_cons_succ]
    refine wpAnyIn_take (i := 3) (oi := { dst := some 67, op := Op.fieldAddr 48 (Operand.tmp 66) 1, type := 0, pos := "ranges.go:233", after := #[{ on := 2, ground := Ground.data }], guard := none }) (v := ?_) rfl rfl (by kernel_rfl) (by kernel_rfl) (by kernel_rfl) (fun _ _ _ h => by cases h.1) ⟨Or.inl ⟨by rfl, ?_⟩, fun _ => rfl⟩ ?_
    rotate_left
    · (intro w; go_simp; try with_reducible rfl)
    simp only [Act.put, List.setIfInBounds_toArray, List.set_cons_zero, List.set_cons_succ]
    refine wpAnyIn_ready (rs := [4, 5]) (by kernel_rfl) (by simp) (AllReadyIn.cons (o := { dst := some 68, op := Op.load 26 (Operand.tmp 67), type := 26, pos := "ranges.go:233", after := #[{ on := 3, ground := Ground.data }], guard := none }) rfl (fun K hK => ?_) (AllReadyIn.cons (o := { dst := some 69, op := Op.load 29 (Operand.tmp 4), type := 29, pos := "ranges.go:233", after := #[], guard := none }) rfl (fun K hK => ?_) AllReadyIn.nil))
    · go_simp
      refine hK _ _ ?_
      clear hK K
      refine wpAnyIn_ready (rs := [5]) (by kernel_rfl) (by simp) (AllReadyIn.cons (o := { dst := some 69, op := Op.load 29 (Operand.tmp 4), type := 29, pos := "ranges.go:233", after := #[], guard := none }) rfl (fun K hK => ?_) AllReadyIn.nil)
      go_simp
      refine hK _ _ ?_
      clear hK K
      refine wpAnyIn_ready (rs := [6]) (by kernel_rfl) (by simp) (AllReadyIn.cons (o := { dst := some 70, op := Op.buildSlice 26 1 #[(0, Operand.tmp 69)], type := 26, pos := "ranges.go:233", after := #[{ on := 5, ground := Ground.data }], guard := none }) rfl (fun K hK => ?_) AllReadyIn.nil)
      go_simp
      refine hK _ _ ?_
      clear hK K
      refine wpAnyIn_ready (rs := [7]) (by kernel_rfl) (by simp) (AllReadyIn.cons (o := { dst := some 71, op := Op.call { callee := Callee.builtin Builtin.append, args := #[Operand.tmp 68, Operand.tmp 70], argTypes := #[26, 26] }, type := 26, pos := "ranges.go:233", after := #[{ on := 4, ground := Ground.data }, { on := 6, ground := Ground.data }], guard := none }) rfl (fun K hK => ?_) AllReadyIn.nil)
      refine stepIn_run rfl (by rfl) (.tmp 68) (.tmp 70) 26 (by rfl) _ _ (by rfl) (by rfl) hrun ?_
      refine hK _ _ ?_
      clear hK K
      simp only [Act.put, List.setIfInBounds_toArray, List.set_cons_zero, List.set_cons_succ]
      refine wpAnyIn_take (i := 8) (oi := { dst := some 72, op := Op.nilCheck (Operand.tmp 64), type := 0, pos := "ranges.go:233", after := #[{ on := 0, ground := Ground.data }, { on := 0, ground := Ground.phase }, { on := 1, ground := Ground.phase }, { on := 2, ground := Ground.phase }, { on := 3, ground := Ground.phase }, { on := 4, ground := Ground.phase }, { on := 5, ground := Ground.phase }, { on := 6, ground := Ground.phase }, { on := 7, ground := Ground.phase }], guard := none }) (v := ?_) rfl rfl (by kernel_rfl) (by kernel_rfl) (by kernel_rfl) (fun _ _ _ h => by cases h.1) ⟨Or.inl ⟨by rfl, ?_⟩, fun _ => rfl⟩ ?_
      rotate_left
      · (intro w; go_simp; try with_reducible rfl)
      simp only [Act.put, List.setIfInBounds_toArray, List.set_cons_zero, List.set_cons_succ]
      refine wpAnyIn_take (i := 9) (oi := { dst := some 73, op := Op.fieldAddr 48 (Operand.tmp 72) 1, type := 0, pos := "ranges.go:233", after := #[{ on := 8, ground := Ground.data }, { on := 0, ground := Ground.phase }, { on := 1, ground := Ground.phase }, { on := 2, ground := Ground.phase }, { on := 3, ground := Ground.phase }, { on := 4, ground := Ground.phase }, { on := 5, ground := Ground.phase }, { on := 6, ground := Ground.phase }, { on := 7, ground := Ground.phase }], guard := none }) (v := ?_) rfl rfl (by kernel_rfl) (by kernel_rfl) (by kernel_rfl) (fun _ _ _ h => by cases h.1) ⟨Or.inl ⟨by rfl, ?_⟩, fun _ => rfl⟩ ?_
      rotate_left
      · (intro w; go_simp; try with_reducible rfl)
      simp only [Act.put, List.setIfInBounds_toArray, List.set_cons_zero, List.set_cons_succ]
      refine wpAnyIn_ready (rs := [10]) (by kernel_rfl) (by simp) (AllReadyIn.cons (o := { dst := none, op := Op.store 26 (Operand.tmp 73) (Operand.tmp 71), type := 0, pos := "ranges.go:233", after := #[{ on := 9, ground := Ground.data }, { on := 7, ground := Ground.data }, { on := 7, ground := Ground.chain }, { on := 0, ground := Ground.phase }, { on := 1, ground := Ground.phase }, { on := 2, ground := Ground.phase }, { on := 3, ground := Ground.phase }, { on := 4, ground := Ground.phase }, { on := 5, ground := Ground.phase }, { on := 6, ground := Ground.phase }, { on := 7, ground := Ground.phase }], guard := none }) rfl (fun K hK => ?_) AllReadyIn.nil)
      go_simp
      refine hK _ _ ?_
      clear hK K
      refine wpAnyIn_done (by kernel_rfl) ?_ _
      exact ⟨rfl, ⟨_, _, _, _, _, _, _, _, _, _, rfl⟩, HFI.out⟩
    · go_simp
      refine hK _ _ ?_
      clear hK K
      refine wpAnyIn_ready (rs := [4, 6]) (by kernel_rfl) (by simp) (AllReadyIn.cons (o := { dst := some 68, op := Op.load 26 (Operand.tmp 67), type := 26, pos := "ranges.go:233", after := #[{ on := 3, ground := Ground.data }], guard := none }) rfl (fun K hK => ?_) (AllReadyIn.cons (o := { dst := some 70, op := Op.buildSlice 26 1 #[(0, Operand.tmp 69)], type := 26, pos := "ranges.go:233", after := #[{ on := 5, ground := Ground.data }], guard := none }) rfl (fun K hK => ?_) AllReadyIn.nil))
      · go_simp
        refine hK _ _ ?_
        clear hK K
        refine wpAnyIn_ready (rs := [6]) (by kernel_rfl) (by simp) (AllReadyIn.cons (o := { dst := some 70, op := Op.buildSlice 26 1 #[(0, Operand.tmp 69)], type := 26, pos := "ranges.go:233", after := #[{ on := 5, ground := Ground.data }], guard := none }) rfl (fun K hK => ?_) AllReadyIn.nil)
        go_simp
        refine hK _ _ ?_
        clear hK K
        refine wpAnyIn_ready (rs := [7]) (by kernel_rfl) (by simp) (AllReadyIn.cons (o := { dst := some 71, op := Op.call { callee := Callee.builtin Builtin.append, args := #[Operand.tmp 68, Operand.tmp 70], argTypes := #[26, 26] }, type := 26, pos := "ranges.go:233", after := #[{ on := 4, ground := Ground.data }, { on := 6, ground := Ground.data }], guard := none }) rfl (fun K hK => ?_) AllReadyIn.nil)
        refine stepIn_run rfl (by rfl) (.tmp 68) (.tmp 70) 26 (by rfl) _ _ (by rfl) (by rfl) hrun ?_
        refine hK _ _ ?_
        clear hK K
        simp only [Act.put, List.setIfInBounds_toArray, List.set_cons_zero, List.set_cons_succ]
        refine wpAnyIn_take (i := 8) (oi := { dst := some 72, op := Op.nilCheck (Operand.tmp 64), type := 0, pos := "ranges.go:233", after := #[{ on := 0, ground := Ground.data }, { on := 0, ground := Ground.phase }, { on := 1, ground := Ground.phase }, { on := 2, ground := Ground.phase }, { on := 3, ground := Ground.phase }, { on := 4, ground := Ground.phase }, { on := 5, ground := Ground.phase }, { on := 6, ground := Ground.phase }, { on := 7, ground := Ground.phase }], guard := none }) (v := ?_) rfl rfl (by kernel_rfl) (by kernel_rfl) (by kernel_rfl) (fun _ _ _ h => by cases h.1) ⟨Or.inl ⟨by rfl, ?_⟩, fun _ => rfl⟩ ?_
        rotate_left
        · (intro w; go_simp; try with_reducible rfl)
        simp only [Act.put, List.setIfInBounds_toArray, List.set_cons_zero, List.set_cons_succ]
        refine wpAnyIn_take (i := 9) (oi := { dst := some 73, op := Op.fieldAddr 48 (Operand.tmp 72) 1, type := 0, pos := "ranges.go:233", after := #[{ on := 8, ground := Ground.data }, { on := 0, ground := Ground.phase }, { on := 1, ground := Ground.phase }, { on := 2, ground := Ground.phase }, { on := 3, ground := Ground.phase }, { on := 4, ground := Ground.phase }, { on := 5, ground := Ground.phase }, { on := 6, ground := Ground.phase }, { on := 7, ground := Ground.phase }], guard := none }) (v := ?_) rfl rfl (by kernel_rfl) (by kernel_rfl) (by kernel_rfl) (fun _ _ _ h => by cases h.1) ⟨Or.inl ⟨by rfl, ?_⟩, fun _ => rfl⟩ ?_
        rotate_left
        · (intro w; go_simp; try with_reducible rfl)
        simp only [Act.put, List.setIfInBounds_toArray, List.set_cons_zero, List.set_cons_succ]
        refine wpAnyIn_ready (rs := [10]) (by kernel_rfl) (by simp) (AllReadyIn.cons (o := { dst := none, op := Op.store 26 (Operand.tmp 73) (Operand.tmp 71), type := 0, pos := "ranges.go:233", after := #[{ on := 9, ground := Ground.data }, { on := 7, ground := Ground.data }, { on := 7, ground := Ground.chain }, { on := 0, ground := Ground.phase }, { on := 1, ground := Ground.phase }, { on := 2, ground := Ground.phase }, { on := 3, ground := Ground.phase }, { on := 4, ground := Ground.phase }, { on := 5, ground := Ground.phase }, { on := 6, ground := Ground.phase }, { on := 7, ground := Ground.phase }], guard := none }) rfl (fun K hK => ?_) AllReadyIn.nil)
        go_simp
        refine hK _ _ ?_
        clear hK K
        refine wpAnyIn_done (by kernel_rfl) ?_ _
        exact ⟨rfl, ⟨_, _, _, _, _, _, _, _, _, _, rfl⟩, HFI.out⟩
      · go_simp
        refine hK _ _ ?_
        clear hK K
        refine wpAnyIn_ready (rs := [4]) (by kernel_rfl) (by simp) (AllReadyIn.cons (o := { dst := some 68, op := Op.load 26 (Operand.tmp 67), type := 26, pos := "ranges.go:233", after := #[{ on := 3, ground := Ground.data }], guard := none }) rfl (fun K hK => ?_) AllReadyIn.nil)
        go_simp
        refine hK _ _ ?_
        clear hK K
        refine wpAnyIn_ready (rs := [7]) (by kernel_rfl) (by simp) (AllReadyIn.cons (o := { dst := some 71, op := Op.call { callee := Callee.builtin Builtin.append, args := #[Operand.tmp 68, Operand.tmp 70], argTypes := #[26, 26] }, type := 26, pos := "ranges.go:233", after := #[{ on := 4, ground := Ground.data }, { on := 6, ground := Ground.data }], guard := none }) rfl (fun K hK => ?_) AllReadyIn.nil)
        refine stepIn_run rfl (by rfl) (.tmp 68) (.tmp 70) 26 (by rfl) _ _ (by rfl) (by rfl) hrun ?_
        refine hK _ _ ?_
        clear hK K
        simp only [Act.put, List.setIfInBounds_toArray, List.set_cons_zero, List.set_cons_succ]
        refine wpAnyIn_take (i := 8) (oi := { dst := some 72, op := Op.nilCheck (Operand.tmp 64), type := 0, pos := "ranges.go:233", after := #[{ on := 0, ground := Ground.data }, { on := 0, ground := Ground.phase }, { on := 1, ground := Ground.phase }, { on := 2, ground := Ground.phase }, { on := 3, ground := Ground.phase }, { on := 4, ground := Ground.phase }, { on := 5, ground := Ground.phase }, { on := 6, ground := Ground.phase }, { on := 7, ground := Ground.phase }], guard := none }) (v := ?_) rfl rfl (by kernel_rfl) (by kernel_rfl) (by kernel_rfl) (fun _ _ _ h => by cases h.1) ⟨Or.inl ⟨by rfl, ?_⟩, fun _ => rfl⟩ ?_
        rotate_left
        · (intro w; go_simp; try with_reducible rfl)
        simp only [Act.put, List.setIfInBounds_toArray, List.set_cons_zero, List.set_cons_succ]
        refine wpAnyIn_take (i := 9) (oi := { dst := some 73, op := Op.fieldAddr 48 (Operand.tmp 72) 1, type := 0, pos := "ranges.go:233", after := #[{ on := 8, ground := Ground.data }, { on := 0, ground := Ground.phase }, { on := 1, ground := Ground.phase }, { on := 2, ground := Ground.phase }, { on := 3, ground := Ground.phase }, { on := 4, ground := Ground.phase }, { on := 5, ground := Ground.phase }, { on := 6, ground := Ground.phase }, { on := 7, ground := Ground.phase }], guard := none }) (v := ?_) rfl rfl (by kernel_rfl) (by kernel_rfl) (by kernel_rfl) (fun _ _ _ h => by cases h.1) ⟨Or.inl ⟨by rfl, ?_⟩, fun _ => rfl⟩ ?_
        rotate_left
        · (intro w; go_simp; try with_reducible rfl)
        simp only [Act.put, List.setIfInBounds_toArray, List.set_cons_zero, List.set_cons_succ]
        refine wpAnyIn_ready (rs := [10]) (by kernel_rfl) (by simp) (AllReadyIn.cons (o := { dst := none, op := Op.store 26 (Operand.tmp 73) (Operand.tmp 71), type := 0, pos := "ranges.go:233", after := #[{ on := 9, ground := Ground.data }, { on := 7, ground := Ground.data }, { on := 7, ground := Ground.chain }, { on := 0, ground := Ground.phase }, { on := 1, ground := Ground.phase }, { on := 2, ground := Ground.phase }, { on := 3, ground := Ground.phase }, { on := 4, ground := Ground.phase }, { on := 5, ground := Ground.phase }, { on := 6, ground := Ground.phase }, { on := 7, ground := Ground.phase }], guard := none }) rfl (fun K hK => ?_) AllReadyIn.nil)
        go_simp
        refine hK _ _ ?_
        clear hK K
        refine wpAnyIn_done (by kernel_rfl) ?_ _
        exact ⟨rfl, ⟨_, _, _, _, _, _, _, _, _, _, rfl⟩, HFI.out⟩
  · rintro a' W5 ⟨⟨v64, v65, v66, v67, v68, v69, v70, v71, v72, v73, rfl⟩, hfin⟩
    simp only [List.setIfInBounds_toArray, List.set_cons_zero, List.set_cons_succ]
    have HF5 := Lib.hid hfin
    clear hfin y5 y6 hrun HFI q1 x0 x1 x2 x3 hs0
    go_wp2
    refine bodyPost_ret (v := .tuple #[.bool false, .slice none 0 0, .int .i64 0]) (by simp [results, Tryz.results14, go_sem]) rfl ?_
    exact ⟨_, rfl, HF5.out⟩
end
end Go.Proofs.YtoolflmaaooplaaGreat
