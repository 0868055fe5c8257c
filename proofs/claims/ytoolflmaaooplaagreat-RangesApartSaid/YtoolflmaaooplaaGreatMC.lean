/- Ranges: conflicts; free. -/
import Derived.Test.YtoolflmaaooplaaGreatMB
import Derived.Stop.RegionWithIn
namespace Go.Proofs.YtoolflmaaooplaaGreat
section
set_option linter.unusedVariables false
set_option linter.unusedSimpArgs false
open Go.RowKit Go.Maps Go.Sort Go.Lib Go.Proofs.YtoolflmaaooplaaGreatW.PrintWords Go.Proofs.YtoolflmaaooplaaGreatW.PrintLast Go.Proofs.YtoolflmaaooplaaGreatW.PrintMore FLib
attribute [local go_sem] Oper.semAt_some
attribute [local go_sem] below_alloc_T below_drew_T below_drewN_T

/-- What the iterator reads. -/
structure RdC (p mb : Nat) (qv : Value) (G : List Ent) (Q : List Lk) (q : Nat) (l : Lk) (W : World) : Prop where
  tg : TG W p mb qv G Q
  b0 : W.heap[q]? = some (.cells #[.pointer (some ⟨p, 0, none⟩)] 24 (0, 0))
  b1 : W.heap[q + 1]? = some (.cells l.cells.toArray 29 (0, 0))
def encC (L : List Lk) (k : Nat) : Array Value := match L[k]? with | some x => #[lkV x] | none => #[.int .i64 0]
theorem encC_size (L : List Lk) (k : Nat) : (encC L k).size = 1 := by unfold encC; split <;> rfl
def oneL (e : Ent) (l : Lk) : List Lk := (e.l.filter (confB e.own l)).map (fun s => lockI s e.own)
theorem confL_snoc {G : List Ent} {i : Nat} {e : Ent} (h : G[i]? = some e) (l : Lk) : confL (G.take (i + 1)) l = confL (G.take i) l ++ oneL e l := by
  rw [List.take_add_one, h]
  unfold confL oneL
  rw [List.flatMap_append]
  simp
theorem confL_all (G : List Ent) (j : Nat) (l : Lk) : confL G l = confL (G.take j) l ++ confL (G.drop j) l := by
  unfold confL; rw [← List.flatMap_append, List.take_append_drop]
/-- The place of the next conflict. -/
def posC (G : List Ent) (l : Lk) (i : Nat) (e : Ent) (j : Nat) : Nat := (confL (G.take i) l).length + ((e.l.take j).filter (confB e.own l)).length
theorem posC_zero (G : List Ent) (l : Lk) (i : Nat) (e : Ent) : posC G l i e 0 = (confL (G.take i) l).length := by simp [posC]
theorem posC_all {G : List Ent} {i : Nat} {e : Ent} (h : G[i]? = some e) (l : Lk) : posC G l i e e.l.length = (confL (G.take (i + 1)) l).length := by
  unfold posC; rw [List.take_length, confL_snoc h, List.length_append]; simp [oneL]
theorem posC_step {l : Lk} {e : Ent} {j : Nat} {s : Sp} (hs : e.l[j]? = some s) (G : List Ent) (i : Nat) : posC G l i e (j + 1) = posC G l i e j + (if confB e.own l s then 1 else 0) := by
  unfold posC
  rw [List.take_add_one, hs, List.filter_append, List.length_append]
  cases h : confB e.own l s <;> simp [h]; omega
theorem conf_get {G : List Ent} {i : Nat} {e : Ent} (h : G[i]? = some e) {l : Lk} {j : Nat} {s : Sp} (hs : e.l[j]? = some s) (hc : confB e.own l s = true) :
    posC G l i e j < (confL G l).length ∧ encC (confL G l) (posC G l i e j) = #[lkV (lockI s e.own)] := by
  have e1 : (oneL e l)[((e.l.take j).filter (confB e.own l)).length]? = some (lockI s e.own) := by
    have e2 : e.l = e.l.take j ++ (s :: e.l.drop (j + 1)) := by
      obtain ⟨hj, rfl⟩ := List.getElem?_eq_some_iff.1 hs
      rw [List.getElem_cons_drop, List.take_append_drop]
    unfold oneL
    have key : ∀ A D : List Sp, (((A ++ s :: D).filter (confB e.own l)).map (fun s => lockI s e.own))[(A.filter (confB e.own l)).length]? = some (lockI s e.own) := fun A D => by
      rw [List.filter_append, List.filter_cons, if_pos hc, List.map_append, List.getElem?_append_right (by simp)]
      simp
    have := key (e.l.take j) (e.l.drop (j + 1))
    rw [← e2] at this
    exact this
  have e : (confL G l)[posC G l i e j]? = some (lockI s e.own) := by
    unfold posC
    rw [confL_all G (i + 1), confL_snoc h, List.append_assoc, List.getElem?_append_right (by omega), Nat.add_sub_cancel_left, List.getElem?_append_left (List.getElem?_eq_some_iff.1 e1).1]
    exact e1
  exact ⟨(List.getElem?_eq_some_iff.1 e).1, by unfold encC; rw [e]⟩
theorem gAt_at {G : List Ent} (hs : GSort G) {i : Nat} {e : Ent} (h : G[i]? = some e) : gAt G e.own = some e := by
  induction G generalizing i with
  | nil => simp at h
  | cons x G ih =>
    unfold GSort at hs ih
    rw [List.pairwise_cons] at hs
    rw [gAt_cons]
    cases i with
    | zero => have : x = e := by simpa using h
              subst this; rw [if_pos rfl]
    | succ i =>
      have h2 : G[i]? = some e := by simpa using h
      have := hs.1 e (List.mem_of_getElem? h2)
      rw [if_neg (by omega), ih hs.2 h2]
/-- The numbers of a table are small. -/
structure GOk (G : List Ent) : Prop where
  own : ∀ e ∈ G, (Lit.int .i64 e.own).wf = true
  len : ∀ e ∈ G, e.l.length ≤ 1000
  sp : ∀ e ∈ G, ∀ s ∈ e.l, 0 ≤ s.lo ∧ s.lo ≤ 1152921504606846976 ∧ 0 ≤ s.hi ∧ s.hi ≤ 1152921504606846976
def bPost (J : World → Prop) (Jx : World → Prop) : Bool → World → Prop
  | true, W => J W
  | false, W => Jx W
set_option maxRecDepth 100000 in
set_option maxHeartbeats 10000000 in
theorem conf_at (m : Nat) (hm : 5 ≤ m) (p mb : Nat) (qv : Value) (G : List Ent) (Q : List Lk) (hs : GSort G) (hok : GOk G) (q : Nat) (l : Lk) (hl : -1000000 ≤ l.st + l.len ∧ l.st + l.len ≤ 1000000) (w : World) (h : RdC p mb qv G Q q l w) :
    SeqAt m Tryz.prog 63 #[] #[.pointer (some ⟨q, 0, none⟩), .pointer (some ⟨q + 1, 0, none⟩)] (confL G l).length (encC (confL G l)) (fun _ W => RdC p mb qv G Q q l W) w := by
  intro yl J Jx W hW hRd hX hY h0
  have hR0 := hRd _ _ _ h0
  have c0 : W.cell? ⟨q, 0, none⟩ = some (.pointer (some ⟨p, 0, none⟩)) := blk_cell hR0.b0 0
  have hO := (callsIn_wide (n := m - 1)).2 (owners_any p mb qv G Q hs W hR0.tg)
  have HO := Lib.hid hO
  have HRD := Lib.hid hRd
  have HX := Lib.hid hX
  have HY := Lib.hid hY
  have HJ0 := Lib.hid h0
  have HS := Lib.hid hs
  have HOK := Lib.hid hok
  have HL := Lib.hid hl
  have hm1 : 1 ≤ m := by omega
  have hmx : Tryz.prog.follows .mixedOrders = true := by kernel_rfl
  have h44 : Fence.wide.fn 17 := trivial
  have h58 : Fence.wide.fn 44 := trivial
  have h67 : Fence.wide.fn 64 := trivial
  have h45 : Fence.wide.fn 18 := trivial
  have HGL := Lib.hid hR0.tg.len
  clear h hW hRd hX hY h0 hR0 hO hs hok hl
  refine callsIn_of_wp Tryz.func63 rfl trivial ?_ rfl
  simp only [Tryz.ntmps63, List.size_toArray, List.length_cons, List.length_nil, Nat.reduceAdd, Nat.reduceSub, Array.replicate_succ, Array.replicate_zero, List.push_toArray, List.append_toArray, List.nil_append, List.cons_append]
  gi_wp2_with fail
  refine HO.out.mono ?_
  rintro e w4 ⟨⟨u, rfl, hrow⟩, hb4⟩
  have hJ4 := HX.out _ _ _ _ HJ0.out hb4
  generalize hB : ext (fun x => False) W w4 = B4 at hJ4
  unfold IRow at hrow
  rw [List.length_map] at hrow
  have HR4 := Lib.hid (And.intro hrow (show ∀ b, W.heap.size ≤ b → b < w4.heap.size → B4 b from fun b h1 h2 => by rw [← hB]; exact .inr ⟨h1, h2⟩))
  have HJ4 := Lib.hid hJ4
  rcases row_form hrow with ⟨rfl, hz⟩ | ⟨gb, cb, rfl⟩
  · have hG : G = [] := List.eq_nil_of_length_eq_zero hz
    subst hG
    clear hrow hB hb4 hJ4 hz HR4
    gi_wp2
    gi_loopw [11] (fun i wr => i = .int .i64 0 ∧ wr = w4) (fun _ _ => 0)
    case atStart => exact ⟨rfl, rfl⟩
    case round =>
      obtain ⟨rfl, rfl⟩ := hrel
      gi_wp2
      go_end0
      exact ⟨⟨_, rfl⟩, .inl ⟨_, HJ4.out⟩⟩
  · clear hrow hB hb4 hJ4
    gi_wp2
    gi_loopw [11] (fun i wr => ∃ k : Nat, k ≤ G.length ∧ i = .int .i64 k ∧ ∃ B, Hid (J B (confL (G.take k) l).length wr) ∧ Hid (B gb) ∧ Hid (wr.heap[gb]? = w4.heap[gb]?)) (fun i _ => G.length - (RowKit.intOf i).toNat)
    case atStart => exact ⟨0, Nat.zero_le _, rfl, B4, HJ4, Lib.hid (HR4.out.2 _ (HR4.out.1.lt _ rfl).1 (HR4.out.1.lt _ rfl).2), Lib.hid rfl⟩
    case round =>
      obtain ⟨k, hk, rfl, B, hJ, hBg, hgb⟩ := hrel
      have hlr : (G.length : Int) ≤ 1000 := by have := HGL.out; omega
      by_cases hlt : k < G.length
      · obtain ⟨en, hen⟩ : ∃ en, G[k]? = some en := ⟨_, List.getElem?_eq_getElem hlt⟩
        have hmem := List.mem_of_getElem? hen
        have hR := HRD.out _ _ _ hJ.out
        have a0 : wr.cell? ⟨q, 0, none⟩ = some (.pointer (some ⟨p, 0, none⟩)) := blk_cell hR.b0 0
        have a1 : wr.cell? ⟨p, 0, none⟩ = some (.map (some mb)) := blk_cell hR.tg.hdr 0
        have a2 : wr.cell? ⟨gb, k, none⟩ = some (.int .i64 en.own) := by
          have h1 := HR4.out.1.cells (g := gb) rfl k (.int .i64 en.own) (by simp [hen, encZ])
          rw [addmk, Nat.zero_add] at h1
          exact (World.cell?_of_block hgb.out).trans h1
        have a3 := hR.tg.run_look (HOK.out.own en hmem)
        rw [gAt_at HS.out hen] at a3
        simp only [entV] at a3
        have hk0 : (0 : Int) ≤ (k : Int) := by omega
        have hk1 : (k : Int) < (G.length : Int) := by omega
        have HEN := Lib.hid hen
        have HM := Lib.hid hmem
        have HLT := Lib.hid hlt
        have hll : (en.l.length : Int) ≤ 1000 := by have := HOK.out.len en hmem; omega
        clear hen hmem hR hlt
        gi_wp2
        gi_loopw [22] (fun i wr => ∃ j : Nat, j ≤ en.l.length ∧ i = .int .i64 j ∧ ∃ B, Hid (J B (posC G l k en j) wr) ∧ Hid (B gb) ∧ Hid (wr.heap[gb]? = w4.heap[gb]?)) (fun i _ => en.l.length - (RowKit.intOf i).toNat)
        case atStart => exact ⟨0, Nat.zero_le _, rfl, B, by rw [posC_zero]; exact hJ, hBg, hgb⟩
        case round =>
          clear hJ hBg hgb B a0 a1 a2 a3 hk0 hk1
          obtain ⟨j, hj, rfl, B, hJ, hBg, hgb⟩ := hrel
          by_cases hlt2 : j < en.l.length
          · obtain ⟨s, hs⟩ : ∃ s, en.l[j]? = some s := ⟨_, List.getElem?_eq_getElem hlt2⟩
            have hR := HRD.out _ _ _ hJ.out
            obtain ⟨p0, p1, p2⟩ := row_sp (hR.tg.row en HM.out) hs
            have hk0 : (0 : Int) ≤ (j : Int) := by omega
            have hk1 : (j : Int) < (en.l.length : Int) := by omega
            have HSS := Lib.hid hs
            have HLT2 := Lib.hid hlt2
            have hsm := HOK.out.sp en HM.out s (List.mem_of_getElem? hs)
            clear hs hlt2 hR
            gi_wp2
            refine abs_in (fun W1 => J (ext B wr W1) (posC G l k en j) W1 ∧ ext B wr W1 gb ∧ W1.heap[gb]? = w4.heap[gb]? ∧ W1.heap[wr.heap.size]? = some (.cells s.cells.toArray 50 (0, 0)))
              ⟨HX.out _ _ _ _ hJ.out ((Below.refl _ _).alloc (Nat.le_refl _) _), .inl hBg.out, (Below.heap_alloc _ _ _ (by have h1 := hgb.out; rw [Array.getElem?_eq_getElem (HR4.out.1.lt _ rfl).2] at h1; exact (Array.getElem?_eq_some_iff.1 h1).1)).trans hgb.out, blk_new _ _⟩ ?_
            rintro W1 ⟨hJ1, hB1, hg1, h7⟩
            generalize ext B wr W1 = B1 at hJ1 hB1
            generalize wr.heap.size = b7 at h7 ⊢
            clear hJ hBg hgb B p0 p1 p2
            have hR1 := HRD.out _ _ _ hJ1
            have HJ1 := Lib.hid hJ1
            have HB1 := Lib.hid hB1
            have HG1 := Lib.hid hg1
            clear hJ1 hB1 hg1
            have hl7 := blk_lt h7
            obtain ⟨b1, d1⟩ : ∃ b, (en.own == l.own) = b := ⟨_, rfl⟩
            obtain ⟨ov, hov⟩ : ∃ b, overI s (spanI l) = b := ⟨_, rfl⟩
            obtain ⟨sx, hsx⟩ : ∃ b, s.ex = b := ⟨_, rfl⟩
            obtain ⟨lx, hlx⟩ : ∃ b, l.ex = b := ⟨_, rfl⟩
            have hcf : confB en.own l s = (!b1 && (ov && (sx || lx))) := by unfold confB; rw [← d1, hov, hsx, hlx]; rfl
            have HSP := Lib.hid (fun w => span_any l HL.out w)
            have HOV := Lib.hid (fun w => over_any s (spanI l) w)
            have HLK := Lib.hid (fun w => lock_any s en.own hsm w)
            rw [hov] at HOV
            have z70 := later_cell (v := .int .i64 s.lo) (blk_cell h7 0)
            have z71 := later_cell (v := .int .i64 s.hi) (blk_cell h7 1)
            have z72 := later_cell (v := .bool s.ex) (blk_cell h7 2)
            have zl0 := later_cell (v := .int .i64 l.own) (blk_cell hR1.b1 0)
            have zl1 := later_cell (v := .int .i64 l.st) (blk_cell hR1.b1 1)
            have zl2 := later_cell (v := .int .i64 l.len) (blk_cell hR1.b1 2)
            have zl3 := later_cell (v := .bool l.ex) (blk_cell hR1.b1 3)
            have HP := Lib.hid (fun h => conf_get HEN.out (l := l) HSS.out h)
            have HNX := Lib.hid (posC_step (l := l) HSS.out G k)
            rw [hcf] at HP HNX
            generalize lockI s en.own = K at HLK HP
            simp only [lkV, spV] at HSP HOV HLK HP
            rw [hsx] at HOV HLK z72
            rw [hlx] at HSP zl3
            generalize spanI l = S at HSP HOV
            have hb0 : Below W1.heap.size W1 W1 := Below.refl _ _
            clear h7 hR1 hl7 hsm hov hsx hlx hcf HSS
            cases b1
            · have hne : ¬ en.own = l.own := by simpa using d1
              cases ov
              · refine wpIn_region_any hmx ?_
                have hbw : Below W1.heap.size W1 W1.drew := below_drew hb0
                change wpAnyIn _ _ _ _ _ _ _ _ _ W1.drew
                generalize W1.drew = Wd at hbw ⊢
                clear hb0
                simp only [List.size_toArray, List.length_cons, List.length_nil, Nat.reduceAdd]
                refine wpAnyIn_take (i := 0) (oi := { dst := some 26, op := Op.move (Operand.tmp 5), type := 3, pos := "ranges.go:112", after := #[], guard := none }) (v := ?_) rfl rfl (by kernel_rfl) (by kernel_rfl) (by kernel_rfl) (fun _ _ _ h => h) ⟨Or.inl ⟨by rfl, ?_⟩, fun _ => rfl⟩ ?_
                rotate_left
                · (intro w; go_simp; try with_reducible rfl)
                simp only [Act.put, List.setIfInBounds_toArray, List.set_cons_zero, List.set_cons_succ]
                refine wpAnyIn_take (i := 1) (oi := { dst := some 27, op := Op.fieldAddr 29 (Operand.tmp 2) 0, type := 0, pos := "ranges.go:112", after := #[], guard := none }) (v := ?_) rfl rfl (by kernel_rfl) (by kernel_rfl) (by kernel_rfl) (fun _ _ _ h => h) ⟨Or.inl ⟨by rfl, ?_⟩, fun _ => rfl⟩ ?_
                rotate_left
                · (intro w; go_simp; try with_reducible rfl)
                simp only [Act.put, List.setIfInBounds_toArray, List.set_cons_zero, List.set_cons_succ]
                refine wpAnyIn_ready (rs := [2]) (by kernel_rfl) (by simp) (AllReadyIn.cons (o := { dst := some 28, op := Op.load 3 (Operand.tmp 27), type := 3, pos := "ranges.go:112", after := #[{ on := 1, ground := Ground.data }], guard := none }) rfl (fun K hK => ?_) AllReadyIn.nil)
                go_simp
                refine hK _ _ ?_
                clear hK K
                refine wpAnyIn_take (i := 3) (oi := { dst := some 29, op := Op.binOp BinOp.neq 3 (Operand.tmp 26) (Operand.tmp 28) 3, type := 4, pos := "ranges.go:112", after := #[{ on := 0, ground := Ground.data }, { on := 2, ground := Ground.data }], guard := none }) (v := .bool true) rfl rfl (by kernel_rfl) (by kernel_rfl) (by kernel_rfl) (fun _ _ _ h => h) ⟨Or.inl ⟨by rfl, ?_⟩, fun _ => rfl⟩ ?_
                · (intro w; go_simp)
                simp only [Act.put, List.setIfInBounds_toArray, List.set_cons_zero, List.set_cons_succ]
                refine wpAnyIn_take (i := 4) (oi := { dst := some 30, op := Op.move (Operand.tmp 29), type := 4, pos := "ranges.go:112", after := #[{ on := 3, ground := Ground.data }], guard := none }) (v := ?_) rfl rfl (by kernel_rfl) (by kernel_rfl) (by kernel_rfl) (fun _ _ _ h => h) ⟨Or.inl ⟨by rfl, ?_⟩, fun _ => rfl⟩ ?_
                rotate_left
                · (intro w; go_simp; try with_reducible rfl)
                simp only [Act.put, List.setIfInBounds_toArray, List.set_cons_zero, List.set_cons_succ]
                refine wpAnyIn_ready (rs := [5, 6]) (by kernel_rfl) (by simp) (AllReadyIn.cons (o := { dst := some 31, op := Op.load 50 (Operand.tmp 7), type := 50, pos := "ranges.go:112", after := #[{ on := 4, ground := Ground.guard }], guard := some (4, true) }) rfl (fun K hK => ?_) (AllReadyIn.cons (o := { dst := some 32, op := Op.load 29 (Operand.tmp 2), type := 29, pos := "ranges.go:112", after := #[{ on := 4, ground := Ground.guard }], guard := some (4, true) }) rfl (fun K hK => ?_) AllReadyIn.nil))
                · go_simp
                  refine hK _ _ ?_
                  clear hK K
                  refine wpAnyIn_ready (rs := [6]) (by kernel_rfl) (by simp) (AllReadyIn.cons (o := { dst := some 32, op := Op.load 29 (Operand.tmp 2), type := 29, pos := "ranges.go:112", after := #[{ on := 4, ground := Ground.guard }], guard := some (4, true) }) rfl (fun K hK => ?_) AllReadyIn.nil)
                  go_simp
                  refine hK _ _ ?_
                  clear hK K
                  refine wpAnyIn_ready (rs := [7]) (by kernel_rfl) (by simp) (AllReadyIn.cons (o := { dst := some 33, op := Op.call { callee := Callee.value (Operand.func 44), args := #[Operand.tmp 32], argTypes := #[29] }, type := 50, pos := "ranges.go:112", after := #[{ on := 6, ground := Ground.data }, { on := 4, ground := Ground.chain }, { on := 4, ground := Ground.guard }], guard := some (4, true) }) rfl (fun K hK => ?_) AllReadyIn.nil)
                  go_simp
                  refine ((callsIn_wide (n := m - 1)).2 (HSP.out _)).mono ?_
                  rintro e w7 ⟨rfl, hb7⟩
                  dsimp only
                  have hbx7 := below_step (by assumption) hb7
                  clear hb7
                  refine hK _ _ ?_
                  clear hK K
                  refine wpAnyIn_ready (rs := [8]) (by kernel_rfl) (by simp) (AllReadyIn.cons (o := { dst := some 34, op := Op.call { callee := Callee.value (Operand.func 64), args := #[Operand.tmp 31, Operand.tmp 33], argTypes := #[50, 50] }, type := 4, pos := "ranges.go:112", after := #[{ on := 5, ground := Ground.data }, { on := 7, ground := Ground.data }, { on := 7, ground := Ground.chain }, { on := 4, ground := Ground.guard }], guard := some (4, true) }) rfl (fun K hK => ?_) AllReadyIn.nil)
                  go_simp
                  refine ((callsIn_wide (n := m - 1)).2 (HOV.out _)).mono ?_
                  rintro e w8 ⟨rfl, hb8⟩
                  dsimp only
                  have hbx8 := below_step (by assumption) hb8
                  clear hb8
                  refine hK _ _ ?_
                  clear hK K
                  refine wpAnyIn_take (i := 9) (oi := { dst := some 35, op := Op.pick (Operand.tmp 30) (Operand.tmp 34) (Operand.const (Value.bool false)), type := 4, pos := "ranges.go:112", after := #[{ on := 4, ground := Ground.data }, { on := 8, ground := Ground.data }], guard := none }) (v := ?_) rfl rfl (by kernel_rfl) (by kernel_rfl) (by kernel_rfl) (fun _ _ _ h => h) ⟨Or.inl ⟨by rfl, ?_⟩, fun _ => rfl⟩ ?_
                  rotate_left
                  · (intro w; go_simp; try with_reducible rfl)
                  simp only [Act.put, List.setIfInBounds_toArray, List.set_cons_zero, List.set_cons_succ]
                  refine wpAnyIn_take (i := 10) (oi := { dst := some 36, op := Op.move (Operand.tmp 35), type := 4, pos := "ranges.go:112", after := #[{ on := 9, ground := Ground.data }, { on := 8, ground := Ground.chain }], guard := none }) (v := ?_) rfl rfl (by kernel_rfl) (by kernel_rfl) (by kernel_rfl) (fun _ _ _ h => h) ⟨Or.inl ⟨by rfl, ?_⟩, fun _ => rfl⟩ ?_
                  rotate_left
                  · (intro w; go_simp; try with_reducible rfl)
                  simp only [Act.put, List.setIfInBounds_toArray, List.set_cons_zero, List.set_cons_succ]
                  refine wpAnyIn_take (i := 11) (oi := { dst := some 37, op := Op.fieldAddr 50 (Operand.tmp 7) 2, type := 0, pos := "ranges.go:112", after := #[{ on := 10, ground := Ground.guard }], guard := some (10, true) }) rfl rfl (by kernel_rfl) (by kernel_rfl) (by kernel_rfl) (fun _ _ _ h => h) ⟨Or.inr ⟨by rfl, rfl⟩, fun _ => rfl⟩ ?_
                  simp only [Act.put, List.setIfInBounds_toArray, List.set_cons_zero, List.set_cons_succ]
                  refine wpAnyIn_take (i := 12) (oi := { dst := some 38, op := Op.load 4 (Operand.tmp 37), type := 4, pos := "ranges.go:112", after := #[{ on := 11, ground := Ground.data }, { on := 10, ground := Ground.guard }], guard := some (10, true) }) rfl rfl (by kernel_rfl) (by kernel_rfl) (by kernel_rfl) (fun _ _ _ h => h) ⟨Or.inr ⟨by rfl, rfl⟩, fun _ => rfl⟩ ?_
                  simp only [Act.put, List.setIfInBounds_toArray, List.set_cons_zero, List.set_cons_succ]
                  refine wpAnyIn_take (i := 13) (oi := { dst := some 39, op := Op.move (Operand.tmp 38), type := 4, pos := "ranges.go:112", after := #[{ on := 12, ground := Ground.data }, { on := 10, ground := Ground.chain }, { on := 10, ground := Ground.guard }], guard := some (10, true) }) rfl rfl (by kernel_rfl) (by kernel_rfl) (by kernel_rfl) (fun _ _ _ h => h) ⟨Or.inr ⟨by rfl, rfl⟩, fun _ => rfl⟩ ?_
                  simp only [Act.put, List.setIfInBounds_toArray, List.set_cons_zero, List.set_cons_succ]
                  refine wpAnyIn_take (i := 14) (oi := { dst := some 40, op := Op.fieldAddr 29 (Operand.tmp 2) 3, type := 0, pos := "ranges.go:112", after := #[{ on := 13, ground := Ground.guard }], guard := some (13, false) }) rfl rfl (by kernel_rfl) (by kernel_rfl) (by kernel_rfl) (fun _ _ _ h => h) ⟨Or.inr ⟨by rfl, rfl⟩, fun _ => rfl⟩ ?_
                  simp only [Act.put, List.setIfInBounds_toArray, List.set_cons_zero, List.set_cons_succ]
                  refine wpAnyIn_take (i := 15) (oi := { dst := some 41, op := Op.load 4 (Operand.tmp 40), type := 4, pos := "ranges.go:112", after := #[{ on := 14, ground := Ground.data }, { on := 13, ground := Ground.guard }], guard := some (13, false) }) rfl rfl (by kernel_rfl) (by kernel_rfl) (by kernel_rfl) (fun _ _ _ h => h) ⟨Or.inr ⟨by rfl, rfl⟩, fun _ => rfl⟩ ?_
                  simp only [Act.put, List.setIfInBounds_toArray, List.set_cons_zero, List.set_cons_succ]
                  refine wpAnyIn_take (i := 16) (oi := { dst := some 42, op := Op.pick (Operand.tmp 39) (Operand.const (Value.bool true)) (Operand.tmp 41), type := 4, pos := "ranges.go:112", after := #[{ on := 13, ground := Ground.data }, { on := 15, ground := Ground.data }, { on := 10, ground := Ground.guard }], guard := some (10, true) }) rfl rfl (by kernel_rfl) (by kernel_rfl) (by kernel_rfl) (fun _ _ _ h => h) ⟨Or.inr ⟨by rfl, rfl⟩, fun _ => rfl⟩ ?_
                  simp only [Act.put, List.setIfInBounds_toArray, List.set_cons_zero, List.set_cons_succ]
                  refine wpAnyIn_take (i := 17) (oi := { dst := some 43, op := Op.pick (Operand.tmp 36) (Operand.tmp 42) (Operand.const (Value.bool false)), type := 4, pos := "ranges.go:112", after := #[{ on := 10, ground := Ground.data }, { on := 16, ground := Ground.data }], guard := none }) (v := ?_) rfl rfl (by kernel_rfl) (by kernel_rfl) (by kernel_rfl) (fun _ _ _ h => h) ⟨Or.inl ⟨by rfl, ?_⟩, fun _ => rfl⟩ ?_
                  rotate_left
                  · (intro w; go_simp; try with_reducible rfl)
                  simp only [Act.put, List.setIfInBounds_toArray, List.set_cons_zero, List.set_cons_succ]
                  refine wpAnyIn_take (i := 18) (oi := { dst := some 44, op := Op.move (Operand.tmp 43), type := 4, pos := "ranges.go:112", after := #[{ on := 17, ground := Ground.data }, { on := 13, ground := Ground.chain }], guard := none }) (v := ?_) rfl rfl (by kernel_rfl) (by kernel_rfl) (by kernel_rfl) (fun _ _ _ h => h) ⟨Or.inl ⟨by rfl, ?_⟩, fun _ => rfl⟩ ?_
                  rotate_left
                  · (intro w; go_simp; try with_reducible rfl)
                  simp only [Act.put, List.setIfInBounds_toArray, List.set_cons_zero, List.set_cons_succ]
                  refine wpAnyIn_take (i := 19) (oi := { dst := some 45, op := Op.move (Operand.tmp 0), type := 32, pos := "ranges.go:112", after := #[{ on := 18, ground := Ground.guard }], guard := some (18, true) }) rfl rfl (by kernel_rfl) (by kernel_rfl) (by kernel_rfl) (fun _ _ _ h => h) ⟨Or.inr ⟨by rfl, rfl⟩, fun _ => rfl⟩ ?_
                  simp only [Act.put, List.setIfInBounds_toArray, List.set_cons_zero, List.set_cons_succ]
                  refine wpAnyIn_take (i := 20) (oi := { dst := some 46, op := Op.load 50 (Operand.tmp 7), type := 50, pos := "ranges.go:112", after := #[{ on := 18, ground := Ground.guard }], guard := some (18, true) }) rfl rfl (by kernel_rfl) (by kernel_rfl) (by kernel_rfl) (fun _ _ _ h => h) ⟨Or.inr ⟨by rfl, rfl⟩, fun _ => rfl⟩ ?_
                  simp only [Act.put, List.setIfInBounds_toArray, List.set_cons_zero, List.set_cons_succ]
                  refine wpAnyIn_take (i := 21) (oi := { dst := some 47, op := Op.move (Operand.tmp 5), type := 3, pos := "ranges.go:112", after := #[{ on := 18, ground := Ground.guard }], guard := some (18, true) }) rfl rfl (by kernel_rfl) (by kernel_rfl) (by kernel_rfl) (fun _ _ _ h => h) ⟨Or.inr ⟨by rfl, rfl⟩, fun _ => rfl⟩ ?_
                  simp only [Act.put, List.setIfInBounds_toArray, List.set_cons_zero, List.set_cons_succ]
                  refine wpAnyIn_ready (rs := [22]) (by kernel_rfl) (by simp) (AllReadyIn.cons (o := { dst := some 48, op := Op.call { callee := Callee.value (Operand.func 18), args := #[Operand.tmp 46, Operand.tmp 47], argTypes := #[50, 3] }, type := 29, pos := "ranges.go:112", after := #[{ on := 20, ground := Ground.data }, { on := 21, ground := Ground.data }, { on := 18, ground := Ground.chain }, { on := 18, ground := Ground.guard }], guard := some (18, true) }) rfl (fun K hK => ?_) AllReadyIn.nil)
                  go_simp
                  try refine ⟨fun _ h => (by first | trivial | cases h), ?_⟩
                  refine hK _ _ ?_
                  clear hK K
                  refine wpAnyIn_ready (rs := [23]) (by kernel_rfl) (by simp) (AllReadyIn.cons (o := { dst := some 49, op := Op.call { callee := Callee.value (Operand.tmp 45), args := #[Operand.tmp 48], argTypes := #[29] }, type := 4, pos := "ranges.go:112", after := #[{ on := 19, ground := Ground.data }, { on := 22, ground := Ground.data }, { on := 22, ground := Ground.chain }, { on := 18, ground := Ground.guard }], guard := some (18, true) }) rfl (fun K hK => ?_) AllReadyIn.nil)
                  go_simp
                  try refine ⟨fun _ h => (by first | trivial | cases h), ?_⟩
                  refine hK _ _ ?_
                  clear hK K
                  refine wpAnyIn_take (i := 24) (oi := { dst := some 50, op := Op.unOp UnOp.not 4 (Operand.tmp 49), type := 4, pos := "ranges.go:112", after := #[{ on := 23, ground := Ground.data }, { on := 18, ground := Ground.guard }], guard := some (18, true) }) rfl rfl (by kernel_rfl) (by kernel_rfl) (by kernel_rfl) (fun _ _ _ h => h) ⟨Or.inr ⟨by rfl, rfl⟩, fun _ => rfl⟩ ?_
                  simp only [Act.put, List.setIfInBounds_toArray, List.set_cons_zero, List.set_cons_succ]
                  refine wpAnyIn_take (i := 25) (oi := { dst := some 51, op := Op.pick (Operand.tmp 44) (Operand.tmp 50) (Operand.const (Value.bool false)), type := 4, pos := "ranges.go:112", after := #[{ on := 18, ground := Ground.data }, { on := 24, ground := Ground.data }], guard := none }) (v := ?_) rfl rfl (by kernel_rfl) (by kernel_rfl) (by kernel_rfl) (fun _ _ _ h => h) ⟨Or.inl ⟨by rfl, ?_⟩, fun _ => rfl⟩ ?_
                  rotate_left
                  · (intro w; go_simp; try with_reducible rfl)
                  simp only [Act.put, List.setIfInBounds_toArray, List.set_cons_zero, List.set_cons_succ]
                  refine wpAnyIn_done (by kernel_rfl) ?_ _
                  have hbf : Below W1.heap.size W1 w8 := by assumption
                  have HJ5 := Lib.hid (show J (ext B1 W1 w8) (posC G l k en (j + 1)) w8 by have h1 := HX.out _ _ _ _ HJ1.out hbf; rw [HNX.out]; exact h1)
                  have HB5 := Lib.hid (show ext B1 W1 w8 gb from .inl HB1.out)
                  have HG5 := Lib.hid ((hbf.block gb (by have h1 := HG1.out; rw [Array.getElem?_eq_getElem (HR4.out.1.lt _ rfl).2] at h1; exact (Array.getElem?_eq_some_iff.1 h1).1)).trans HG1.out)
                  gi_wp2
                  go_roundw
                  case rel => exact ⟨j + 1, by have := HLT2.out; omega, by go_num, _, HJ5, HB5, HG5⟩
                  case measure => simp [RowKit.intOf]; have := HLT2.out; omega
                · go_simp
                  refine hK _ _ ?_
                  clear hK K
                  refine wpAnyIn_ready (rs := [5, 7]) (by kernel_rfl) (by simp) (AllReadyIn.cons (o := { dst := some 31, op := Op.load 50 (Operand.tmp 7), type := 50, pos := "ranges.go:112", after := #[{ on := 4, ground := Ground.guard }], guard := some (4, true) }) rfl (fun K hK => ?_) (AllReadyIn.cons (o := { dst := some 33, op := Op.call { callee := Callee.value (Operand.func 44), args := #[Operand.tmp 32], argTypes := #[29] }, type := 50, pos := "ranges.go:112", after := #[{ on := 6, ground := Ground.data }, { on := 4, ground := Ground.chain }, { on := 4, ground := Ground.guard }], guard := some (4, true) }) rfl (fun K hK => ?_) AllReadyIn.nil))
                  · go_simp
                    refine hK _ _ ?_
                    clear hK K
                    refine wpAnyIn_ready (rs := [7]) (by kernel_rfl) (by simp) (AllReadyIn.cons (o := { dst := some 33, op := Op.call { callee := Callee.value (Operand.func 44), args := #[Operand.tmp 32], argTypes := #[29] }, type := 50, pos := "ranges.go:112", after := #[{ on := 6, ground := Ground.data }, { on := 4, ground := Ground.chain }, { on := 4, ground := Ground.guard }], guard := some (4, true) }) rfl (fun K hK => ?_) AllReadyIn.nil)
                    go_simp
                    refine ((callsIn_wide (n := m - 1)).2 (HSP.out _)).mono ?_
                    rintro e w7 ⟨rfl, hb7⟩
                    dsimp only
                    have hbx7 := below_step (by assumption) hb7
                    clear hb7
                    refine hK _ _ ?_
                    clear hK K
                    refine wpAnyIn_ready (rs := [8]) (by kernel_rfl) (by simp) (AllReadyIn.cons (o := { dst := some 34, op := Op.call { callee := Callee.value (Operand.func 64), args := #[Operand.tmp 31, Operand.tmp 33], argTypes := #[50, 50] }, type := 4, pos := "ranges.go:112", after := #[{ on := 5, ground := Ground.data }, { on := 7, ground := Ground.data }, { on := 7, ground := Ground.chain }, { on := 4, ground := Ground.guard }], guard := some (4, true) }) rfl (fun K hK => ?_) AllReadyIn.nil)
                    go_simp
                    refine ((callsIn_wide (n := m - 1)).2 (HOV.out _)).mono ?_
                    rintro e w8 ⟨rfl, hb8⟩
                    dsimp only
                    have hbx8 := below_step (by assumption) hb8
                    clear hb8
                    refine hK _ _ ?_
                    clear hK K
                    refine wpAnyIn_take (i := 9) (oi := { dst := some 35, op := Op.pick (Operand.tmp 30) (Operand.tmp 34) (Operand.const (Value.bool false)), type := 4, pos := "ranges.go:112", after := #[{ on := 4, ground := Ground.data }, { on := 8, ground := Ground.data }], guard := none }) (v := ?_) rfl rfl (by kernel_rfl) (by kernel_rfl) (by kernel_rfl) (fun _ _ _ h => h) ⟨Or.inl ⟨by rfl, ?_⟩, fun _ => rfl⟩ ?_
                    rotate_left
                    · (intro w; go_simp; try with_reducible rfl)
                    simp only [Act.put, List.setIfInBounds_toArray, List.set_cons_zero, List.set_cons_succ]
                    refine wpAnyIn_take (i := 10) (oi := { dst := some 36, op := Op.move (Operand.tmp 35), type := 4, pos := "ranges.go:112", after := #[{ on := 9, ground := Ground.data }, { on := 8, ground := Ground.chain }], guard := none }) (v := ?_) rfl rfl (by kernel_rfl) (by kernel_rfl) (by kernel_rfl) (fun _ _ _ h => h) ⟨Or.inl ⟨by rfl, ?_⟩, fun _ => rfl⟩ ?_
                    rotate_left
                    · (intro w; go_simp; try with_reducible rfl)
                    simp only [Act.put, List.setIfInBounds_toArray, List.set_cons_zero, List.set_cons_succ]
                    refine wpAnyIn_take (i := 11) (oi := { dst := some 37, op := Op.fieldAddr 50 (Operand.tmp 7) 2, type := 0, pos := "ranges.go:112", after := #[{ on := 10, ground := Ground.guard }], guard := some (10, true) }) rfl rfl (by kernel_rfl) (by kernel_rfl) (by kernel_rfl) (fun _ _ _ h => h) ⟨Or.inr ⟨by rfl, rfl⟩, fun _ => rfl⟩ ?_
                    simp only [Act.put, List.setIfInBounds_toArray, List.set_cons_zero, List.set_cons_succ]
                    refine wpAnyIn_take (i := 12) (oi := { dst := some 38, op := Op.load 4 (Operand.tmp 37), type := 4, pos := "ranges.go:112", after := #[{ on := 11, ground := Ground.data }, { on := 10, ground := Ground.guard }], guard := some (10, true) }) rfl rfl (by kernel_rfl) (by kernel_rfl) (by kernel_rfl) (fun _ _ _ h => h) ⟨Or.inr ⟨by rfl, rfl⟩, fun _ => rfl⟩ ?_
                    simp only [Act.put, List.setIfInBounds_toArray, List.set_cons_zero, List.set_cons_succ]
                    refine wpAnyIn_take (i := 13) (oi := { dst := some 39, op := Op.move (Operand.tmp 38), type := 4, pos := "ranges.go:112", after := #[{ on := 12, ground := Ground.data }, { on := 10, ground := Ground.chain }, { on := 10, ground := Ground.guard }], guard := some (10, true) }) rfl rfl (by kernel_rfl) (by kernel_rfl) (by kernel_rfl) (fun _ _ _ h => h) ⟨Or.inr ⟨by rfl, rfl⟩, fun _ => rfl⟩ ?_
                    simp only [Act.put, List.setIfInBounds_toArray, List.set_cons_zero, List.set_cons_succ]
                    refine wpAnyIn_take (i := 14) (oi := { dst := some 40, op := Op.fieldAddr 29 (Operand.tmp 2) 3, type := 0, pos := "ranges.go:112", after := #[{ on := 13, ground := Ground.guard }], guard := some (13, false) }) rfl rfl (by kernel_rfl) (by kernel_rfl) (by kernel_rfl) (fun _ _ _ h => h) ⟨Or.inr ⟨by rfl, rfl⟩, fun _ => rfl⟩ ?_
                    simp only [Act.put, List.setIfInBounds_toArray, List.set_cons_zero, List.set_cons_succ]
                    refine wpAnyIn_take (i := 15) (oi := { dst := some 41, op := Op.load 4 (Operand.tmp 40), type := 4, pos := "ranges.go:112", after := #[{ on := 14, ground := Ground.data }, { on := 13, ground := Ground.guard }], guard := some (13, false) }) rfl rfl (by kernel_rfl) (by kernel_rfl) (by kernel_rfl) (fun _ _ _ h => h) ⟨Or.inr ⟨by rfl, rfl⟩, fun _ => rfl⟩ ?_
                    simp only [Act.put, List.setIfInBounds_toArray, List.set_cons_zero, List.set_cons_succ]
                    refine wpAnyIn_take (i := 16) (oi := { dst := some 42, op := Op.pick (Operand.tmp 39) (Operand.const (Value.bool true)) (Operand.tmp 41), type := 4, pos := "ranges.go:112", after := #[{ on := 13, ground := Ground.data }, { on := 15, ground := Ground.data }, { on := 10, ground := Ground.guard }], guard := some (10, true) }) rfl rfl (by kernel_rfl) (by kernel_rfl) (by kernel_rfl) (fun _ _ _ h => h) ⟨Or.inr ⟨by rfl, rfl⟩, fun _ => rfl⟩ ?_
                    simp only [Act.put, List.setIfInBounds_toArray, List.set_cons_zero, List.set_cons_succ]
                    refine wpAnyIn_take (i := 17) (oi := { dst := some 43, op := Op.pick (Operand.tmp 36) (Operand.tmp 42) (Operand.const (Value.bool false)), type := 4, pos := "ranges.go:112", after := #[{ on := 10, ground := Ground.data }, { on := 16, ground := Ground.data }], guard := none }) (v := ?_) rfl rfl (by kernel_rfl) (by kernel_rfl) (by kernel_rfl) (fun _ _ _ h => h) ⟨Or.inl ⟨by rfl, ?_⟩, fun _ => rfl⟩ ?_
                    rotate_left
                    · (intro w; go_simp; try with_reducible rfl)
                    simp only [Act.put, List.setIfInBounds_toArray, List.set_cons_zero, List.set_cons_succ]
                    refine wpAnyIn_take (i := 18) (oi := { dst := some 44, op := Op.move (Operand.tmp 43), type := 4, pos := "ranges.go:112", after := #[{ on := 17, ground := Ground.data }, { on := 13, ground := Ground.chain }], guard := none }) (v := ?_) rfl rfl (by kernel_rfl) (by kernel_rfl) (by kernel_rfl) (fun _ _ _ h => h) ⟨Or.inl ⟨by rfl, ?_⟩, fun _ => rfl⟩ ?_
                    rotate_left
                    · (intro w; go_simp; try with_reducible rfl)
                    simp only [Act.put, List.setIfInBounds_toArray, List.set_cons_zero, List.set_cons_succ]
                    refine wpAnyIn_take (i := 19) (oi := { dst := some 45, op := Op.move (Operand.tmp 0), type := 32, pos := "ranges.go:112", after := #[{ on := 18, ground := Ground.guard }], guard := some (18, true) }) rfl rfl (by kernel_rfl) (by kernel_rfl) (by kernel_rfl) (fun _ _ _ h => h) ⟨Or.inr ⟨by rfl, rfl⟩, fun _ => rfl⟩ ?_
                    simp only [Act.put, List.setIfInBounds_toArray, List.set_cons_zero, List.set_cons_succ]
                    refine wpAnyIn_take (i := 20) (oi := { dst := some 46, op := Op.load 50 (Operand.tmp 7), type := 50, pos := "ranges.go:112", after := #[{ on := 18, ground := Ground.guard }], guard := some (18, true) }) rfl rfl (by kernel_rfl) (by kernel_rfl) (by kernel_rfl) (fun _ _ _ h => h) ⟨Or.inr ⟨by rfl, rfl⟩, fun _ => rfl⟩ ?_
                    simp only [Act.put, List.setIfInBounds_toArray, List.set_cons_zero, List.set_cons_succ]
                    refine wpAnyIn_take (i := 21) (oi := { dst := some 47, op := Op.move (Operand.tmp 5), type := 3, pos := "ranges.go:112", after := #[{ on := 18, ground := Ground.guard }], guard := some (18, true) }) rfl rfl (by kernel_rfl) (by kernel_rfl) (by kernel_rfl) (fun _ _ _ h => h) ⟨Or.inr ⟨by rfl, rfl⟩, fun _ => rfl⟩ ?_
                    simp only [Act.put, List.setIfInBounds_toArray, List.set_cons_zero, List.set_cons_succ]
                    refine wpAnyIn_ready (rs := [22]) (by kernel_rfl) (by simp) (AllReadyIn.cons (o := { dst := some 48, op := Op.call { callee := Callee.value (Operand.func 18), args := #[Operand.tmp 46, Operand.tmp 47], argTypes := #[50, 3] }, type := 29, pos := "ranges.go:112", after := #[{ on := 20, ground := Ground.data }, { on := 21, ground := Ground.data }, { on := 18, ground := Ground.chain }, { on := 18, ground := Ground.guard }], guard := some (18, true) }) rfl (fun K hK => ?_) AllReadyIn.nil)
                    go_simp
                    try refine ⟨fun _ h => (by first | trivial | cases h), ?_⟩
                    refine hK _ _ ?_
                    clear hK K
                    refine wpAnyIn_ready (rs := [23]) (by kernel_rfl) (by simp) (AllReadyIn.cons (o := { dst := some 49, op := Op.call { callee := Callee.value (Operand.tmp 45), args := #[Operand.tmp 48], argTypes := #[29] }, type := 4, pos := "ranges.go:112", after := #[{ on := 19, ground := Ground.data }, { on := 22, ground := Ground.data }, { on := 22, ground := Ground.chain }, { on := 18, ground := Ground.guard }], guard := some (18, true) }) rfl (fun K hK => ?_) AllReadyIn.nil)
                    go_simp
                    try refine ⟨fun _ h => (by first | trivial | cases h), ?_⟩
                    refine hK _ _ ?_
                    clear hK K
                    refine wpAnyIn_take (i := 24) (oi := { dst := some 50, op := Op.unOp UnOp.not 4 (Operand.tmp 49), type := 4, pos := "ranges.go:112", after := #[{ on := 23, ground := Ground.data }, { on := 18, ground := Ground.guard }], guard := some (18, true) }) rfl rfl (by kernel_rfl) (by kernel_rfl) (by kernel_rfl) (fun _ _ _ h => h) ⟨Or.inr ⟨by rfl, rfl⟩, fun _ => rfl⟩ ?_
                    simp only [Act.put, List.setIfInBounds_toArray, List.set_cons_zero, List.set_cons_succ]
                    refine wpAnyIn_take (i := 25) (oi := { dst := some 51, op := Op.pick (Operand.tmp 44) (Operand.tmp 50) (Operand.const (Value.bool false)), type := 4, pos := "ranges.go:112", after := #[{ on := 18, ground := Ground.data }, { on := 24, ground := Ground.data }], guard := none }) (v := ?_) rfl rfl (by kernel_rfl) (by kernel_rfl) (by kernel_rfl) (fun _ _ _ h => h) ⟨Or.inl ⟨by rfl, ?_⟩, fun _ => rfl⟩ ?_
                    rotate_left
                    · (intro w; go_simp; try with_reducible rfl)
                    simp only [Act.put, List.setIfInBounds_toArray, List.set_cons_zero, List.set_cons_succ]
                    refine wpAnyIn_done (by kernel_rfl) ?_ _
                    have hbf : Below W1.heap.size W1 w8 := by assumption
                    have HJ5 := Lib.hid (show J (ext B1 W1 w8) (posC G l k en (j + 1)) w8 by have h1 := HX.out _ _ _ _ HJ1.out hbf; rw [HNX.out]; exact h1)
                    have HB5 := Lib.hid (show ext B1 W1 w8 gb from .inl HB1.out)
                    have HG5 := Lib.hid ((hbf.block gb (by have h1 := HG1.out; rw [Array.getElem?_eq_getElem (HR4.out.1.lt _ rfl).2] at h1; exact (Array.getElem?_eq_some_iff.1 h1).1)).trans HG1.out)
                    gi_wp2
                    go_roundw
                    case rel => exact ⟨j + 1, by have := HLT2.out; omega, by go_num, _, HJ5, HB5, HG5⟩
                    case measure => simp [RowKit.intOf]; have := HLT2.out; omega
                  · go_simp
                    refine ((callsIn_wide (n := m - 1)).2 (HSP.out _)).mono ?_
                    rintro e w7 ⟨rfl, hb7⟩
                    dsimp only
                    have hbx7 := below_step (by assumption) hb7
                    clear hb7
                    refine hK _ _ ?_
                    clear hK K
                    refine wpAnyIn_ready (rs := [5]) (by kernel_rfl) (by simp) (AllReadyIn.cons (o := { dst := some 31, op := Op.load 50 (Operand.tmp 7), type := 50, pos := "ranges.go:112", after := #[{ on := 4, ground := Ground.guard }], guard := some (4, true) }) rfl (fun K hK => ?_) AllReadyIn.nil)
                    go_simp
                    refine hK _ _ ?_
                    clear hK K
                    refine wpAnyIn_ready (rs := [8]) (by kernel_rfl) (by simp) (AllReadyIn.cons (o := { dst := some 34, op := Op.call { callee := Callee.value (Operand.func 64), args := #[Operand.tmp 31, Operand.tmp 33], argTypes := #[50, 50] }, type := 4, pos := "ranges.go:112", after := #[{ on := 5, ground := Ground.data }, { on := 7, ground := Ground.data }, { on := 7, ground := Ground.chain }, { on := 4, ground := Ground.guard }], guard := some (4, true) }) rfl (fun K hK => ?_) AllReadyIn.nil)
                    go_simp
                    refine ((callsIn_wide (n := m - 1)).2 (HOV.out _)).mono ?_
                    rintro e w8 ⟨rfl, hb8⟩
                    dsimp only
                    have hbx8 := below_step (by assumption) hb8
                    clear hb8
                    refine hK _ _ ?_
                    clear hK K
                    refine wpAnyIn_take (i := 9) (oi := { dst := some 35, op := Op.pick (Operand.tmp 30) (Operand.tmp 34) (Operand.const (Value.bool false)), type := 4, pos := "ranges.go:112", after := #[{ on := 4, ground := Ground.data }, { on := 8, ground := Ground.data }], guard := none }) (v := ?_) rfl rfl (by kernel_rfl) (by kernel_rfl) (by kernel_rfl) (fun _ _ _ h => h) ⟨Or.inl ⟨by rfl, ?_⟩, fun _ => rfl⟩ ?_
                    rotate_left
                    · (intro w; go_simp; try with_reducible rfl)
                    simp only [Act.put, List.setIfInBounds_toArray, List.set_cons_zero, List.set_cons_succ]
                    refine wpAnyIn_take (i := 10) (oi := { dst := some 36, op := Op.move (Operand.tmp 35), type := 4, pos := "ranges.go:112", after := #[{ on := 9, ground := Ground.data }, { on := 8, ground := Ground.chain }], guard := none }) (v := ?_) rfl rfl (by kernel_rfl) (by kernel_rfl) (by kernel_rfl) (fun _ _ _ h => h) ⟨Or.inl ⟨by rfl, ?_⟩, fun _ => rfl⟩ ?_
                    rotate_left
                    · (intro w; go_simp; try with_reducible rfl)
                    simp only [Act.put, List.setIfInBounds_toArray, List.set_cons_zero, List.set_cons_succ]
                    refine wpAnyIn_take (i := 11) (oi := { dst := some 37, op := Op.fieldAddr 50 (Operand.tmp 7) 2, type := 0, pos := "ranges.go:112", after := #[{ on := 10, ground := Ground.guard }], guard := some (10, true) }) rfl rfl (by kernel_rfl) (by kernel_rfl) (by kernel_rfl) (fun _ _ _ h => h) ⟨Or.inr ⟨by rfl, rfl⟩, fun _ => rfl⟩ ?_
                    simp only [Act.put, List.setIfInBounds_toArray, List.set_cons_zero, List.set_cons_succ]
                    refine wpAnyIn_take (i := 12) (oi := { dst := some 38, op := Op.load 4 (Operand.tmp 37), type := 4, pos := "ranges.go:112", after := #[{ on := 11, ground := Ground.data }, { on := 10, ground := Ground.guard }], guard := some (10, true) }) rfl rfl (by kernel_rfl) (by kernel_rfl) (by kernel_rfl) (fun _ _ _ h => h) ⟨Or.inr ⟨by rfl, rfl⟩, fun _ => rfl⟩ ?_
                    simp only [Act.put, List.setIfInBounds_toArray, List.set_cons_zero, List.set_cons_succ]
                    refine wpAnyIn_take (i := 13) (oi := { dst := some 39, op := Op.move (Operand.tmp 38), type := 4, pos := "ranges.go:112", after := #[{ on := 12, ground := Ground.data }, { on := 10, ground := Ground.chain }, { on := 10, ground := Ground.guard }], guard := some (10, true) }) rfl rfl (by kernel_rfl) (by kernel_rfl) (by kernel_rfl) (fun _ _ _ h => h) ⟨Or.inr ⟨by rfl, rfl⟩, fun _ => rfl⟩ ?_
                    simp only [Act.put, List.setIfInBounds_toArray, List.set_cons_zero, List.set_cons_succ]
                    refine wpAnyIn_take (i := 14) (oi := { dst := some 40, op := Op.fieldAddr 29 (Operand.tmp 2) 3, type := 0, pos := "ranges.go:112", after := #[{ on := 13, ground := Ground.guard }], guard := some (13, false) }) rfl rfl (by kernel_rfl) (by kernel_rfl) (by kernel_rfl) (fun _ _ _ h => h) ⟨Or.inr ⟨by rfl, rfl⟩, fun _ => rfl⟩ ?_
                    simp only [Act.put, List.setIfInBounds_toArray, List.set_cons_zero, List.set_cons_succ]
                    refine wpAnyIn_take (i := 15) (oi := { dst := some 41, op := Op.load 4 (Operand.tmp 40), type := 4, pos := "ranges.go:112", after := #[{ on := 14, ground := Ground.data }, { on := 13, ground := Ground.guard }], guard := some (13, false) }) rfl rfl (by kernel_rfl) (by kernel_rfl) (by kernel_rfl) (fun _ _ _ h => h) ⟨Or.inr ⟨by rfl, rfl⟩, fun _ => rfl⟩ ?_
                    simp only [Act.put, List.setIfInBounds_toArray, List.set_cons_zero, List.set_cons_succ]
                    refine wpAnyIn_take (i := 16) (oi := { dst := some 42, op := Op.pick (Operand.tmp 39) (Operand.const (Value.bool true)) (Operand.tmp 41), type := 4, pos := "ranges.go:112", after := #[{ on := 13, ground := Ground.data }, { on := 15, ground := Ground.data }, { on := 10, ground := Ground.guard }], guard := some (10, true) }) rfl rfl (by kernel_rfl) (by kernel_rfl) (by kernel_rfl) (fun _ _ _ h => h) ⟨Or.inr ⟨by rfl, rfl⟩, fun _ => rfl⟩ ?_
                    simp only [Act.put, List.setIfInBounds_toArray, List.set_cons_zero, List.set_cons_succ]
                    refine wpAnyIn_take (i := 17) (oi := { dst := some 43, op := Op.pick (Operand.tmp 36) (Operand.tmp 42) (Operand.const (Value.bool false)), type := 4, pos := "ranges.go:112", after := #[{ on := 10, ground := Ground.data }, { on := 16, ground := Ground.data }], guard := none }) (v := ?_) rfl rfl (by kernel_rfl) (by kernel_rfl) (by kernel_rfl) (fun _ _ _ h => h) ⟨Or.inl ⟨by rfl, ?_⟩, fun _ => rfl⟩ ?_
                    rotate_left
                    · (intro w; go_simp; try with_reducible rfl)
                    simp only [Act.put, List.setIfInBounds_toArray, List.set_cons_zero, List.set_cons_succ]
                    refine wpAnyIn_take (i := 18) (oi := { dst := some 44, op := Op.move (Operand.tmp 43), type := 4, pos := "ranges.go:112", after := #[{ on := 17, ground := Ground.data }, { on := 13, ground := Ground.chain }], guard := none }) (v := ?_) rfl rfl (by kernel_rfl) (by kernel_rfl) (by kernel_rfl) (fun _ _ _ h => h) ⟨Or.inl ⟨by rfl, ?_⟩, fun _ => rfl⟩ ?_
                    rotate_left
                    · (intro w; go_simp; try with_reducible rfl)
                    simp only [Act.put, List.setIfInBounds_toArray, List.set_cons_zero, List.set_cons_succ]
                    refine wpAnyIn_take (i := 19) (oi := { dst := some 45, op := Op.move (Operand.tmp 0), type := 32, pos := "ranges.go:112", after := #[{ on := 18, ground := Ground.guard }], guard := some (18, true) }) rfl rfl (by kernel_rfl) (by kernel_rfl) (by kernel_rfl) (fun _ _ _ h => h) ⟨Or.inr ⟨by rfl, rfl⟩, fun _ => rfl⟩ ?_
                    simp only [Act.put, List.setIfInBounds_toArray, List.set_cons_zero, List.set_cons_succ]
                    refine wpAnyIn_take (i := 20) (oi := { dst := some 46, op := Op.load 50 (Operand.tmp 7), type := 50, pos := "ranges.go:112", after := #[{ on := 18, ground := Ground.guard }], guard := some (18, true) }) rfl rfl (by kernel_rfl) (by kernel_rfl) (by kernel_rfl) (fun _ _ _ h => h) ⟨Or.inr ⟨by rfl, rfl⟩, fun _ => rfl⟩ ?_
                    simp only [Act.put, List.setIfInBounds_toArray, List.set_cons_zero, List.set_cons_succ]
                    refine wpAnyIn_take (i := 21) (oi := { dst := some 47, op := Op.move (Operand.tmp 5), type := 3, pos := "ranges.go:112", after := #[{ on := 18, ground := Ground.guard }], guard := some (18, true) }) rfl rfl (by kernel_rfl) (by kernel_rfl) (by kernel_rfl) (fun _ _ _ h => h) ⟨Or.inr ⟨by rfl, rfl⟩, fun _ => rfl⟩ ?_
                    simp only [Act.put, List.setIfInBounds_toArray, List.set_cons_zero, List.set_cons_succ]
                    refine wpAnyIn_ready (rs := [22]) (by kernel_rfl) (by simp) (AllReadyIn.cons (o := { dst := some 48, op := Op.call { callee := Callee.value (Operand.func 18), args := #[Operand.tmp 46, Operand.tmp 47], argTypes := #[50, 3] }, type := 29, pos := "ranges.go:112", after := #[{ on := 20, ground := Ground.data }, { on := 21, ground := Ground.data }, { on := 18, ground := Ground.chain }, { on := 18, ground := Ground.guard }], guard := some (18, true) }) rfl (fun K hK => ?_) AllReadyIn.nil)
                    go_simp
                    try refine ⟨fun _ h => (by first | trivial | cases h), ?_⟩
                    refine hK _ _ ?_
                    clear hK K
                    refine wpAnyIn_ready (rs := [23]) (by kernel_rfl) (by simp) (AllReadyIn.cons (o := { dst := some 49, op := Op.call { callee := Callee.value (Operand.tmp 45), args := #[Operand.tmp 48], argTypes := #[29] }, type := 4, pos := "ranges.go:112", after := #[{ on := 19, ground := Ground.data }, { on := 22, ground := Ground.data }, { on := 22, ground := Ground.chain }, { on := 18, ground := Ground.guard }], guard := some (18, true) }) rfl (fun K hK => ?_) AllReadyIn.nil)
                    go_simp
                    try refine ⟨fun _ h => (by first | trivial | cases h), ?_⟩
                    refine hK _ _ ?_
                    clear hK K
                    refine wpAnyIn_take (i := 24) (oi := { dst := some 50, op := Op.unOp UnOp.not 4 (Operand.tmp 49), type := 4, pos := "ranges.go:112", after := #[{ on := 23, ground := Ground.data }, { on := 18, ground := Ground.guard }], guard := some (18, true) }) rfl rfl (by kernel_rfl) (by kernel_rfl) (by kernel_rfl) (fun _ _ _ h => h) ⟨Or.inr ⟨by rfl, rfl⟩, fun _ => rfl⟩ ?_
                    simp only [Act.put, List.setIfInBounds_toArray, List.set_cons_zero, List.set_cons_succ]
                    refine wpAnyIn_take (i := 25) (oi := { dst := some 51, op := Op.pick (Operand.tmp 44) (Operand.tmp 50) (Operand.const (Value.bool false)), type := 4, pos := "ranges.go:112", after := #[{ on := 18, ground := Ground.data }, { on := 24, ground := Ground.data }], guard := none }) (v := ?_) rfl rfl (by kernel_rfl) (by kernel_rfl) (by kernel_rfl) (fun _ _ _ h => h) ⟨Or.inl ⟨by rfl, ?_⟩, fun _ => rfl⟩ ?_
                    rotate_left
                    · (intro w; go_simp; try with_reducible rfl)
                    simp only [Act.put, List.setIfInBounds_toArray, List.set_cons_zero, List.set_cons_succ]
                    refine wpAnyIn_done (by kernel_rfl) ?_ _
                    have hbf : Below W1.heap.size W1 w8 := by assumption
                    have HJ5 := Lib.hid (show J (ext B1 W1 w8) (posC G l k en (j + 1)) w8 by have h1 := HX.out _ _ _ _ HJ1.out hbf; rw [HNX.out]; exact h1)
                    have HB5 := Lib.hid (show ext B1 W1 w8 gb from .inl HB1.out)
                    have HG5 := Lib.hid ((hbf.block gb (by have h1 := HG1.out; rw [Array.getElem?_eq_getElem (HR4.out.1.lt _ rfl).2] at h1; exact (Array.getElem?_eq_some_iff.1 h1).1)).trans HG1.out)
                    gi_wp2
                    go_roundw
                    case rel => exact ⟨j + 1, by have := HLT2.out; omega, by go_num, _, HJ5, HB5, HG5⟩
                    case measure => simp [RowKit.intOf]; have := HLT2.out; omega
              · cases sx
                · cases lx
                  · refine wpIn_region_any hmx ?_
                    have hbw : Below W1.heap.size W1 W1.drew := below_drew hb0
                    change wpAnyIn _ _ _ _ _ _ _ _ _ W1.drew
                    generalize W1.drew = Wd at hbw ⊢
                    clear hb0
                    simp only [List.size_toArray, List.length_cons, List.length_nil, Nat.reduceAdd]
                    refine wpAnyIn_take (i := 0) (oi := { dst := some 26, op := Op.move (Operand.tmp 5), type := 3, pos := "ranges.go:112", after := #[], guard := none }) (v := ?_) rfl rfl (by kernel_rfl) (by kernel_rfl) (by kernel_rfl) (fun _ _ _ h => h) ⟨Or.inl ⟨by rfl, ?_⟩, fun _ => rfl⟩ ?_
                    rotate_left
                    · (intro w; go_simp; try with_reducible rfl)
                    simp only [Act.put, List.setIfInBounds_toArray, List.set_cons_zero, List.set_cons_succ]
                    refine wpAnyIn_take (i := 1) (oi := { dst := some 27, op := Op.fieldAddr 29 (Operand.tmp 2) 0, type := 0, pos := "ranges.go:112", after := #[], guard := none }) (v := ?_) rfl rfl (by kernel_rfl) (by kernel_rfl) (by kernel_rfl) (fun _ _ _ h => h) ⟨Or.inl ⟨by rfl, ?_⟩, fun _ => rfl⟩ ?_
                    rotate_left
                    · (intro w; go_simp; try with_reducible rfl)
                    simp only [Act.put, List.setIfInBounds_toArray, List.set_cons_zero, List.set_cons_succ]
                    refine wpAnyIn_ready (rs := [2]) (by kernel_rfl) (by simp) (AllReadyIn.cons (o := { dst := some 28, op := Op.load 3 (Operand.tmp 27), type := 3, pos := "ranges.go:112", after := #[{ on := 1, ground := Ground.data }], guard := none }) rfl (fun K hK => ?_) AllReadyIn.nil)
                    go_simp
                    refine hK _ _ ?_
                    clear hK K
                    refine wpAnyIn_take (i := 3) (oi := { dst := some 29, op := Op.binOp BinOp.neq 3 (Operand.tmp 26) (Operand.tmp 28) 3, type := 4, pos := "ranges.go:112", after := #[{ on := 0, ground := Ground.data }, { on := 2, ground := Ground.data }], guard := none }) (v := .bool true) rfl rfl (by kernel_rfl) (by kernel_rfl) (by kernel_rfl) (fun _ _ _ h => h) ⟨Or.inl ⟨by rfl, ?_⟩, fun _ => rfl⟩ ?_
                    · (intro w; go_simp)
                    simp only [Act.put, List.setIfInBounds_toArray, List.set_cons_zero, List.set_cons_succ]
                    refine wpAnyIn_take (i := 4) (oi := { dst := some 30, op := Op.move (Operand.tmp 29), type := 4, pos := "ranges.go:112", after := #[{ on := 3, ground := Ground.data }], guard := none }) (v := ?_) rfl rfl (by kernel_rfl) (by kernel_rfl) (by kernel_rfl) (fun _ _ _ h => h) ⟨Or.inl ⟨by rfl, ?_⟩, fun _ => rfl⟩ ?_
                    rotate_left
                    · (intro w; go_simp; try with_reducible rfl)
                    simp only [Act.put, List.setIfInBounds_toArray, List.set_cons_zero, List.set_cons_succ]
                    refine wpAnyIn_ready (rs := [5, 6]) (by kernel_rfl) (by simp) (AllReadyIn.cons (o := { dst := some 31, op := Op.load 50 (Operand.tmp 7), type := 50, pos := "ranges.go:112", after := #[{ on := 4, ground := Ground.guard }], guard := some (4, true) }) rfl (fun K hK => ?_) (AllReadyIn.cons (o := { dst := some 32, op := Op.load 29 (Operand.tmp 2), type := 29, pos := "ranges.go:112", after := #[{ on := 4, ground := Ground.guard }], guard := some (4, true) }) rfl (fun K hK => ?_) AllReadyIn.nil))
                    · go_simp
                      refine hK _ _ ?_
                      clear hK K
                      refine wpAnyIn_ready (rs := [6]) (by kernel_rfl) (by simp) (AllReadyIn.cons (o := { dst := some 32, op := Op.load 29 (Operand.tmp 2), type := 29, pos := "ranges.go:112", after := #[{ on := 4, ground := Ground.guard }], guard := some (4, true) }) rfl (fun K hK => ?_) AllReadyIn.nil)
                      go_simp
                      refine hK _ _ ?_
                      clear hK K
                      refine wpAnyIn_ready (rs := [7]) (by kernel_rfl) (by simp) (AllReadyIn.cons (o := { dst := some 33, op := Op.call { callee := Callee.value (Operand.func 44), args := #[Operand.tmp 32], argTypes := #[29] }, type := 50, pos := "ranges.go:112", after := #[{ on := 6, ground := Ground.data }, { on := 4, ground := Ground.chain }, { on := 4, ground := Ground.guard }], guard := some (4, true) }) rfl (fun K hK => ?_) AllReadyIn.nil)
                      go_simp
                      refine ((callsIn_wide (n := m - 1)).2 (HSP.out _)).mono ?_
                      rintro e w7 ⟨rfl, hb7⟩
                      dsimp only
                      have hbx7 := below_step (by assumption) hb7
                      clear hb7
                      refine hK _ _ ?_
                      clear hK K
                      refine wpAnyIn_ready (rs := [8]) (by kernel_rfl) (by simp) (AllReadyIn.cons (o := { dst := some 34, op := Op.call { callee := Callee.value (Operand.func 64), args := #[Operand.tmp 31, Operand.tmp 33], argTypes := #[50, 50] }, type := 4, pos := "ranges.go:112", after := #[{ on := 5, ground := Ground.data }, { on := 7, ground := Ground.data }, { on := 7, ground := Ground.chain }, { on := 4, ground := Ground.guard }], guard := some (4, true) }) rfl (fun K hK => ?_) AllReadyIn.nil)
                      go_simp
                      refine ((callsIn_wide (n := m - 1)).2 (HOV.out _)).mono ?_
                      rintro e w8 ⟨rfl, hb8⟩
                      dsimp only
                      have hbx8 := below_step (by assumption) hb8
                      clear hb8
                      refine hK _ _ ?_
                      clear hK K
                      refine wpAnyIn_take (i := 9) (oi := { dst := some 35, op := Op.pick (Operand.tmp 30) (Operand.tmp 34) (Operand.const (Value.bool false)), type := 4, pos := "ranges.go:112", after := #[{ on := 4, ground := Ground.data }, { on := 8, ground := Ground.data }], guard := none }) (v := ?_) rfl rfl (by kernel_rfl) (by kernel_rfl) (by kernel_rfl) (fun _ _ _ h => h) ⟨Or.inl ⟨by rfl, ?_⟩, fun _ => rfl⟩ ?_
                      rotate_left
                      · (intro w; go_simp; try with_reducible rfl)
                      simp only [Act.put, List.setIfInBounds_toArray, List.set_cons_zero, List.set_cons_succ]
                      refine wpAnyIn_take (i := 10) (oi := { dst := some 36, op := Op.move (Operand.tmp 35), type := 4, pos := "ranges.go:112", after := #[{ on := 9, ground := Ground.data }, { on := 8, ground := Ground.chain }], guard := none }) (v := ?_) rfl rfl (by kernel_rfl) (by kernel_rfl) (by kernel_rfl) (fun _ _ _ h => h) ⟨Or.inl ⟨by rfl, ?_⟩, fun _ => rfl⟩ ?_
                      rotate_left
                      · (intro w; go_simp; try with_reducible rfl)
                      simp only [Act.put, List.setIfInBounds_toArray, List.set_cons_zero, List.set_cons_succ]
                      refine wpAnyIn_take (i := 11) (oi := { dst := some 37, op := Op.fieldAddr 50 (Operand.tmp 7) 2, type := 0, pos := "ranges.go:112", after := #[{ on := 10, ground := Ground.guard }], guard := some (10, true) }) (v := ?_) rfl rfl (by kernel_rfl) (by kernel_rfl) (by kernel_rfl) (fun _ _ _ h => h) ⟨Or.inl ⟨by rfl, ?_⟩, fun _ => rfl⟩ ?_
                      rotate_left
                      · (intro w; go_simp; try with_reducible rfl)
                      simp only [Act.put, List.setIfInBounds_toArray, List.set_cons_zero, List.set_cons_succ]
                      refine wpAnyIn_ready (rs := [12]) (by kernel_rfl) (by simp) (AllReadyIn.cons (o := { dst := some 38, op := Op.load 4 (Operand.tmp 37), type := 4, pos := "ranges.go:112", after := #[{ on := 11, ground := Ground.data }, { on := 10, ground := Ground.guard }], guard := some (10, true) }) rfl (fun K hK => ?_) AllReadyIn.nil)
                      go_simp
                      refine hK _ _ ?_
                      clear hK K
                      refine wpAnyIn_take (i := 13) (oi := { dst := some 39, op := Op.move (Operand.tmp 38), type := 4, pos := "ranges.go:112", after := #[{ on := 12, ground := Ground.data }, { on := 10, ground := Ground.chain }, { on := 10, ground := Ground.guard }], guard := some (10, true) }) (v := ?_) rfl rfl (by kernel_rfl) (by kernel_rfl) (by kernel_rfl) (fun _ _ _ h => h) ⟨Or.inl ⟨by rfl, ?_⟩, fun _ => rfl⟩ ?_
                      rotate_left
                      · (intro w; go_simp; try with_reducible rfl)
                      simp only [Act.put, List.setIfInBounds_toArray, List.set_cons_zero, List.set_cons_succ]
                      refine wpAnyIn_take (i := 14) (oi := { dst := some 40, op := Op.fieldAddr 29 (Operand.tmp 2) 3, type := 0, pos := "ranges.go:112", after := #[{ on := 13, ground := Ground.guard }], guard := some (13, false) }) (v := ?_) rfl rfl (by kernel_rfl) (by kernel_rfl) (by kernel_rfl) (fun _ _ _ h => h) ⟨Or.inl ⟨by rfl, ?_⟩, fun _ => rfl⟩ ?_
                      rotate_left
                      · (intro w; go_simp; try with_reducible rfl)
                      simp only [Act.put, List.setIfInBounds_toArray, List.set_cons_zero, List.set_cons_succ]
                      refine wpAnyIn_ready (rs := [15]) (by kernel_rfl) (by simp) (AllReadyIn.cons (o := { dst := some 41, op := Op.load 4 (Operand.tmp 40), type := 4, pos := "ranges.go:112", after := #[{ on := 14, ground := Ground.data }, { on := 13, ground := Ground.guard }], guard := some (13, false) }) rfl (fun K hK => ?_) AllReadyIn.nil)
                      go_simp
                      refine hK _ _ ?_
                      clear hK K
                      refine wpAnyIn_take (i := 16) (oi := { dst := some 42, op := Op.pick (Operand.tmp 39) (Operand.const (Value.bool true)) (Operand.tmp 41), type := 4, pos := "ranges.go:112", after := #[{ on := 13, ground := Ground.data }, { on := 15, ground := Ground.data }, { on := 10, ground := Ground.guard }], guard := some (10, true) }) (v := ?_) rfl rfl (by kernel_rfl) (by kernel_rfl) (by kernel_rfl) (fun _ _ _ h => h) ⟨Or.inl ⟨by rfl, ?_⟩, fun _ => rfl⟩ ?_
                      rotate_left
                      · (intro w; go_simp; try with_reducible rfl)
                      simp only [Act.put, List.setIfInBounds_toArray, List.set_cons_zero, List.set_cons_succ]
                      refine wpAnyIn_take (i := 17) (oi := { dst := some 43, op := Op.pick (Operand.tmp 36) (Operand.tmp 42) (Operand.const (Value.bool false)), type := 4, pos := "ranges.go:112", after := #[{ on := 10, ground := Ground.data }, { on := 16, ground := Ground.data }], guard := none }) (v := ?_) rfl rfl (by kernel_rfl) (by kernel_rfl) (by kernel_rfl) (fun _ _ _ h => h) ⟨Or.inl ⟨by rfl, ?_⟩, fun _ => rfl⟩ ?_
                      rotate_left
                      · (intro w; go_simp; try with_reducible rfl)
                      simp only [Act.put, List.setIfInBounds_toArray, List.set_cons_zero, List.set_cons_succ]
                      refine wpAnyIn_take (i := 18) (oi := { dst := some 44, op := Op.move (Operand.tmp 43), type := 4, pos := "ranges.go:112", after := #[{ on := 17, ground := Ground.data }, { on := 13, ground := Ground.chain }], guard := none }) (v := ?_) rfl rfl (by kernel_rfl) (by kernel_rfl) (by kernel_rfl) (fun _ _ _ h => h) ⟨Or.inl ⟨by rfl, ?_⟩, fun _ => rfl⟩ ?_
                      rotate_left
                      · (intro w; go_simp; try with_reducible rfl)
                      simp only [Act.put, List.setIfInBounds_toArray, List.set_cons_zero, List.set_cons_succ]
                      refine wpAnyIn_take (i := 19) (oi := { dst := some 45, op := Op.move (Operand.tmp 0), type := 32, pos := "ranges.go:112", after := #[{ on := 18, ground := Ground.guard }], guard := some (18, true) }) rfl rfl (by kernel_rfl) (by kernel_rfl) (by kernel_rfl) (fun _ _ _ h => h) ⟨Or.inr ⟨by rfl, rfl⟩, fun _ => rfl⟩ ?_
                      simp only [Act.put, List.setIfInBounds_toArray, List.set_cons_zero, List.set_cons_succ]
                      refine wpAnyIn_take (i := 20) (oi := { dst := some 46, op := Op.load 50 (Operand.tmp 7), type := 50, pos := "ranges.go:112", after := #[{ on := 18, ground := Ground.guard }], guard := some (18, true) }) rfl rfl (by kernel_rfl) (by kernel_rfl) (by kernel_rfl) (fun _ _ _ h => h) ⟨Or.inr ⟨by rfl, rfl⟩, fun _ => rfl⟩ ?_
                      simp only [Act.put, List.setIfInBounds_toArray, List.set_cons_zero, List.set_cons_succ]
                      refine wpAnyIn_take (i := 21) (oi := { dst := some 47, op := Op.move (Operand.tmp 5), type := 3, pos := "ranges.go:112", after := #[{ on := 18, ground := Ground.guard }], guard := some (18, true) }) rfl rfl (by kernel_rfl) (by kernel_rfl) (by kernel_rfl) (fun _ _ _ h => h) ⟨Or.inr ⟨by rfl, rfl⟩, fun _ => rfl⟩ ?_
                      simp only [Act.put, List.setIfInBounds_toArray, List.set_cons_zero, List.set_cons_succ]
                      refine wpAnyIn_ready (rs := [22]) (by kernel_rfl) (by simp) (AllReadyIn.cons (o := { dst := some 48, op := Op.call { callee := Callee.value (Operand.func 18), args := #[Operand.tmp 46, Operand.tmp 47], argTypes := #[50, 3] }, type := 29, pos := "ranges.go:112", after := #[{ on := 20, ground := Ground.data }, { on := 21, ground := Ground.data }, { on := 18, ground := Ground.chain }, { on := 18, ground := Ground.guard }], guard := some (18, true) }) rfl (fun K hK => ?_) AllReadyIn.nil)
                      go_simp
                      try refine ⟨fun _ h => (by first | trivial | cases h), ?_⟩
                      refine hK _ _ ?_
                      clear hK K
                      refine wpAnyIn_ready (rs := [23]) (by kernel_rfl) (by simp) (AllReadyIn.cons (o := { dst := some 49, op := Op.call { callee := Callee.value (Operand.tmp 45), args := #[Operand.tmp 48], argTypes := #[29] }, type := 4, pos := "ranges.go:112", after := #[{ on := 19, ground := Ground.data }, { on := 22, ground := Ground.data }, { on := 22, ground := Ground.chain }, { on := 18, ground := Ground.guard }], guard := some (18, true) }) rfl (fun K hK => ?_) AllReadyIn.nil)
                      go_simp
                      try refine ⟨fun _ h => (by first | trivial | cases h), ?_⟩
                      refine hK _ _ ?_
                      clear hK K
                      refine wpAnyIn_take (i := 24) (oi := { dst := some 50, op := Op.unOp UnOp.not 4 (Operand.tmp 49), type := 4, pos := "ranges.go:112", after := #[{ on := 23, ground := Ground.data }, { on := 18, ground := Ground.guard }], guard := some (18, true) }) rfl rfl (by kernel_rfl) (by kernel_rfl) (by kernel_rfl) (fun _ _ _ h => h) ⟨Or.inr ⟨by rfl, rfl⟩, fun _ => rfl⟩ ?_
                      simp only [Act.put, List.setIfInBounds_toArray, List.set_cons_zero, List.set_cons_succ]
                      refine wpAnyIn_take (i := 25) (oi := { dst := some 51, op := Op.pick (Operand.tmp 44) (Operand.tmp 50) (Operand.const (Value.bool false)), type := 4, pos := "ranges.go:112", after := #[{ on := 18, ground := Ground.data }, { on := 24, ground := Ground.data }], guard := none }) (v := ?_) rfl rfl (by kernel_rfl) (by kernel_rfl) (by kernel_rfl) (fun _ _ _ h => h) ⟨Or.inl ⟨by rfl, ?_⟩, fun _ => rfl⟩ ?_
                      rotate_left
                      · (intro w; go_simp; try with_reducible rfl)
                      simp only [Act.put, List.setIfInBounds_toArray, List.set_cons_zero, List.set_cons_succ]
                      refine wpAnyIn_done (by kernel_rfl) ?_ _
                      have hbf : Below W1.heap.size W1 w8 := by assumption
                      have HJ5 := Lib.hid (show J (ext B1 W1 w8) (posC G l k en (j + 1)) w8 by have h1 := HX.out _ _ _ _ HJ1.out hbf; rw [HNX.out]; exact h1)
                      have HB5 := Lib.hid (show ext B1 W1 w8 gb from .inl HB1.out)
                      have HG5 := Lib.hid ((hbf.block gb (by have h1 := HG1.out; rw [Array.getElem?_eq_getElem (HR4.out.1.lt _ rfl).2] at h1; exact (Array.getElem?_eq_some_iff.1 h1).1)).trans HG1.out)
                      gi_wp2
                      go_roundw
                      case rel => exact ⟨j + 1, by have := HLT2.out; omega, by go_num, _, HJ5, HB5, HG5⟩
                      case measure => simp [RowKit.intOf]; have := HLT2.out; omega
                    · go_simp
                      refine hK _ _ ?_
                      clear hK K
                      refine wpAnyIn_ready (rs := [5, 7]) (by kernel_rfl) (by simp) (AllReadyIn.cons (o := { dst := some 31, op := Op.load 50 (Operand.tmp 7), type := 50, pos := "ranges.go:112", after := #[{ on := 4, ground := Ground.guard }], guard := some (4, true) }) rfl (fun K hK => ?_) (AllReadyIn.cons (o := { dst := some 33, op := Op.call { callee := Callee.value (Operand.func 44), args := #[Operand.tmp 32], argTypes := #[29] }, type := 50, pos := "ranges.go:112", after := #[{ on := 6, ground := Ground.data }, { on := 4, ground := Ground.chain }, { on := 4, ground := Ground.guard }], guard := some (4, true) }) rfl (fun K hK => ?_) AllReadyIn.nil))
                      · go_simp
                        refine hK _ _ ?_
                        clear hK K
                        refine wpAnyIn_ready (rs := [7]) (by kernel_rfl) (by simp) (AllReadyIn.cons (o := { dst := some 33, op := Op.call { callee := Callee.value (Operand.func 44), args := #[Operand.tmp 32], argTypes := #[29] }, type := 50, pos := "ranges.go:112", after := #[{ on := 6, ground := Ground.data }, { on := 4, ground := Ground.chain }, { on := 4, ground := Ground.guard }], guard := some (4, true) }) rfl (fun K hK => ?_) AllReadyIn.nil)
                        go_simp
                        refine ((callsIn_wide (n := m - 1)).2 (HSP.out _)).mono ?_
                        rintro e w7 ⟨rfl, hb7⟩
                        dsimp only
                        have hbx7 := below_step (by assumption) hb7
                        clear hb7
                        refine hK _ _ ?_
                        clear hK K
                        refine wpAnyIn_ready (rs := [8]) (by kernel_rfl) (by simp) (AllReadyIn.cons (o := { dst := some 34, op := Op.call { callee := Callee.value (Operand.func 64), args := #[Operand.tmp 31, Operand.tmp 33], argTypes := #[50, 50] }, type := 4, pos := "ranges.go:112", after := #[{ on := 5, ground := Ground.data }, { on := 7, ground := Ground.data }, { on := 7, ground := Ground.chain }, { on := 4, ground := Ground.guard }], guard := some (4, true) }) rfl (fun K hK => ?_) AllReadyIn.nil)
                        go_simp
                        refine ((callsIn_wide (n := m - 1)).2 (HOV.out _)).mono ?_
                        rintro e w8 ⟨rfl, hb8⟩
                        dsimp only
                        have hbx8 := below_step (by assumption) hb8
                        clear hb8
                        refine hK _ _ ?_
                        clear hK K
                        refine wpAnyIn_take (i := 9) (oi := { dst := some 35, op := Op.pick (Operand.tmp 30) (Operand.tmp 34) (Operand.const (Value.bool false)), type := 4, pos := "ranges.go:112", after := #[{ on := 4, ground := Ground.data }, { on := 8, ground := Ground.data }], guard := none }) (v := ?_) rfl rfl (by kernel_rfl) (by kernel_rfl) (by kernel_rfl) (fun _ _ _ h => h) ⟨Or.inl ⟨by rfl, ?_⟩, fun _ => rfl⟩ ?_
                        rotate_left
                        · (intro w; go_simp; try with_reducible rfl)
                        simp only [Act.put, List.setIfInBounds_toArray, List.set_cons_zero, List.set_cons_succ]
                        refine wpAnyIn_take (i := 10) (oi := { dst := some 36, op := Op.move (Operand.tmp 35), type := 4, pos := "ranges.go:112", after := #[{ on := 9, ground := Ground.data }, { on := 8, ground := Ground.chain }], guard := none }) (v := ?_) rfl rfl (by kernel_rfl) (by kernel_rfl) (by kernel_rfl) (fun _ _ _ h => h) ⟨Or.inl ⟨by rfl, ?_⟩, fun _ => rfl⟩ ?_
                        rotate_left
                        · (intro w; go_simp; try with_reducible rfl)
                        simp only [Act.put, List.setIfInBounds_toArray, List.set_cons_zero, List.set_cons_succ]
                        refine wpAnyIn_take (i := 11) (oi := { dst := some 37, op := Op.fieldAddr 50 (Operand.tmp 7) 2, type := 0, pos := "ranges.go:112", after := #[{ on := 10, ground := Ground.guard }], guard := some (10, true) }) (v := ?_) rfl rfl (by kernel_rfl) (by kernel_rfl) (by kernel_rfl) (fun _ _ _ h => h) ⟨Or.inl ⟨by rfl, ?_⟩, fun _ => rfl⟩ ?_
                        rotate_left
                        · (intro w; go_simp; try with_reducible rfl)
                        simp only [Act.put, List.setIfInBounds_toArray, List.set_cons_zero, List.set_cons_succ]
                        refine wpAnyIn_ready (rs := [12]) (by kernel_rfl) (by simp) (AllReadyIn.cons (o := { dst := some 38, op := Op.load 4 (Operand.tmp 37), type := 4, pos := "ranges.go:112", after := #[{ on := 11, ground := Ground.data }, { on := 10, ground := Ground.guard }], guard := some (10, true) }) rfl (fun K hK => ?_) AllReadyIn.nil)
                        go_simp
                        refine hK _ _ ?_
                        clear hK K
                        refine wpAnyIn_take (i := 13) (oi := { dst := some 39, op := Op.move (Operand.tmp 38), type := 4, pos := "ranges.go:112", after := #[{ on := 12, ground := Ground.data }, { on := 10, ground := Ground.chain }, { on := 10, ground := Ground.guard }], guard := some (10, true) }) (v := ?_) rfl rfl (by kernel_rfl) (by kernel_rfl) (by kernel_rfl) (fun _ _ _ h => h) ⟨Or.inl ⟨by rfl, ?_⟩, fun _ => rfl⟩ ?_
                        rotate_left
                        · (intro w; go_simp; try with_reducible rfl)
                        simp only [Act.put, List.setIfInBounds_toArray, List.set_cons_zero, List.set_cons_succ]
                        refine wpAnyIn_take (i := 14) (oi := { dst := some 40, op := Op.fieldAddr 29 (Operand.tmp 2) 3, type := 0, pos := "ranges.go:112", after := #[{ on := 13, ground := Ground.guard }], guard := some (13, false) }) (v := ?_) rfl rfl (by kernel_rfl) (by kernel_rfl) (by kernel_rfl) (fun _ _ _ h => h) ⟨Or.inl ⟨by rfl, ?_⟩, fun _ => rfl⟩ ?_
                        rotate_left
                        · (intro w; go_simp; try with_reducible rfl)
                        simp only [Act.put, List.setIfInBounds_toArray, List.set_cons_zero, List.set_cons_succ]
                        refine wpAnyIn_ready (rs := [15]) (by kernel_rfl) (by simp) (AllReadyIn.cons (o := { dst := some 41, op := Op.load 4 (Operand.tmp 40), type := 4, pos := "ranges.go:112", after := #[{ on := 14, ground := Ground.data }, { on := 13, ground := Ground.guard }], guard := some (13, false) }) rfl (fun K hK => ?_) AllReadyIn.nil)
                        go_simp
                        refine hK _ _ ?_
                        clear hK K
                        refine wpAnyIn_take (i := 16) (oi := { dst := some 42, op := Op.pick (Operand.tmp 39) (Operand.const (Value.bool true)) (Operand.tmp 41), type := 4, pos := "ranges.go:112", after := #[{ on := 13, ground := Ground.data }, { on := 15, ground := Ground.data }, { on := 10, ground := Ground.guard }], guard := some (10, true) }) (v := ?_) rfl rfl (by kernel_rfl) (by kernel_rfl) (by kernel_rfl) (fun _ _ _ h => h) ⟨Or.inl ⟨by rfl, ?_⟩, fun _ => rfl⟩ ?_
                        rotate_left
                        · (intro w; go_simp; try with_reducible rfl)
                        simp only [Act.put, List.setIfInBounds_toArray, List.set_cons_zero, List.set_cons_succ]
                        refine wpAnyIn_take (i := 17) (oi := { dst := some 43, op := Op.pick (Operand.tmp 36) (Operand.tmp 42) (Operand.const (Value.bool false)), type := 4, pos := "ranges.go:112", after := #[{ on := 10, ground := Ground.data }, { on := 16, ground := Ground.data }], guard := none }) (v := ?_) rfl rfl (by kernel_rfl) (by kernel_rfl) (by kernel_rfl) (fun _ _ _ h => h) ⟨Or.inl ⟨by rfl, ?_⟩, fun _ => rfl⟩ ?_
                        rotate_left
                        · (intro w; go_simp; try with_reducible rfl)
                        simp only [Act.put, List.setIfInBounds_toArray, List.set_cons_zero, List.set_cons_succ]
                        refine wpAnyIn_take (i := 18) (oi := { dst := some 44, op := Op.move (Operand.tmp 43), type := 4, pos := "ranges.go:112", after := #[{ on := 17, ground := Ground.data }, { on := 13, ground := Ground.chain }], guard := none }) (v := ?_) rfl rfl (by kernel_rfl) (by kernel_rfl) (by kernel_rfl) (fun _ _ _ h => h) ⟨Or.inl ⟨by rfl, ?_⟩, fun _ => rfl⟩ ?_
                        rotate_left
                        · (intro w; go_simp; try with_reducible rfl)
                        simp only [Act.put, List.setIfInBounds_toArray, List.set_cons_zero, List.set_cons_succ]
                        refine wpAnyIn_take (i := 19) (oi := { dst := some 45, op := Op.move (Operand.tmp 0), type := 32, pos := "ranges.go:112", after := #[{ on := 18, ground := Ground.guard }], guard := some (18, true) }) rfl rfl (by kernel_rfl) (by kernel_rfl) (by kernel_rfl) (fun _ _ _ h => h) ⟨Or.inr ⟨by rfl, rfl⟩, fun _ => rfl⟩ ?_
                        simp only [Act.put, List.setIfInBounds_toArray, List.set_cons_zero, List.set_cons_succ]
                        refine wpAnyIn_take (i := 20) (oi := { dst := some 46, op := Op.load 50 (Operand.tmp 7), type := 50, pos := "ranges.go:112", after := #[{ on := 18, ground := Ground.guard }], guard := some (18, true) }) rfl rfl (by kernel_rfl) (by kernel_rfl) (by kernel_rfl) (fun _ _ _ h => h) ⟨Or.inr ⟨by rfl, rfl⟩, fun _ => rfl⟩ ?_
                        simp only [Act.put, List.setIfInBounds_toArray, List.set_cons_zero, List.set_cons_succ]
                        refine wpAnyIn_take (i := 21) (oi := { dst := some 47, op := Op.move (Operand.tmp 5), type := 3, pos := "ranges.go:112", after := #[{ on := 18, ground := Ground.guard }], guard := some (18, true) }) rfl rfl (by kernel_rfl) (by kernel_rfl) (by kernel_rfl) (fun _ _ _ h => h) ⟨Or.inr ⟨by rfl, rfl⟩, fun _ => rfl⟩ ?_
                        simp only [Act.put, List.setIfInBounds_toArray, List.set_cons_zero, List.set_cons_succ]
                        refine wpAnyIn_ready (rs := [22]) (by kernel_rfl) (by simp) (AllReadyIn.cons (o := { dst := some 48, op := Op.call { callee := Callee.value (Operand.func 18), args := #[Operand.tmp 46, Operand.tmp 47], argTypes := #[50, 3] }, type := 29, pos := "ranges.go:112", after := #[{ on := 20, ground := Ground.data }, { on := 21, ground := Ground.data }, { on := 18, ground := Ground.chain }, { on := 18, ground := Ground.guard }], guard := some (18, true) }) rfl (fun K hK => ?_) AllReadyIn.nil)
                        go_simp
                        try refine ⟨fun _ h => (by first | trivial | cases h), ?_⟩
                        refine hK _ _ ?_
                        clear hK K
                        refine wpAnyIn_ready (rs := [23]) (by kernel_rfl) (by simp) (AllReadyIn.cons (o := { dst := some 49, op := Op.call { callee := Callee.value (Operand.tmp 45), args := #[Operand.tmp 48], argTypes := #[29] }, type := 4, pos := "ranges.go:112", after := #[{ on := 19, ground := Ground.data }, { on := 22, ground := Ground.data }, { on := 22, ground := Ground.chain }, { on := 18, ground := Ground.guard }], guard := some (18, true) }) rfl (fun K hK => ?_) AllReadyIn.nil)
                        go_simp
                        try refine ⟨fun _ h => (by first | trivial | cases h), ?_⟩
                        refine hK _ _ ?_
                        clear hK K
                        refine wpAnyIn_take (i := 24) (oi := { dst := some 50, op := Op.unOp UnOp.not 4 (Operand.tmp 49), type := 4, pos := "ranges.go:112", after := #[{ on := 23, ground := Ground.data }, { on := 18, ground := Ground.guard }], guard := some (18, true) }) rfl rfl (by kernel_rfl) (by kernel_rfl) (by kernel_rfl) (fun _ _ _ h => h) ⟨Or.inr ⟨by rfl, rfl⟩, fun _ => rfl⟩ ?_
                        simp only [Act.put, List.setIfInBounds_toArray, List.set_cons_zero, List.set_cons_succ]
                        refine wpAnyIn_take (i := 25) (oi := { dst := some 51, op := Op.pick (Operand.tmp 44) (Operand.tmp 50) (Operand.const (Value.bool false)), type := 4, pos := "ranges.go:112", after := #[{ on := 18, ground := Ground.data }, { on := 24, ground := Ground.data }], guard := none }) (v := ?_) rfl rfl (by kernel_rfl) (by kernel_rfl) (by kernel_rfl) (fun _ _ _ h => h) ⟨Or.inl ⟨by rfl, ?_⟩, fun _ => rfl⟩ ?_
                        rotate_left
                        · (intro w; go_simp; try with_reducible rfl)
                        simp only [Act.put, List.setIfInBounds_toArray, List.set_cons_zero, List.set_cons_succ]
                        refine wpAnyIn_done (by kernel_rfl) ?_ _
                        have hbf : Below W1.heap.size W1 w8 := by assumption
                        have HJ5 := Lib.hid (show J (ext B1 W1 w8) (posC G l k en (j + 1)) w8 by have h1 := HX.out _ _ _ _ HJ1.out hbf; rw [HNX.out]; exact h1)
                        have HB5 := Lib.hid (show ext B1 W1 w8 gb from .inl HB1.out)
                        have HG5 := Lib.hid ((hbf.block gb (by have h1 := HG1.out; rw [Array.getElem?_eq_getElem (HR4.out.1.lt _ rfl).2] at h1; exact (Array.getElem?_eq_some_iff.1 h1).1)).trans HG1.out)
                        gi_wp2
                        go_roundw
                        case rel => exact ⟨j + 1, by have := HLT2.out; omega, by go_num, _, HJ5, HB5, HG5⟩
                        case measure => simp [RowKit.intOf]; have := HLT2.out; omega
                      · go_simp
                        refine ((callsIn_wide (n := m - 1)).2 (HSP.out _)).mono ?_
                        rintro e w7 ⟨rfl, hb7⟩
                        dsimp only
                        have hbx7 := below_step (by assumption) hb7
                        clear hb7
                        refine hK _ _ ?_
                        clear hK K
                        refine wpAnyIn_ready (rs := [5]) (by kernel_rfl) (by simp) (AllReadyIn.cons (o := { dst := some 31, op := Op.load 50 (Operand.tmp 7), type := 50, pos := "ranges.go:112", after := #[{ on := 4, ground := Ground.guard }], guard := some (4, true) }) rfl (fun K hK => ?_) AllReadyIn.nil)
                        go_simp
                        refine hK _ _ ?_
                        clear hK K
                        refine wpAnyIn_ready (rs := [8]) (by kernel_rfl) (by simp) (AllReadyIn.cons (o := { dst := some 34, op := Op.call { callee := Callee.value (Operand.func 64), args := #[Operand.tmp 31, Operand.tmp 33], argTypes := #[50, 50] }, type := 4, pos := "ranges.go:112", after := #[{ on := 5, ground := Ground.data }, { on := 7, ground := Ground.data }, { on := 7, ground := Ground.chain }, { on := 4, ground := Ground.guard }], guard := some (4, true) }) rfl (fun K hK => ?_) AllReadyIn.nil)
                        go_simp
                        refine ((callsIn_wide (n := m - 1)).2 (HOV.out _)).mono ?_
                        rintro e w8 ⟨rfl, hb8⟩
                        dsimp only
                        have hbx8 := below_step (by assumption) hb8
                        clear hb8
                        refine hK _ _ ?_
                        clear hK K
                        refine wpAnyIn_take (i := 9) (oi := { dst := some 35, op := Op.pick (Operand.tmp 30) (Operand.tmp 34) (Operand.const (Value.bool false)), type := 4, pos := "ranges.go:112", after := #[{ on := 4, ground := Ground.data }, { on := 8, ground := Ground.data }], guard := none }) (v := ?_) rfl rfl (by kernel_rfl) (by kernel_rfl) (by kernel_rfl) (fun _ _ _ h => h) ⟨Or.inl ⟨by rfl, ?_⟩, fun _ => rfl⟩ ?_
                        rotate_left
                        · (intro w; go_simp; try with_reducible rfl)
                        simp only [Act.put, List.setIfInBounds_toArray, List.set_cons_zero, List.set_cons_succ]
                        refine wpAnyIn_take (i := 10) (oi := { dst := some 36, op := Op.move (Operand.tmp 35), type := 4, pos := "ranges.go:112", after := #[{ on := 9, ground := Ground.data }, { on := 8, ground := Ground.chain }], guard := none }) (v := ?_) rfl rfl (by kernel_rfl) (by kernel_rfl) (by kernel_rfl) (fun _ _ _ h => h) ⟨Or.inl ⟨by rfl, ?_⟩, fun _ => rfl⟩ ?_
                        rotate_left
                        · (intro w; go_simp; try with_reducible rfl)
                        simp only [Act.put, List.setIfInBounds_toArray, List.set_cons_zero, List.set_cons_succ]
                        refine wpAnyIn_take (i := 11) (oi := { dst := some 37, op := Op.fieldAddr 50 (Operand.tmp 7) 2, type := 0, pos := "ranges.go:112", after := #[{ on := 10, ground := Ground.guard }], guard := some (10, true) }) (v := ?_) rfl rfl (by kernel_rfl) (by kernel_rfl) (by kernel_rfl) (fun _ _ _ h => h) ⟨Or.inl ⟨by rfl, ?_⟩, fun _ => rfl⟩ ?_
                        rotate_left
                        · (intro w; go_simp; try with_reducible rfl)
                        simp only [Act.put, List.setIfInBounds_toArray, List.set_cons_zero, List.set_cons_succ]
                        refine wpAnyIn_ready (rs := [12]) (by kernel_rfl) (by simp) (AllReadyIn.cons (o := { dst := some 38, op := Op.load 4 (Operand.tmp 37), type := 4, pos := "ranges.go:112", after := #[{ on := 11, ground := Ground.data }, { on := 10, ground := Ground.guard }], guard := some (10, true) }) rfl (fun K hK => ?_) AllReadyIn.nil)
                        go_simp
                        refine hK _ _ ?_
                        clear hK K
                        refine wpAnyIn_take (i := 13) (oi := { dst := some 39, op := Op.move (Operand.tmp 38), type := 4, pos := "ranges.go:112", after := #[{ on := 12, ground := Ground.data }, { on := 10, ground := Ground.chain }, { on := 10, ground := Ground.guard }], guard := some (10, true) }) (v := ?_) rfl rfl (by kernel_rfl) (by kernel_rfl) (by kernel_rfl) (fun _ _ _ h => h) ⟨Or.inl ⟨by rfl, ?_⟩, fun _ => rfl⟩ ?_
                        rotate_left
                        · (intro w; go_simp; try with_reducible rfl)
                        simp only [Act.put, List.setIfInBounds_toArray, List.set_cons_zero, List.set_cons_succ]
                        refine wpAnyIn_take (i := 14) (oi := { dst := some 40, op := Op.fieldAddr 29 (Operand.tmp 2) 3, type := 0, pos := "ranges.go:112", after := #[{ on := 13, ground := Ground.guard }], guard := some (13, false) }) (v := ?_) rfl rfl (by kernel_rfl) (by kernel_rfl) (by kernel_rfl) (fun _ _ _ h => h) ⟨Or.inl ⟨by rfl, ?_⟩, fun _ => rfl⟩ ?_
                        rotate_left
                        · (intro w; go_simp; try with_reducible rfl)
                        simp only [Act.put, List.setIfInBounds_toArray, List.set_cons_zero, List.set_cons_succ]
                        refine wpAnyIn_ready (rs := [15]) (by kernel_rfl) (by simp) (AllReadyIn.cons (o := { dst := some 41, op := Op.load 4 (Operand.tmp 40), type := 4, pos := "ranges.go:112", after := #[{ on := 14, ground := Ground.data }, { on := 13, ground := Ground.guard }], guard := some (13, false) }) rfl (fun K hK => ?_) AllReadyIn.nil)
                        go_simp
                        refine hK _ _ ?_
                        clear hK K
                        refine wpAnyIn_take (i := 16) (oi := { dst := some 42, op := Op.pick (Operand.tmp 39) (Operand.const (Value.bool true)) (Operand.tmp 41), type := 4, pos := "ranges.go:112", after := #[{ on := 13, ground := Ground.data }, { on := 15, ground := Ground.data }, { on := 10, ground := Ground.guard }], guard := some (10, true) }) (v := ?_) rfl rfl (by kernel_rfl) (by kernel_rfl) (by kernel_rfl) (fun _ _ _ h => h) ⟨Or.inl ⟨by rfl, ?_⟩, fun _ => rfl⟩ ?_
                        rotate_left
                        · (intro w; go_simp; try with_reducible rfl)
                        simp only [Act.put, List.setIfInBounds_toArray, List.set_cons_zero, List.set_cons_succ]
                        refine wpAnyIn_take (i := 17) (oi := { dst := some 43, op := Op.pick (Operand.tmp 36) (Operand.tmp 42) (Operand.const (Value.bool false)), type := 4, pos := "ranges.go:112", after := #[{ on := 10, ground := Ground.data }, { on := 16, ground := Ground.data }], guard := none }) (v := ?_) rfl rfl (by kernel_rfl) (by kernel_rfl) (by kernel_rfl) (fun _ _ _ h => h) ⟨Or.inl ⟨by rfl, ?_⟩, fun _ => rfl⟩ ?_
                        rotate_left
                        · (intro w; go_simp; try with_reducible rfl)
                        simp only [Act.put, List.setIfInBounds_toArray, List.set_cons_zero, List.set_cons_succ]
                        refine wpAnyIn_take (i := 18) (oi := { dst := some 44, op := Op.move (Operand.tmp 43), type := 4, pos := "ranges.go:112", after := #[{ on := 17, ground := Ground.data }, { on := 13, ground := Ground.chain }], guard := none }) (v := ?_) rfl rfl (by kernel_rfl) (by kernel_rfl) (by kernel_rfl) (fun _ _ _ h => h) ⟨Or.inl ⟨by rfl, ?_⟩, fun _ => rfl⟩ ?_
                        rotate_left
                        · (intro w; go_simp; try with_reducible rfl)
                        simp only [Act.put, List.setIfInBounds_toArray, List.set_cons_zero, List.set_cons_succ]
                        refine wpAnyIn_take (i := 19) (oi := { dst := some 45, op := Op.move (Operand.tmp 0), type := 32, pos := "ranges.go:112", after := #[{ on := 18, ground := Ground.guard }], guard := some (18, true) }) rfl rfl (by kernel_rfl) (by kernel_rfl) (by kernel_rfl) (fun _ _ _ h => h) ⟨Or.inr ⟨by rfl, rfl⟩, fun _ => rfl⟩ ?_
                        simp only [Act.put, List.setIfInBounds_toArray, List.set_cons_zero, List.set_cons_succ]
                        refine wpAnyIn_take (i := 20) (oi := { dst := some 46, op := Op.load 50 (Operand.tmp 7), type := 50, pos := "ranges.go:112", after := #[{ on := 18, ground := Ground.guard }], guard := some (18, true) }) rfl rfl (by kernel_rfl) (by kernel_rfl) (by kernel_rfl) (fun _ _ _ h => h) ⟨Or.inr ⟨by rfl, rfl⟩, fun _ => rfl⟩ ?_
                        simp only [Act.put, List.setIfInBounds_toArray, List.set_cons_zero, List.set_cons_succ]
                        refine wpAnyIn_take (i := 21) (oi := { dst := some 47, op := Op.move (Operand.tmp 5), type := 3, pos := "ranges.go:112", after := #[{ on := 18, ground := Ground.guard }], guard := some (18, true) }) rfl rfl (by kernel_rfl) (by kernel_rfl) (by kernel_rfl) (fun _ _ _ h => h) ⟨Or.inr ⟨by rfl, rfl⟩, fun _ => rfl⟩ ?_
                        simp only [Act.put, List.setIfInBounds_toArray, List.set_cons_zero, List.set_cons_succ]
                        refine wpAnyIn_ready (rs := [22]) (by kernel_rfl) (by simp) (AllReadyIn.cons (o := { dst := some 48, op := Op.call { callee := Callee.value (Operand.func 18), args := #[Operand.tmp 46, Operand.tmp 47], argTypes := #[50, 3] }, type := 29, pos := "ranges.go:112", after := #[{ on := 20, ground := Ground.data }, { on := 21, ground := Ground.data }, { on := 18, ground := Ground.chain }, { on := 18, ground := Ground.guard }], guard := some (18, true) }) rfl (fun K hK => ?_) AllReadyIn.nil)
                        go_simp
                        try refine ⟨fun _ h => (by first | trivial | cases h), ?_⟩
                        refine hK _ _ ?_
                        clear hK K
                        refine wpAnyIn_ready (rs := [23]) (by kernel_rfl) (by simp) (AllReadyIn.cons (o := { dst := some 49, op := Op.call { callee := Callee.value (Operand.tmp 45), args := #[Operand.tmp 48], argTypes := #[29] }, type := 4, pos := "ranges.go:112", after := #[{ on := 19, ground := Ground.data }, { on := 22, ground := Ground.data }, { on := 22, ground := Ground.chain }, { on := 18, ground := Ground.guard }], guard := some (18, true) }) rfl (fun K hK => ?_) AllReadyIn.nil)
                        go_simp
                        try refine ⟨fun _ h => (by first | trivial | cases h), ?_⟩
                        refine hK _ _ ?_
                        clear hK K
                        refine wpAnyIn_take (i := 24) (oi := { dst := some 50, op := Op.unOp UnOp.not 4 (Operand.tmp 49), type := 4, pos := "ranges.go:112", after := #[{ on := 23, ground := Ground.data }, { on := 18, ground := Ground.guard }], guard := some (18, true) }) rfl rfl (by kernel_rfl) (by kernel_rfl) (by kernel_rfl) (fun _ _ _ h => h) ⟨Or.inr ⟨by rfl, rfl⟩, fun _ => rfl⟩ ?_
                        simp only [Act.put, List.setIfInBounds_toArray, List.set_cons_zero, List.set_cons_succ]
                        refine wpAnyIn_take (i := 25) (oi := { dst := some 51, op := Op.pick (Operand.tmp 44) (Operand.tmp 50) (Operand.const (Value.bool false)), type := 4, pos := "ranges.go:112", after := #[{ on := 18, ground := Ground.data }, { on := 24, ground := Ground.data }], guard := none }) (v := ?_) rfl rfl (by kernel_rfl) (by kernel_rfl) (by kernel_rfl) (fun _ _ _ h => h) ⟨Or.inl ⟨by rfl, ?_⟩, fun _ => rfl⟩ ?_
                        rotate_left
                        · (intro w; go_simp; try with_reducible rfl)
                        simp only [Act.put, List.setIfInBounds_toArray, List.set_cons_zero, List.set_cons_succ]
                        refine wpAnyIn_done (by kernel_rfl) ?_ _
                        have hbf : Below W1.heap.size W1 w8 := by assumption
                        have HJ5 := Lib.hid (show J (ext B1 W1 w8) (posC G l k en (j + 1)) w8 by have h1 := HX.out _ _ _ _ HJ1.out hbf; rw [HNX.out]; exact h1)
                        have HB5 := Lib.hid (show ext B1 W1 w8 gb from .inl HB1.out)
                        have HG5 := Lib.hid ((hbf.block gb (by have h1 := HG1.out; rw [Array.getElem?_eq_getElem (HR4.out.1.lt _ rfl).2] at h1; exact (Array.getElem?_eq_some_iff.1 h1).1)).trans HG1.out)
                        gi_wp2
                        go_roundw
                        case rel => exact ⟨j + 1, by have := HLT2.out; omega, by go_num, _, HJ5, HB5, HG5⟩
                        case measure => simp [RowKit.intOf]; have := HLT2.out; omega
                  · refine wpIn_region_any hmx ?_
                    have hbw : Below W1.heap.size W1 W1.drew := below_drew hb0
                    change wpAnyIn _ _ _ _ _ _ _ _ _ W1.drew
                    generalize W1.drew = Wd at hbw ⊢
                    clear hb0
                    simp only [List.size_toArray, List.length_cons, List.length_nil, Nat.reduceAdd]
                    refine wpAnyIn_take (i := 0) (oi := { dst := some 26, op := Op.move (Operand.tmp 5), type := 3, pos := "ranges.go:112", after := #[], guard := none }) (v := ?_) rfl rfl (by kernel_rfl) (by kernel_rfl) (by kernel_rfl) (fun _ _ _ h => h) ⟨Or.inl ⟨by rfl, ?_⟩, fun _ => rfl⟩ ?_
                    rotate_left
                    · (intro w; go_simp; try with_reducible rfl)
                    simp only [Act.put, List.setIfInBounds_toArray, List.set_cons_zero, List.set_cons_succ]
                    refine wpAnyIn_take (i := 1) (oi := { dst := some 27, op := Op.fieldAddr 29 (Operand.tmp 2) 0, type := 0, pos := "ranges.go:112", after := #[], guard := none }) (v := ?_) rfl rfl (by kernel_rfl) (by kernel_rfl) (by kernel_rfl) (fun _ _ _ h => h) ⟨Or.inl ⟨by rfl, ?_⟩, fun _ => rfl⟩ ?_
                    rotate_left
                    · (intro w; go_simp; try with_reducible rfl)
                    simp only [Act.put, List.setIfInBounds_toArray, List.set_cons_zero, List.set_cons_succ]
                    refine wpAnyIn_ready (rs := [2]) (by kernel_rfl) (by simp) (AllReadyIn.cons (o := { dst := some 28, op := Op.load 3 (Operand.tmp 27), type := 3, pos := "ranges.go:112", after := #[{ on := 1, ground := Ground.data }], guard := none }) rfl (fun K hK => ?_) AllReadyIn.nil)
                    go_simp
                    refine hK _ _ ?_
                    clear hK K
                    refine wpAnyIn_take (i := 3) (oi := { dst := some 29, op := Op.binOp BinOp.neq 3 (Operand.tmp 26) (Operand.tmp 28) 3, type := 4, pos := "ranges.go:112", after := #[{ on := 0, ground := Ground.data }, { on := 2, ground := Ground.data }], guard := none }) (v := .bool true) rfl rfl (by kernel_rfl) (by kernel_rfl) (by kernel_rfl) (fun _ _ _ h => h) ⟨Or.inl ⟨by rfl, ?_⟩, fun _ => rfl⟩ ?_
                    · (intro w; go_simp)
                    simp only [Act.put, List.setIfInBounds_toArray, List.set_cons_zero, List.set_cons_succ]
                    refine wpAnyIn_take (i := 4) (oi := { dst := some 30, op := Op.move (Operand.tmp 29), type := 4, pos := "ranges.go:112", after := #[{ on := 3, ground := Ground.data }], guard := none }) (v := ?_) rfl rfl (by kernel_rfl) (by kernel_rfl) (by kernel_rfl) (fun _ _ _ h => h) ⟨Or.inl ⟨by rfl, ?_⟩, fun _ => rfl⟩ ?_
                    rotate_left
                    · (intro w; go_simp; try with_reducible rfl)
                    simp only [Act.put, List.setIfInBounds_toArray, List.set_cons_zero, List.set_cons_succ]
                    refine wpAnyIn_ready (rs := [5, 6]) (by kernel_rfl) (by simp) (AllReadyIn.cons (o := { dst := some 31, op := Op.load 50 (Operand.tmp 7), type := 50, pos := "ranges.go:112", after := #[{ on := 4, ground := Ground.guard }], guard := some (4, true) }) rfl (fun K hK => ?_) (AllReadyIn.cons (o := { dst := some 32, op := Op.load 29 (Operand.tmp 2), type := 29, pos := "ranges.go:112", after := #[{ on := 4, ground := Ground.guard }], guard := some (4, true) }) rfl (fun K hK => ?_) AllReadyIn.nil))
                    · go_simp
                      refine hK _ _ ?_
                      clear hK K
                      refine wpAnyIn_ready (rs := [6]) (by kernel_rfl) (by simp) (AllReadyIn.cons (o := { dst := some 32, op := Op.load 29 (Operand.tmp 2), type := 29, pos := "ranges.go:112", after := #[{ on := 4, ground := Ground.guard }], guard := some (4, true) }) rfl (fun K hK => ?_) AllReadyIn.nil)
                      go_simp
                      refine hK _ _ ?_
                      clear hK K
                      refine wpAnyIn_ready (rs := [7]) (by kernel_rfl) (by simp) (AllReadyIn.cons (o := { dst := some 33, op := Op.call { callee := Callee.value (Operand.func 44), args := #[Operand.tmp 32], argTypes := #[29] }, type := 50, pos := "ranges.go:112", after := #[{ on := 6, ground := Ground.data }, { on := 4, ground := Ground.chain }, { on := 4, ground := Ground.guard }], guard := some (4, true) }) rfl (fun K hK => ?_) AllReadyIn.nil)
                      go_simp
                      refine ((callsIn_wide (n := m - 1)).2 (HSP.out _)).mono ?_
                      rintro e w7 ⟨rfl, hb7⟩
                      dsimp only
                      have hbx7 := below_step (by assumption) hb7
                      clear hb7
                      refine hK _ _ ?_
                      clear hK K
                      refine wpAnyIn_ready (rs := [8]) (by kernel_rfl) (by simp) (AllReadyIn.cons (o := { dst := some 34, op := Op.call { callee := Callee.value (Operand.func 64), args := #[Operand.tmp 31, Operand.tmp 33], argTypes := #[50, 50] }, type := 4, pos := "ranges.go:112", after := #[{ on := 5, ground := Ground.data }, { on := 7, ground := Ground.data }, { on := 7, ground := Ground.chain }, { on := 4, ground := Ground.guard }], guard := some (4, true) }) rfl (fun K hK => ?_) AllReadyIn.nil)
                      go_simp
                      refine ((callsIn_wide (n := m - 1)).2 (HOV.out _)).mono ?_
                      rintro e w8 ⟨rfl, hb8⟩
                      dsimp only
                      have hbx8 := below_step (by assumption) hb8
                      clear hb8
                      refine hK _ _ ?_
                      clear hK K
                      refine wpAnyIn_take (i := 9) (oi := { dst := some 35, op := Op.pick (Operand.tmp 30) (Operand.tmp 34) (Operand.const (Value.bool false)), type := 4, pos := "ranges.go:112", after := #[{ on := 4, ground := Ground.data }, { on := 8, ground := Ground.data }], guard := none }) (v := ?_) rfl rfl (by kernel_rfl) (by kernel_rfl) (by kernel_rfl) (fun _ _ _ h => h) ⟨Or.inl ⟨by rfl, ?_⟩, fun _ => rfl⟩ ?_
                      rotate_left
                      · (intro w; go_simp; try with_reducible rfl)
                      simp only [Act.put, List.setIfInBounds_toArray, List.set_cons_zero, List.set_cons_succ]
                      refine wpAnyIn_take (i := 10) (oi := { dst := some 36, op := Op.move (Operand.tmp 35), type := 4, pos := "ranges.go:112", after := #[{ on := 9, ground := Ground.data }, { on := 8, ground := Ground.chain }], guard := none }) (v := ?_) rfl rfl (by kernel_rfl) (by kernel_rfl) (by kernel_rfl) (fun _ _ _ h => h) ⟨Or.inl ⟨by rfl, ?_⟩, fun _ => rfl⟩ ?_
                      rotate_left
                      · (intro w; go_simp; try with_reducible rfl)
                      simp only [Act.put, List.setIfInBounds_toArray, List.set_cons_zero, List.set_cons_succ]
                      refine wpAnyIn_take (i := 11) (oi := { dst := some 37, op := Op.fieldAddr 50 (Operand.tmp 7) 2, type := 0, pos := "ranges.go:112", after := #[{ on := 10, ground := Ground.guard }], guard := some (10, true) }) (v := ?_) rfl rfl (by kernel_rfl) (by kernel_rfl) (by kernel_rfl) (fun _ _ _ h => h) ⟨Or.inl ⟨by rfl, ?_⟩, fun _ => rfl⟩ ?_
                      rotate_left
                      · (intro w; go_simp; try with_reducible rfl)
                      simp only [Act.put, List.setIfInBounds_toArray, List.set_cons_zero, List.set_cons_succ]
                      refine wpAnyIn_ready (rs := [12]) (by kernel_rfl) (by simp) (AllReadyIn.cons (o := { dst := some 38, op := Op.load 4 (Operand.tmp 37), type := 4, pos := "ranges.go:112", after := #[{ on := 11, ground := Ground.data }, { on := 10, ground := Ground.guard }], guard := some (10, true) }) rfl (fun K hK => ?_) AllReadyIn.nil)
                      go_simp
                      refine hK _ _ ?_
                      clear hK K
                      refine wpAnyIn_take (i := 13) (oi := { dst := some 39, op := Op.move (Operand.tmp 38), type := 4, pos := "ranges.go:112", after := #[{ on := 12, ground := Ground.data }, { on := 10, ground := Ground.chain }, { on := 10, ground := Ground.guard }], guard := some (10, true) }) (v := ?_) rfl rfl (by kernel_rfl) (by kernel_rfl) (by kernel_rfl) (fun _ _ _ h => h) ⟨Or.inl ⟨by rfl, ?_⟩, fun _ => rfl⟩ ?_
                      rotate_left
                      · (intro w; go_simp; try with_reducible rfl)
                      simp only [Act.put, List.setIfInBounds_toArray, List.set_cons_zero, List.set_cons_succ]
                      refine wpAnyIn_take (i := 14) (oi := { dst := some 40, op := Op.fieldAddr 29 (Operand.tmp 2) 3, type := 0, pos := "ranges.go:112", after := #[{ on := 13, ground := Ground.guard }], guard := some (13, false) }) (v := ?_) rfl rfl (by kernel_rfl) (by kernel_rfl) (by kernel_rfl) (fun _ _ _ h => h) ⟨Or.inl ⟨by rfl, ?_⟩, fun _ => rfl⟩ ?_
                      rotate_left
                      · (intro w; go_simp; try with_reducible rfl)
                      simp only [Act.put, List.setIfInBounds_toArray, List.set_cons_zero, List.set_cons_succ]
                      refine wpAnyIn_ready (rs := [15]) (by kernel_rfl) (by simp) (AllReadyIn.cons (o := { dst := some 41, op := Op.load 4 (Operand.tmp 40), type := 4, pos := "ranges.go:112", after := #[{ on := 14, ground := Ground.data }, { on := 13, ground := Ground.guard }], guard := some (13, false) }) rfl (fun K hK => ?_) AllReadyIn.nil)
                      go_simp
                      refine hK _ _ ?_
                      clear hK K
                      refine wpAnyIn_take (i := 16) (oi := { dst := some 42, op := Op.pick (Operand.tmp 39) (Operand.const (Value.bool true)) (Operand.tmp 41), type := 4, pos := "ranges.go:112", after := #[{ on := 13, ground := Ground.data }, { on := 15, ground := Ground.data }, { on := 10, ground := Ground.guard }], guard := some (10, true) }) (v := ?_) rfl rfl (by kernel_rfl) (by kernel_rfl) (by kernel_rfl) (fun _ _ _ h => h) ⟨Or.inl ⟨by rfl, ?_⟩, fun _ => rfl⟩ ?_
                      rotate_left
                      · (intro w; go_simp; try with_reducible rfl)
                      simp only [Act.put, List.setIfInBounds_toArray, List.set_cons_zero, List.set_cons_succ]
                      refine wpAnyIn_take (i := 17) (oi := { dst := some 43, op := Op.pick (Operand.tmp 36) (Operand.tmp 42) (Operand.const (Value.bool false)), type := 4, pos := "ranges.go:112", after := #[{ on := 10, ground := Ground.data }, { on := 16, ground := Ground.data }], guard := none }) (v := ?_) rfl rfl (by kernel_rfl) (by kernel_rfl) (by kernel_rfl) (fun _ _ _ h => h) ⟨Or.inl ⟨by rfl, ?_⟩, fun _ => rfl⟩ ?_
                      rotate_left
                      · (intro w; go_simp; try with_reducible rfl)
                      simp only [Act.put, List.setIfInBounds_toArray, List.set_cons_zero, List.set_cons_succ]
                      refine wpAnyIn_take (i := 18) (oi := { dst := some 44, op := Op.move (Operand.tmp 43), type := 4, pos := "ranges.go:112", after := #[{ on := 17, ground := Ground.data }, { on := 13, ground := Ground.chain }], guard := none }) (v := ?_) rfl rfl (by kernel_rfl) (by kernel_rfl) (by kernel_rfl) (fun _ _ _ h => h) ⟨Or.inl ⟨by rfl, ?_⟩, fun _ => rfl⟩ ?_
                      rotate_left
                      · (intro w; go_simp; try with_reducible rfl)
                      simp only [Act.put, List.setIfInBounds_toArray, List.set_cons_zero, List.set_cons_succ]
                      refine wpAnyIn_take (i := 19) (oi := { dst := some 45, op := Op.move (Operand.tmp 0), type := 32, pos := "ranges.go:112", after := #[{ on := 18, ground := Ground.guard }], guard := some (18, true) }) (v := ?_) rfl rfl (by kernel_rfl) (by kernel_rfl) (by kernel_rfl) (fun _ _ _ h => h) ⟨Or.inl ⟨by rfl, ?_⟩, fun _ => rfl⟩ ?_
                      rotate_left
                      · (intro w; go_simp; try with_reducible rfl)
                      simp only [Act.put, List.setIfInBounds_toArray, List.set_cons_zero, List.set_cons_succ]
                      refine wpAnyIn_take (i := 21) (oi := { dst := some 47, op := Op.move (Operand.tmp 5), type := 3, pos := "ranges.go:112", after := #[{ on := 18, ground := Ground.guard }], guard := some (18, true) }) (v := ?_) rfl rfl (by kernel_rfl) (by kernel_rfl) (by kernel_rfl) (fun _ _ _ h => h) ⟨Or.inl ⟨by rfl, ?_⟩, fun _ => rfl⟩ ?_
                      rotate_left
                      · (intro w; go_simp; try with_reducible rfl)
                      simp only [Act.put, List.setIfInBounds_toArray, List.set_cons_zero, List.set_cons_succ]
                      refine wpAnyIn_ready (rs := [20]) (by kernel_rfl) (by simp) (AllReadyIn.cons (o := { dst := some 46, op := Op.load 50 (Operand.tmp 7), type := 50, pos := "ranges.go:112", after := #[{ on := 18, ground := Ground.guard }], guard := some (18, true) }) rfl (fun K hK => ?_) AllReadyIn.nil)
                      go_simp
                      refine hK _ _ ?_
                      clear hK K
                      refine wpAnyIn_ready (rs := [22]) (by kernel_rfl) (by simp) (AllReadyIn.cons (o := { dst := some 48, op := Op.call { callee := Callee.value (Operand.func 18), args := #[Operand.tmp 46, Operand.tmp 47], argTypes := #[50, 3] }, type := 29, pos := "ranges.go:112", after := #[{ on := 20, ground := Ground.data }, { on := 21, ground := Ground.data }, { on := 18, ground := Ground.chain }, { on := 18, ground := Ground.guard }], guard := some (18, true) }) rfl (fun K hK => ?_) AllReadyIn.nil)
                      go_simp
                      refine ((callsIn_wide (n := m - 1)).2 (HLK.out _)).mono ?_
                      rintro e w22 ⟨rfl, hb22⟩
                      dsimp only
                      have hbx22 := below_step (by assumption) hb22
                      clear hb22
                      obtain ⟨hlt3, henc3⟩ := HP.out rfl
                      obtain ⟨fn, tmps, assign, body, hy, hR⟩ := HY.out _ _ _ hlt3 (HX.out _ _ _ _ HJ1.out hbx22)
                      rw [henc3] at hy
                      have HR := Lib.hid hR
                      have HB22 := Lib.hid hbx22
                      clear hR hlt3 henc3
                      refine hK _ _ ?_
                      clear hK K
                      refine wpAnyIn_ready (rs := [23]) (by kernel_rfl) (by simp) (AllReadyIn.cons (o := { dst := some 49, op := Op.call { callee := Callee.value (Operand.tmp 45), args := #[Operand.tmp 48], argTypes := #[29] }, type := 4, pos := "ranges.go:112", after := #[{ on := 19, ground := Ground.data }, { on := 22, ground := Ground.data }, { on := 22, ground := Ground.chain }, { on := 18, ground := Ground.guard }], guard := some (18, true) }) rfl (fun K hK => ?_) AllReadyIn.nil)
                      go_simp
                      refine HR.out.mono ?_
                      rintro e w23 hq
                      obtain ⟨bb, rfl, hq2⟩ : ∃ b, e = .returned (.bool b) ∧ bPost (fun W' => J (ext B1 W1 w22) (posC G l k en j + 1) W' ∧ SameOn (ext B1 W1 w22) w22 W') Jx b w23 := by rcases hq with ⟨h1, h2⟩ | ⟨h1, h2⟩; exact ⟨true, h1, h2⟩; exact ⟨false, h1, h2⟩
                      dsimp only
                      clear hq
                      refine hK _ _ ?_
                      clear hK K
                      refine wpAnyIn_take (i := 24) (oi := { dst := some 50, op := Op.unOp UnOp.not 4 (Operand.tmp 49), type := 4, pos := "ranges.go:112", after := #[{ on := 23, ground := Ground.data }, { on := 18, ground := Ground.guard }], guard := some (18, true) }) (v := ?_) rfl rfl (by kernel_rfl) (by kernel_rfl) (by kernel_rfl) (fun _ _ _ h => h) ⟨Or.inl ⟨by rfl, ?_⟩, fun _ => rfl⟩ ?_
                      rotate_left
                      · (intro w; go_simp; try with_reducible rfl)
                      simp only [Act.put, List.setIfInBounds_toArray, List.set_cons_zero, List.set_cons_succ]
                      refine wpAnyIn_take (i := 25) (oi := { dst := some 51, op := Op.pick (Operand.tmp 44) (Operand.tmp 50) (Operand.const (Value.bool false)), type := 4, pos := "ranges.go:112", after := #[{ on := 18, ground := Ground.data }, { on := 24, ground := Ground.data }], guard := none }) (v := ?_) rfl rfl (by kernel_rfl) (by kernel_rfl) (by kernel_rfl) (fun _ _ _ h => h) ⟨Or.inl ⟨by rfl, ?_⟩, fun _ => rfl⟩ ?_
                      rotate_left
                      · (intro w; go_simp; try with_reducible rfl)
                      simp only [Act.put, List.setIfInBounds_toArray, List.set_cons_zero, List.set_cons_succ]
                      refine wpAnyIn_done (by kernel_rfl) ?_ _
                      cases bb
                      · gi_wp2
                        (try simp only [Exit.inBlock, Exit.then])
                        refine bodyPost_ret (results_none rfl _ _ _) rfl ?_
                        exact ⟨⟨_, rfl⟩, .inr hq2⟩
                      · have HJ5 := Lib.hid (show J (ext B1 W1 w22) (posC G l k en (j + 1)) w23 by rw [HNX.out]; exact hq2.1)
                        have HB5 := Lib.hid (show ext B1 W1 w22 gb from .inl HB1.out)
                        have HG5 := Lib.hid ((hq2.2 gb (.inl HB1.out)).trans ((HB22.out.block gb (by have h1 := HG1.out; rw [Array.getElem?_eq_getElem (HR4.out.1.lt _ rfl).2] at h1; exact (Array.getElem?_eq_some_iff.1 h1).1)).trans HG1.out))
                        clear hq2
                        gi_wp2
                        go_roundw
                        case rel => exact ⟨j + 1, by have := HLT2.out; omega, by go_num, _, HJ5, HB5, HG5⟩
                        case measure => simp [RowKit.intOf]; have := HLT2.out; omega
                    · go_simp
                      refine hK _ _ ?_
                      clear hK K
                      refine wpAnyIn_ready (rs := [5, 7]) (by kernel_rfl) (by simp) (AllReadyIn.cons (o := { dst := some 31, op := Op.load 50 (Operand.tmp 7), type := 50, pos := "ranges.go:112", after := #[{ on := 4, ground := Ground.guard }], guard := some (4, true) }) rfl (fun K hK => ?_) (AllReadyIn.cons (o := { dst := some 33, op := Op.call { callee := Callee.value (Operand.func 44), args := #[Operand.tmp 32], argTypes := #[29] }, type := 50, pos := "ranges.go:112", after := #[{ on := 6, ground := Ground.data }, { on := 4, ground := Ground.chain }, { on := 4, ground := Ground.guard }], guard := some (4, true) }) rfl (fun K hK => ?_) AllReadyIn.nil))
                      · go_simp
                        refine hK _ _ ?_
                        clear hK K
                        refine wpAnyIn_ready (rs := [7]) (by kernel_rfl) (by simp) (AllReadyIn.cons (o := { dst := some 33, op := Op.call { callee := Callee.value (Operand.func 44), args := #[Operand.tmp 32], argTypes := #[29] }, type := 50, pos := "ranges.go:112", after := #[{ on := 6, ground := Ground.data }, { on := 4, ground := Ground.chain }, { on := 4, ground := Ground.guard }], guard := some (4, true) }) rfl (fun K hK => ?_) AllReadyIn.nil)
                        go_simp
                        refine ((callsIn_wide (n := m - 1)).2 (HSP.out _)).mono ?_
                        rintro e w7 ⟨rfl, hb7⟩
                        dsimp only
                        have hbx7 := below_step (by assumption) hb7
                        clear hb7
                        refine hK _ _ ?_
                        clear hK K
                        refine wpAnyIn_ready (rs := [8]) (by kernel_rfl) (by simp) (AllReadyIn.cons (o := { dst := some 34, op := Op.call { callee := Callee.value (Operand.func 64), args := #[Operand.tmp 31, Operand.tmp 33], argTypes := #[50, 50] }, type := 4, pos := "ranges.go:112", after := #[{ on := 5, ground := Ground.data }, { on := 7, ground := Ground.data }, { on := 7, ground := Ground.chain }, { on := 4, ground := Ground.guard }], guard := some (4, true) }) rfl (fun K hK => ?_) AllReadyIn.nil)
                        go_simp
                        refine ((callsIn_wide (n := m - 1)).2 (HOV.out _)).mono ?_
                        rintro e w8 ⟨rfl, hb8⟩
                        dsimp only
                        have hbx8 := below_step (by assumption) hb8
                        clear hb8
                        refine hK _ _ ?_
                        clear hK K
                        refine wpAnyIn_take (i := 9) (oi := { dst := some 35, op := Op.pick (Operand.tmp 30) (Operand.tmp 34) (Operand.const (Value.bool false)), type := 4, pos := "ranges.go:112", after := #[{ on := 4, ground := Ground.data }, { on := 8, ground := Ground.data }], guard := none }) (v := ?_) rfl rfl (by kernel_rfl) (by kernel_rfl) (by kernel_rfl) (fun _ _ _ h => h) ⟨Or.inl ⟨by rfl, ?_⟩, fun _ => rfl⟩ ?_
                        rotate_left
                        · (intro w; go_simp; try with_reducible rfl)
                        simp only [Act.put, List.setIfInBounds_toArray, List.set_cons_zero, List.set_cons_succ]
                        refine wpAnyIn_take (i := 10) (oi := { dst := some 36, op := Op.move (Operand.tmp 35), type := 4, pos := "ranges.go:112", after := #[{ on := 9, ground := Ground.data }, { on := 8, ground := Ground.chain }], guard := none }) (v := ?_) rfl rfl (by kernel_rfl) (by kernel_rfl) (by kernel_rfl) (fun _ _ _ h => h) ⟨Or.inl ⟨by rfl, ?_⟩, fun _ => rfl⟩ ?_
                        rotate_left
                        · (intro w; go_simp; try with_reducible rfl)
                        simp only [Act.put, List.setIfInBounds_toArray, List.set_cons_zero, List.set_cons_succ]
                        refine wpAnyIn_take (i := 11) (oi := { dst := some 37, op := Op.fieldAddr 50 (Operand.tmp 7) 2, type := 0, pos := "ranges.go:112", after := #[{ on := 10, ground := Ground.guard }], guard := some (10, true) }) (v := ?_) rfl rfl (by kernel_rfl) (by kernel_rfl) (by kernel_rfl) (fun _ _ _ h => h) ⟨Or.inl ⟨by rfl, ?_⟩, fun _ => rfl⟩ ?_
                        rotate_left
                        · (intro w; go_simp; try with_reducible rfl)
                        simp only [Act.put, List.setIfInBounds_toArray, List.set_cons_zero, List.set_cons_succ]
                        refine wpAnyIn_ready (rs := [12]) (by kernel_rfl) (by simp) (AllReadyIn.cons (o := { dst := some 38, op := Op.load 4 (Operand.tmp 37), type := 4, pos := "ranges.go:112", after := #[{ on := 11, ground := Ground.data }, { on := 10, ground := Ground.guard }], guard := some (10, true) }) rfl (fun K hK => ?_) AllReadyIn.nil)
                        go_simp
                        refine hK _ _ ?_
                        clear hK K
                        refine wpAnyIn_take (i := 13) (oi := { dst := some 39, op := Op.move (Operand.tmp 38), type := 4, pos := "ranges.go:112", after := #[{ on := 12, ground := Ground.data }, { on := 10, ground := Ground.chain }, { on := 10, ground := Ground.guard }], guard := some (10, true) }) (v := ?_) rfl rfl (by kernel_rfl) (by kernel_rfl) (by kernel_rfl) (fun _ _ _ h => h) ⟨Or.inl ⟨by rfl, ?_⟩, fun _ => rfl⟩ ?_
                        rotate_left
                        · (intro w; go_simp; try with_reducible rfl)
                        simp only [Act.put, List.setIfInBounds_toArray, List.set_cons_zero, List.set_cons_succ]
                        refine wpAnyIn_take (i := 14) (oi := { dst := some 40, op := Op.fieldAddr 29 (Operand.tmp 2) 3, type := 0, pos := "ranges.go:112", after := #[{ on := 13, ground := Ground.guard }], guard := some (13, false) }) (v := ?_) rfl rfl (by kernel_rfl) (by kernel_rfl) (by kernel_rfl) (fun _ _ _ h => h) ⟨Or.inl ⟨by rfl, ?_⟩, fun _ => rfl⟩ ?_
                        rotate_left
                        · (intro w; go_simp; try with_reducible rfl)
                        simp only [Act.put, List.setIfInBounds_toArray, List.set_cons_zero, List.set_cons_succ]
                        refine wpAnyIn_ready (rs := [15]) (by kernel_rfl) (by simp) (AllReadyIn.cons (o := { dst := some 41, op := Op.load 4 (Operand.tmp 40), type := 4, pos := "ranges.go:112", after := #[{ on := 14, ground := Ground.data }, { on := 13, ground := Ground.guard }], guard := some (13, false) }) rfl (fun K hK => ?_) AllReadyIn.nil)
                        go_simp
                        refine hK _ _ ?_
                        clear hK K
                        refine wpAnyIn_take (i := 16) (oi := { dst := some 42, op := Op.pick (Operand.tmp 39) (Operand.const (Value.bool true)) (Operand.tmp 41), type := 4, pos := "ranges.go:112", after := #[{ on := 13, ground := Ground.data }, { on := 15, ground := Ground.data }, { on := 10, ground := Ground.guard }], guard := some (10, true) }) (v := ?_) rfl rfl (by kernel_rfl) (by kernel_rfl) (by kernel_rfl) (fun _ _ _ h => h) ⟨Or.inl ⟨by rfl, ?_⟩, fun _ => rfl⟩ ?_
                        rotate_left
                        · (intro w; go_simp; try with_reducible rfl)
                        simp only [Act.put, List.setIfInBounds_toArray, List.set_cons_zero, List.set_cons_succ]
                        refine wpAnyIn_take (i := 17) (oi := { dst := some 43, op := Op.pick (Operand.tmp 36) (Operand.tmp 42) (Operand.const (Value.bool false)), type := 4, pos := "ranges.go:112", after := #[{ on := 10, ground := Ground.data }, { on := 16, ground := Ground.data }], guard := none }) (v := ?_) rfl rfl (by kernel_rfl) (by kernel_rfl) (by kernel_rfl) (fun _ _ _ h => h) ⟨Or.inl ⟨by rfl, ?_⟩, fun _ => rfl⟩ ?_
                        rotate_left
                        · (intro w; go_simp; try with_reducible rfl)
                        simp only [Act.put, List.setIfInBounds_toArray, List.set_cons_zero, List.set_cons_succ]
                        refine wpAnyIn_take (i := 18) (oi := { dst := some 44, op := Op.move (Operand.tmp 43), type := 4, pos := "ranges.go:112", after := #[{ on := 17, ground := Ground.data }, { on := 13, ground := Ground.chain }], guard := none }) (v := ?_) rfl rfl (by kernel_rfl) (by kernel_rfl) (by kernel_rfl) (fun _ _ _ h => h) ⟨Or.inl ⟨by rfl, ?_⟩, fun _ => rfl⟩ ?_
                        rotate_left
                        · (intro w; go_simp; try with_reducible rfl)
                        simp only [Act.put, List.setIfInBounds_toArray, List.set_cons_zero, List.set_cons_succ]
                        refine wpAnyIn_take (i := 19) (oi := { dst := some 45, op := Op.move (Operand.tmp 0), type := 32, pos := "ranges.go:112", after := #[{ on := 18, ground := Ground.guard }], guard := some (18, true) }) (v := ?_) rfl rfl (by kernel_rfl) (by kernel_rfl) (by kernel_rfl) (fun _ _ _ h => h) ⟨Or.inl ⟨by rfl, ?_⟩, fun _ => rfl⟩ ?_
                        rotate_left
                        · (intro w; go_simp; try with_reducible rfl)
                        simp only [Act.put, List.setIfInBounds_toArray, List.set_cons_zero, List.set_cons_succ]
                        refine wpAnyIn_take (i := 21) (oi := { dst := some 47, op := Op.move (Operand.tmp 5), type := 3, pos := "ranges.go:112", after := #[{ on := 18, ground := Ground.guard }], guard := some (18, true) }) (v := ?_) rfl rfl (by kernel_rfl) (by kernel_rfl) (by kernel_rfl) (fun _ _ _ h => h) ⟨Or.inl ⟨by rfl, ?_⟩, fun _ => rfl⟩ ?_
                        rotate_left
                        · (intro w; go_simp; try with_reducible rfl)
                        simp only [Act.put, List.setIfInBounds_toArray, List.set_cons_zero, List.set_cons_succ]
                        refine wpAnyIn_ready (rs := [20]) (by kernel_rfl) (by simp) (AllReadyIn.cons (o := { dst := some 46, op := Op.load 50 (Operand.tmp 7), type := 50, pos := "ranges.go:112", after := #[{ on := 18, ground := Ground.guard }], guard := some (18, true) }) rfl (fun K hK => ?_) AllReadyIn.nil)
                        go_simp
                        refine hK _ _ ?_
                        clear hK K
                        refine wpAnyIn_ready (rs := [22]) (by kernel_rfl) (by simp) (AllReadyIn.cons (o := { dst := some 48, op := Op.call { callee := Callee.value (Operand.func 18), args := #[Operand.tmp 46, Operand.tmp 47], argTypes := #[50, 3] }, type := 29, pos := "ranges.go:112", after := #[{ on := 20, ground := Ground.data }, { on := 21, ground := Ground.data }, { on := 18, ground := Ground.chain }, { on := 18, ground := Ground.guard }], guard := some (18, true) }) rfl (fun K hK => ?_) AllReadyIn.nil)
                        go_simp
                        refine ((callsIn_wide (n := m - 1)).2 (HLK.out _)).mono ?_
                        rintro e w22 ⟨rfl, hb22⟩
                        dsimp only
                        have hbx22 := below_step (by assumption) hb22
                        clear hb22
                        obtain ⟨hlt3, henc3⟩ := HP.out rfl
                        obtain ⟨fn, tmps, assign, body, hy, hR⟩ := HY.out _ _ _ hlt3 (HX.out _ _ _ _ HJ1.out hbx22)
                        rw [henc3] at hy
                        have HR := Lib.hid hR
                        have HB22 := Lib.hid hbx22
                        clear hR hlt3 henc3
                        refine hK _ _ ?_
                        clear hK K
                        refine wpAnyIn_ready (rs := [23]) (by kernel_rfl) (by simp) (AllReadyIn.cons (o := { dst := some 49, op := Op.call { callee := Callee.value (Operand.tmp 45), args := #[Operand.tmp 48], argTypes := #[29] }, type := 4, pos := "ranges.go:112", after := #[{ on := 19, ground := Ground.data }, { on := 22, ground := Ground.data }, { on := 22, ground := Ground.chain }, { on := 18, ground := Ground.guard }], guard := some (18, true) }) rfl (fun K hK => ?_) AllReadyIn.nil)
                        go_simp
                        refine HR.out.mono ?_
                        rintro e w23 hq
                        obtain ⟨bb, rfl, hq2⟩ : ∃ b, e = .returned (.bool b) ∧ bPost (fun W' => J (ext B1 W1 w22) (posC G l k en j + 1) W' ∧ SameOn (ext B1 W1 w22) w22 W') Jx b w23 := by rcases hq with ⟨h1, h2⟩ | ⟨h1, h2⟩; exact ⟨true, h1, h2⟩; exact ⟨false, h1, h2⟩
                        dsimp only
                        clear hq
                        refine hK _ _ ?_
                        clear hK K
                        refine wpAnyIn_take (i := 24) (oi := { dst := some 50, op := Op.unOp UnOp.not 4 (Operand.tmp 49), type := 4, pos := "ranges.go:112", after := #[{ on := 23, ground := Ground.data }, { on := 18, ground := Ground.guard }], guard := some (18, true) }) (v := ?_) rfl rfl (by kernel_rfl) (by kernel_rfl) (by kernel_rfl) (fun _ _ _ h => h) ⟨Or.inl ⟨by rfl, ?_⟩, fun _ => rfl⟩ ?_
                        rotate_left
                        · (intro w; go_simp; try with_reducible rfl)
                        simp only [Act.put, List.setIfInBounds_toArray, List.set_cons_zero, List.set_cons_succ]
                        refine wpAnyIn_take (i := 25) (oi := { dst := some 51, op := Op.pick (Operand.tmp 44) (Operand.tmp 50) (Operand.const (Value.bool false)), type := 4, pos := "ranges.go:112", after := #[{ on := 18, ground := Ground.data }, { on := 24, ground := Ground.data }], guard := none }) (v := ?_) rfl rfl (by kernel_rfl) (by kernel_rfl) (by kernel_rfl) (fun _ _ _ h => h) ⟨Or.inl ⟨by rfl, ?_⟩, fun _ => rfl⟩ ?_
                        rotate_left
                        · (intro w; go_simp; try with_reducible rfl)
                        simp only [Act.put, List.setIfInBounds_toArray, List.set_cons_zero, List.set_cons_succ]
                        refine wpAnyIn_done (by kernel_rfl) ?_ _
                        cases bb
                        · gi_wp2
                          (try simp only [Exit.inBlock, Exit.then])
                          refine bodyPost_ret (results_none rfl _ _ _) rfl ?_
                          exact ⟨⟨_, rfl⟩, .inr hq2⟩
                        · have HJ5 := Lib.hid (show J (ext B1 W1 w22) (posC G l k en (j + 1)) w23 by rw [HNX.out]; exact hq2.1)
                          have HB5 := Lib.hid (show ext B1 W1 w22 gb from .inl HB1.out)
                          have HG5 := Lib.hid ((hq2.2 gb (.inl HB1.out)).trans ((HB22.out.block gb (by have h1 := HG1.out; rw [Array.getElem?_eq_getElem (HR4.out.1.lt _ rfl).2] at h1; exact (Array.getElem?_eq_some_iff.1 h1).1)).trans HG1.out))
                          clear hq2
                          gi_wp2
                          go_roundw
                          case rel => exact ⟨j + 1, by have := HLT2.out; omega, by go_num, _, HJ5, HB5, HG5⟩
                          case measure => simp [RowKit.intOf]; have := HLT2.out; omega
                      · go_simp
                        refine ((callsIn_wide (n := m - 1)).2 (HSP.out _)).mono ?_
                        rintro e w7 ⟨rfl, hb7⟩
                        dsimp only
                        have hbx7 := below_step (by assumption) hb7
                        clear hb7
                        refine hK _ _ ?_
                        clear hK K
                        refine wpAnyIn_ready (rs := [5]) (by kernel_rfl) (by simp) (AllReadyIn.cons (o := { dst := some 31, op := Op.load 50 (Operand.tmp 7), type := 50, pos := "ranges.go:112", after := #[{ on := 4, ground := Ground.guard }], guard := some (4, true) }) rfl (fun K hK => ?_) AllReadyIn.nil)
                        go_simp
                        refine hK _ _ ?_
                        clear hK K
                        refine wpAnyIn_ready (rs := [8]) (by kernel_rfl) (by simp) (AllReadyIn.cons (o := { dst := some 34, op := Op.call { callee := Callee.value (Operand.func 64), args := #[Operand.tmp 31, Operand.tmp 33], argTypes := #[50, 50] }, type := 4, pos := "ranges.go:112", after := #[{ on := 5, ground := Ground.data }, { on := 7, ground := Ground.data }, { on := 7, ground := Ground.chain }, { on := 4, ground := Ground.guard }], guard := some (4, true) }) rfl (fun K hK => ?_) AllReadyIn.nil)
                        go_simp
                        refine ((callsIn_wide (n := m - 1)).2 (HOV.out _)).mono ?_
                        rintro e w8 ⟨rfl, hb8⟩
                        dsimp only
                        have hbx8 := below_step (by assumption) hb8
                        clear hb8
                        refine hK _ _ ?_
                        clear hK K
                        refine wpAnyIn_take (i := 9) (oi := { dst := some 35, op := Op.pick (Operand.tmp 30) (Operand.tmp 34) (Operand.const (Value.bool false)), type := 4, pos := "ranges.go:112", after := #[{ on := 4, ground := Ground.data }, { on := 8, ground := Ground.data }], guard := none }) (v := ?_) rfl rfl (by kernel_rfl) (by kernel_rfl) (by kernel_rfl) (fun _ _ _ h => h) ⟨Or.inl ⟨by rfl, ?_⟩, fun _ => rfl⟩ ?_
                        rotate_left
                        · (intro w; go_simp; try with_reducible rfl)
                        simp only [Act.put, List.setIfInBounds_toArray, List.set_cons_zero, List.set_cons_succ]
                        refine wpAnyIn_take (i := 10) (oi := { dst := some 36, op := Op.move (Operand.tmp 35), type := 4, pos := "ranges.go:112", after := #[{ on := 9, ground := Ground.data }, { on := 8, ground := Ground.chain }], guard := none }) (v := ?_) rfl rfl (by kernel_rfl) (by kernel_rfl) (by kernel_rfl) (fun _ _ _ h => h) ⟨Or.inl ⟨by rfl, ?_⟩, fun _ => rfl⟩ ?_
                        rotate_left
                        · (intro w; go_simp; try with_reducible rfl)
                        simp only [Act.put, List.setIfInBounds_toArray, List.set_cons_zero, List.set_cons_succ]
                        refine wpAnyIn_take (i := 11) (oi := { dst := some 37, op := Op.fieldAddr 50 (Operand.tmp 7) 2, type := 0, pos := "ranges.go:112", after := #[{ on := 10, ground := Ground.guard }], guard := some (10, true) }) (v := ?_) rfl rfl (by kernel_rfl) (by kernel_rfl) (by kernel_rfl) (fun _ _ _ h => h) ⟨Or.inl ⟨by rfl, ?_⟩, fun _ => rfl⟩ ?_
                        rotate_left
                        · (intro w; go_simp; try with_reducible rfl)
                        simp only [Act.put, List.setIfInBounds_toArray, List.set_cons_zero, List.set_cons_succ]
                        refine wpAnyIn_ready (rs := [12]) (by kernel_rfl) (by simp) (AllReadyIn.cons (o := { dst := some 38, op := Op.load 4 (Operand.tmp 37), type := 4, pos := "ranges.go:112", after := #[{ on := 11, ground := Ground.data }, { on := 10, ground := Ground.guard }], guard := some (10, true) }) rfl (fun K hK => ?_) AllReadyIn.nil)
                        go_simp
                        refine hK _ _ ?_
                        clear hK K
                        refine wpAnyIn_take (i := 13) (oi := { dst := some 39, op := Op.move (Operand.tmp 38), type := 4, pos := "ranges.go:112", after := #[{ on := 12, ground := Ground.data }, { on := 10, ground := Ground.chain }, { on := 10, ground := Ground.guard }], guard := some (10, true) }) (v := ?_) rfl rfl (by kernel_rfl) (by kernel_rfl) (by kernel_rfl) (fun _ _ _ h => h) ⟨Or.inl ⟨by rfl, ?_⟩, fun _ => rfl⟩ ?_
                        rotate_left
                        · (intro w; go_simp; try with_reducible rfl)
                        simp only [Act.put, List.setIfInBounds_toArray, List.set_cons_zero, List.set_cons_succ]
                        refine wpAnyIn_take (i := 14) (oi := { dst := some 40, op := Op.fieldAddr 29 (Operand.tmp 2) 3, type := 0, pos := "ranges.go:112", after := #[{ on := 13, ground := Ground.guard }], guard := some (13, false) }) (v := ?_) rfl rfl (by kernel_rfl) (by kernel_rfl) (by kernel_rfl) (fun _ _ _ h => h) ⟨Or.inl ⟨by rfl, ?_⟩, fun _ => rfl⟩ ?_
                        rotate_left
                        · (intro w; go_simp; try with_reducible rfl)
                        simp only [Act.put, List.setIfInBounds_toArray, List.set_cons_zero, List.set_cons_succ]
                        refine wpAnyIn_ready (rs := [15]) (by kernel_rfl) (by simp) (AllReadyIn.cons (o := { dst := some 41, op := Op.load 4 (Operand.tmp 40), type := 4, pos := "ranges.go:112", after := #[{ on := 14, ground := Ground.data }, { on := 13, ground := Ground.guard }], guard := some (13, false) }) rfl (fun K hK => ?_) AllReadyIn.nil)
                        go_simp
                        refine hK _ _ ?_
                        clear hK K
                        refine wpAnyIn_take (i := 16) (oi := { dst := some 42, op := Op.pick (Operand.tmp 39) (Operand.const (Value.bool true)) (Operand.tmp 41), type := 4, pos := "ranges.go:112", after := #[{ on := 13, ground := Ground.data }, { on := 15, ground := Ground.data }, { on := 10, ground := Ground.guard }], guard := some (10, true) }) (v := ?_) rfl rfl (by kernel_rfl) (by kernel_rfl) (by kernel_rfl) (fun _ _ _ h => h) ⟨Or.inl ⟨by rfl, ?_⟩, fun _ => rfl⟩ ?_
                        rotate_left
                        · (intro w; go_simp; try with_reducible rfl)
                        simp only [Act.put, List.setIfInBounds_toArray, List.set_cons_zero, List.set_cons_succ]
                        refine wpAnyIn_take (i := 17) (oi := { dst := some 43, op := Op.pick (Operand.tmp 36) (Operand.tmp 42) (Operand.const (Value.bool false)), type := 4, pos := "ranges.go:112", after := #[{ on := 10, ground := Ground.data }, { on := 16, ground := Ground.data }], guard := none }) (v := ?_) rfl rfl (by kernel_rfl) (by kernel_rfl) (by kernel_rfl) (fun _ _ _ h => h) ⟨Or.inl ⟨by rfl, ?_⟩, fun _ => rfl⟩ ?_
                        rotate_left
                        · (intro w; go_simp; try with_reducible rfl)
                        simp only [Act.put, List.setIfInBounds_toArray, List.set_cons_zero, List.set_cons_succ]
                        refine wpAnyIn_take (i := 18) (oi := { dst := some 44, op := Op.move (Operand.tmp 43), type := 4, pos := "ranges.go:112", after := #[{ on := 17, ground := Ground.data }, { on := 13, ground := Ground.chain }], guard := none }) (v := ?_) rfl rfl (by kernel_rfl) (by kernel_rfl) (by kernel_rfl) (fun _ _ _ h => h) ⟨Or.inl ⟨by rfl, ?_⟩, fun _ => rfl⟩ ?_
                        rotate_left
                        · (intro w; go_simp; try with_reducible rfl)
                        simp only [Act.put, List.setIfInBounds_toArray, List.set_cons_zero, List.set_cons_succ]
                        refine wpAnyIn_take (i := 19) (oi := { dst := some 45, op := Op.move (Operand.tmp 0), type := 32, pos := "ranges.go:112", after := #[{ on := 18, ground := Ground.guard }], guard := some (18, true) }) (v := ?_) rfl rfl (by kernel_rfl) (by kernel_rfl) (by kernel_rfl) (fun _ _ _ h => h) ⟨Or.inl ⟨by rfl, ?_⟩, fun _ => rfl⟩ ?_
                        rotate_left
                        · (intro w; go_simp; try with_reducible rfl)
                        simp only [Act.put, List.setIfInBounds_toArray, List.set_cons_zero, List.set_cons_succ]
                        refine wpAnyIn_take (i := 21) (oi := { dst := some 47, op := Op.move (Operand.tmp 5), type := 3, pos := "ranges.go:112", after := #[{ on := 18, ground := Ground.guard }], guard := some (18, true) }) (v := ?_) rfl rfl (by kernel_rfl) (by kernel_rfl) (by kernel_rfl) (fun _ _ _ h => h) ⟨Or.inl ⟨by rfl, ?_⟩, fun _ => rfl⟩ ?_
                        rotate_left
                        · (intro w; go_simp; try with_reducible rfl)
                        simp only [Act.put, List.setIfInBounds_toArray, List.set_cons_zero, List.set_cons_succ]
                        refine wpAnyIn_ready (rs := [20]) (by kernel_rfl) (by simp) (AllReadyIn.cons (o := { dst := some 46, op := Op.load 50 (Operand.tmp 7), type := 50, pos := "ranges.go:112", after := #[{ on := 18, ground := Ground.guard }], guard := some (18, true) }) rfl (fun K hK => ?_) AllReadyIn.nil)
                        go_simp
                        refine hK _ _ ?_
                        clear hK K
                        refine wpAnyIn_ready (rs := [22]) (by kernel_rfl) (by simp) (AllReadyIn.cons (o := { dst := some 48, op := Op.call { callee := Callee.value (Operand.func 18), args := #[Operand.tmp 46, Operand.tmp 47], argTypes := #[50, 3] }, type := 29, pos := "ranges.go:112", after := #[{ on := 20, ground := Ground.data }, { on := 21, ground := Ground.data }, { on := 18, ground := Ground.chain }, { on := 18, ground := Ground.guard }], guard := some (18, true) }) rfl (fun K hK => ?_) AllReadyIn.nil)
                        go_simp
                        refine ((callsIn_wide (n := m - 1)).2 (HLK.out _)).mono ?_
                        rintro e w22 ⟨rfl, hb22⟩
                        dsimp only
                        have hbx22 := below_step (by assumption) hb22
                        clear hb22
                        obtain ⟨hlt3, henc3⟩ := HP.out rfl
                        obtain ⟨fn, tmps, assign, body, hy, hR⟩ := HY.out _ _ _ hlt3 (HX.out _ _ _ _ HJ1.out hbx22)
                        rw [henc3] at hy
                        have HR := Lib.hid hR
                        have HB22 := Lib.hid hbx22
                        clear hR hlt3 henc3
                        refine hK _ _ ?_
                        clear hK K
                        refine wpAnyIn_ready (rs := [23]) (by kernel_rfl) (by simp) (AllReadyIn.cons (o := { dst := some 49, op := Op.call { callee := Callee.value (Operand.tmp 45), args := #[Operand.tmp 48], argTypes := #[29] }, type := 4, pos := "ranges.go:112", after := #[{ on := 19, ground := Ground.data }, { on := 22, ground := Ground.data }, { on := 22, ground := Ground.chain }, { on := 18, ground := Ground.guard }], guard := some (18, true) }) rfl (fun K hK => ?_) AllReadyIn.nil)
                        go_simp
                        refine HR.out.mono ?_
                        rintro e w23 hq
                        obtain ⟨bb, rfl, hq2⟩ : ∃ b, e = .returned (.bool b) ∧ bPost (fun W' => J (ext B1 W1 w22) (posC G l k en j + 1) W' ∧ SameOn (ext B1 W1 w22) w22 W') Jx b w23 := by rcases hq with ⟨h1, h2⟩ | ⟨h1, h2⟩; exact ⟨true, h1, h2⟩; exact ⟨false, h1, h2⟩
                        dsimp only
                        clear hq
                        refine hK _ _ ?_
                        clear hK K
                        refine wpAnyIn_take (i := 24) (oi := { dst := some 50, op := Op.unOp UnOp.not 4 (Operand.tmp 49), type := 4, pos := "ranges.go:112", after := #[{ on := 23, ground := Ground.data }, { on := 18, ground := Ground.guard }], guard := some (18, true) }) (v := ?_) rfl rfl (by kernel_rfl) (by kernel_rfl) (by kernel_rfl) (fun _ _ _ h => h) ⟨Or.inl ⟨by rfl, ?_⟩, fun _ => rfl⟩ ?_
                        rotate_left
                        · (intro w; go_simp; try with_reducible rfl)
                        simp only [Act.put, List.setIfInBounds_toArray, List.set_cons_zero, List.set_cons_succ]
                        refine wpAnyIn_take (i := 25) (oi := { dst := some 51, op := Op.pick (Operand.tmp 44) (Operand.tmp 50) (Operand.const (Value.bool false)), type := 4, pos := "ranges.go:112", after := #[{ on := 18, ground := Ground.data }, { on := 24, ground := Ground.data }], guard := none }) (v := ?_) rfl rfl (by kernel_rfl) (by kernel_rfl) (by kernel_rfl) (fun _ _ _ h => h) ⟨Or.inl ⟨by rfl, ?_⟩, fun _ => rfl⟩ ?_
                        rotate_left
                        · (intro w; go_simp; try with_reducible rfl)
                        simp only [Act.put, List.setIfInBounds_toArray, List.set_cons_zero, List.set_cons_succ]
                        refine wpAnyIn_done (by kernel_rfl) ?_ _
                        cases bb
                        · gi_wp2
                          (try simp only [Exit.inBlock, Exit.then])
                          refine bodyPost_ret (results_none rfl _ _ _) rfl ?_
                          exact ⟨⟨_, rfl⟩, .inr hq2⟩
                        · have HJ5 := Lib.hid (show J (ext B1 W1 w22) (posC G l k en (j + 1)) w23 by rw [HNX.out]; exact hq2.1)
                          have HB5 := Lib.hid (show ext B1 W1 w22 gb from .inl HB1.out)
                          have HG5 := Lib.hid ((hq2.2 gb (.inl HB1.out)).trans ((HB22.out.block gb (by have h1 := HG1.out; rw [Array.getElem?_eq_getElem (HR4.out.1.lt _ rfl).2] at h1; exact (Array.getElem?_eq_some_iff.1 h1).1)).trans HG1.out))
                          clear hq2
                          gi_wp2
                          go_roundw
                          case rel => exact ⟨j + 1, by have := HLT2.out; omega, by go_num, _, HJ5, HB5, HG5⟩
                          case measure => simp [RowKit.intOf]; have := HLT2.out; omega
                · refine wpIn_region_any hmx ?_
                  have hbw : Below W1.heap.size W1 W1.drew := below_drew hb0
                  change wpAnyIn _ _ _ _ _ _ _ _ _ W1.drew
                  generalize W1.drew = Wd at hbw ⊢
                  clear hb0
                  simp only [List.size_toArray, List.length_cons, List.length_nil, Nat.reduceAdd]
                  refine wpAnyIn_take (i := 0) (oi := { dst := some 26, op := Op.move (Operand.tmp 5), type := 3, pos := "ranges.go:112", after := #[], guard := none }) (v := ?_) rfl rfl (by kernel_rfl) (by kernel_rfl) (by kernel_rfl) (fun _ _ _ h => h) ⟨Or.inl ⟨by rfl, ?_⟩, fun _ => rfl⟩ ?_
                  rotate_left
                  · (intro w; go_simp; try with_reducible rfl)
                  simp only [Act.put, List.setIfInBounds_toArray, List.set_cons_zero, List.set_cons_succ]
                  refine wpAnyIn_take (i := 1) (oi := { dst := some 27, op := Op.fieldAddr 29 (Operand.tmp 2) 0, type := 0, pos := "ranges.go:112", after := #[], guard := none }) (v := ?_) rfl rfl (by kernel_rfl) (by kernel_rfl) (by kernel_rfl) (fun _ _ _ h => h) ⟨Or.inl ⟨by rfl, ?_⟩, fun _ => rfl⟩ ?_
                  rotate_left
                  · (intro w; go_simp; try with_reducible rfl)
                  simp only [Act.put, List.setIfInBounds_toArray, List.set_cons_zero, List.set_cons_succ]
                  refine wpAnyIn_ready (rs := [2]) (by kernel_rfl) (by simp) (AllReadyIn.cons (o := { dst := some 28, op := Op.load 3 (Operand.tmp 27), type := 3, pos := "ranges.go:112", after := #[{ on := 1, ground := Ground.data }], guard := none }) rfl (fun K hK => ?_) AllReadyIn.nil)
                  go_simp
                  refine hK _ _ ?_
                  clear hK K
                  refine wpAnyIn_take (i := 3) (oi := { dst := some 29, op := Op.binOp BinOp.neq 3 (Operand.tmp 26) (Operand.tmp 28) 3, type := 4, pos := "ranges.go:112", after := #[{ on := 0, ground := Ground.data }, { on := 2, ground := Ground.data }], guard := none }) (v := .bool true) rfl rfl (by kernel_rfl) (by kernel_rfl) (by kernel_rfl) (fun _ _ _ h => h) ⟨Or.inl ⟨by rfl, ?_⟩, fun _ => rfl⟩ ?_
                  · (intro w; go_simp)
                  simp only [Act.put, List.setIfInBounds_toArray, List.set_cons_zero, List.set_cons_succ]
                  refine wpAnyIn_take (i := 4) (oi := { dst := some 30, op := Op.move (Operand.tmp 29), type := 4, pos := "ranges.go:112", after := #[{ on := 3, ground := Ground.data }], guard := none }) (v := ?_) rfl rfl (by kernel_rfl) (by kernel_rfl) (by kernel_rfl) (fun _ _ _ h => h) ⟨Or.inl ⟨by rfl, ?_⟩, fun _ => rfl⟩ ?_
                  rotate_left
                  · (intro w; go_simp; try with_reducible rfl)
                  simp only [Act.put, List.setIfInBounds_toArray, List.set_cons_zero, List.set_cons_succ]
                  refine wpAnyIn_ready (rs := [5, 6]) (by kernel_rfl) (by simp) (AllReadyIn.cons (o := { dst := some 31, op := Op.load 50 (Operand.tmp 7), type := 50, pos := "ranges.go:112", after := #[{ on := 4, ground := Ground.guard }], guard := some (4, true) }) rfl (fun K hK => ?_) (AllReadyIn.cons (o := { dst := some 32, op := Op.load 29 (Operand.tmp 2), type := 29, pos := "ranges.go:112", after := #[{ on := 4, ground := Ground.guard }], guard := some (4, true) }) rfl (fun K hK => ?_) AllReadyIn.nil))
                  · go_simp
                    refine hK _ _ ?_
                    clear hK K
                    refine wpAnyIn_ready (rs := [6]) (by kernel_rfl) (by simp) (AllReadyIn.cons (o := { dst := some 32, op := Op.load 29 (Operand.tmp 2), type := 29, pos := "ranges.go:112", after := #[{ on := 4, ground := Ground.guard }], guard := some (4, true) }) rfl (fun K hK => ?_) AllReadyIn.nil)
                    go_simp
                    refine hK _ _ ?_
                    clear hK K
                    refine wpAnyIn_ready (rs := [7]) (by kernel_rfl) (by simp) (AllReadyIn.cons (o := { dst := some 33, op := Op.call { callee := Callee.value (Operand.func 44), args := #[Operand.tmp 32], argTypes := #[29] }, type := 50, pos := "ranges.go:112", after := #[{ on := 6, ground := Ground.data }, { on := 4, ground := Ground.chain }, { on := 4, ground := Ground.guard }], guard := some (4, true) }) rfl (fun K hK => ?_) AllReadyIn.nil)
                    go_simp
                    refine ((callsIn_wide (n := m - 1)).2 (HSP.out _)).mono ?_
                    rintro e w7 ⟨rfl, hb7⟩
                    dsimp only
                    have hbx7 := below_step (by assumption) hb7
                    clear hb7
                    refine hK _ _ ?_
                    clear hK K
                    refine wpAnyIn_ready (rs := [8]) (by kernel_rfl) (by simp) (AllReadyIn.cons (o := { dst := some 34, op := Op.call { callee := Callee.value (Operand.func 64), args := #[Operand.tmp 31, Operand.tmp 33], argTypes := #[50, 50] }, type := 4, pos := "ranges.go:112", after := #[{ on := 5, ground := Ground.data }, { on := 7, ground := Ground.data }, { on := 7, ground := Ground.chain }, { on := 4, ground := Ground.guard }], guard := some (4, true) }) rfl (fun K hK => ?_) AllReadyIn.nil)
                    go_simp
                    refine ((callsIn_wide (n := m - 1)).2 (HOV.out _)).mono ?_
                    rintro e w8 ⟨rfl, hb8⟩
                    dsimp only
                    have hbx8 := below_step (by assumption) hb8
                    clear hb8
                    refine hK _ _ ?_
                    clear hK K
                    refine wpAnyIn_take (i := 9) (oi := { dst := some 35, op := Op.pick (Operand.tmp 30) (Operand.tmp 34) (Operand.const (Value.bool false)), type := 4, pos := "ranges.go:112", after := #[{ on := 4, ground := Ground.data }, { on := 8, ground := Ground.data }], guard := none }) (v := ?_) rfl rfl (by kernel_rfl) (by kernel_rfl) (by kernel_rfl) (fun _ _ _ h => h) ⟨Or.inl ⟨by rfl, ?_⟩, fun _ => rfl⟩ ?_
                    rotate_left
                    · (intro w; go_simp; try with_reducible rfl)
                    simp only [Act.put, List.setIfInBounds_toArray, List.set_cons_zero, List.set_cons_succ]
                    refine wpAnyIn_take (i := 10) (oi := { dst := some 36, op := Op.move (Operand.tmp 35), type := 4, pos := "ranges.go:112", after := #[{ on := 9, ground := Ground.data }, { on := 8, ground := Ground.chain }], guard := none }) (v := ?_) rfl rfl (by kernel_rfl) (by kernel_rfl) (by kernel_rfl) (fun _ _ _ h => h) ⟨Or.inl ⟨by rfl, ?_⟩, fun _ => rfl⟩ ?_
                    rotate_left
                    · (intro w; go_simp; try with_reducible rfl)
                    simp only [Act.put, List.setIfInBounds_toArray, List.set_cons_zero, List.set_cons_succ]
                    refine wpAnyIn_take (i := 11) (oi := { dst := some 37, op := Op.fieldAddr 50 (Operand.tmp 7) 2, type := 0, pos := "ranges.go:112", after := #[{ on := 10, ground := Ground.guard }], guard := some (10, true) }) (v := ?_) rfl rfl (by kernel_rfl) (by kernel_rfl) (by kernel_rfl) (fun _ _ _ h => h) ⟨Or.inl ⟨by rfl, ?_⟩, fun _ => rfl⟩ ?_
                    rotate_left
                    · (intro w; go_simp; try with_reducible rfl)
                    simp only [Act.put, List.setIfInBounds_toArray, List.set_cons_zero, List.set_cons_succ]
                    refine wpAnyIn_ready (rs := [12]) (by kernel_rfl) (by simp) (AllReadyIn.cons (o := { dst := some 38, op := Op.load 4 (Operand.tmp 37), type := 4, pos := "ranges.go:112", after := #[{ on := 11, ground := Ground.data }, { on := 10, ground := Ground.guard }], guard := some (10, true) }) rfl (fun K hK => ?_) AllReadyIn.nil)
                    go_simp
                    refine hK _ _ ?_
                    clear hK K
                    refine wpAnyIn_take (i := 13) (oi := { dst := some 39, op := Op.move (Operand.tmp 38), type := 4, pos := "ranges.go:112", after := #[{ on := 12, ground := Ground.data }, { on := 10, ground := Ground.chain }, { on := 10, ground := Ground.guard }], guard := some (10, true) }) (v := ?_) rfl rfl (by kernel_rfl) (by kernel_rfl) (by kernel_rfl) (fun _ _ _ h => h) ⟨Or.inl ⟨by rfl, ?_⟩, fun _ => rfl⟩ ?_
                    rotate_left
                    · (intro w; go_simp; try with_reducible rfl)
                    simp only [Act.put, List.setIfInBounds_toArray, List.set_cons_zero, List.set_cons_succ]
                    refine wpAnyIn_take (i := 14) (oi := { dst := some 40, op := Op.fieldAddr 29 (Operand.tmp 2) 3, type := 0, pos := "ranges.go:112", after := #[{ on := 13, ground := Ground.guard }], guard := some (13, false) }) rfl rfl (by kernel_rfl) (by kernel_rfl) (by kernel_rfl) (fun _ _ _ h => h) ⟨Or.inr ⟨by rfl, rfl⟩, fun _ => rfl⟩ ?_
                    simp only [Act.put, List.setIfInBounds_toArray, List.set_cons_zero, List.set_cons_succ]
                    refine wpAnyIn_take (i := 15) (oi := { dst := some 41, op := Op.load 4 (Operand.tmp 40), type := 4, pos := "ranges.go:112", after := #[{ on := 14, ground := Ground.data }, { on := 13, ground := Ground.guard }], guard := some (13, false) }) rfl rfl (by kernel_rfl) (by kernel_rfl) (by kernel_rfl) (fun _ _ _ h => h) ⟨Or.inr ⟨by rfl, rfl⟩, fun _ => rfl⟩ ?_
                    simp only [Act.put, List.setIfInBounds_toArray, List.set_cons_zero, List.set_cons_succ]
                    refine wpAnyIn_take (i := 16) (oi := { dst := some 42, op := Op.pick (Operand.tmp 39) (Operand.const (Value.bool true)) (Operand.tmp 41), type := 4, pos := "ranges.go:112", after := #[{ on := 13, ground := Ground.data }, { on := 15, ground := Ground.data }, { on := 10, ground := Ground.guard }], guard := some (10, true) }) (v := ?_) rfl rfl (by kernel_rfl) (by kernel_rfl) (by kernel_rfl) (fun _ _ _ h => h) ⟨Or.inl ⟨by rfl, ?_⟩, fun _ => rfl⟩ ?_
                    rotate_left
                    · (intro w; go_simp; try with_reducible rfl)
                    simp only [Act.put, List.setIfInBounds_toArray, List.set_cons_zero, List.set_cons_succ]
                    refine wpAnyIn_take (i := 17) (oi := { dst := some 43, op := Op.pick (Operand.tmp 36) (Operand.tmp 42) (Operand.const (Value.bool false)), type := 4, pos := "ranges.go:112", after := #[{ on := 10, ground := Ground.data }, { on := 16, ground := Ground.data }], guard := none }) (v := ?_) rfl rfl (by kernel_rfl) (by kernel_rfl) (by kernel_rfl) (fun _ _ _ h => h) ⟨Or.inl ⟨by rfl, ?_⟩, fun _ => rfl⟩ ?_
                    rotate_left
                    · (intro w; go_simp; try with_reducible rfl)
                    simp only [Act.put, List.setIfInBounds_toArray, List.set_cons_zero, List.set_cons_succ]
                    refine wpAnyIn_take (i := 18) (oi := { dst := some 44, op := Op.move (Operand.tmp 43), type := 4, pos := "ranges.go:112", after := #[{ on := 17, ground := Ground.data }, { on := 13, ground := Ground.chain }], guard := none }) (v := ?_) rfl rfl (by kernel_rfl) (by kernel_rfl) (by kernel_rfl) (fun _ _ _ h => h) ⟨Or.inl ⟨by rfl, ?_⟩, fun _ => rfl⟩ ?_
                    rotate_left
                    · (intro w; go_simp; try with_reducible rfl)
                    simp only [Act.put, List.setIfInBounds_toArray, List.set_cons_zero, List.set_cons_succ]
                    refine wpAnyIn_take (i := 19) (oi := { dst := some 45, op := Op.move (Operand.tmp 0), type := 32, pos := "ranges.go:112", after := #[{ on := 18, ground := Ground.guard }], guard := some (18, true) }) (v := ?_) rfl rfl (by kernel_rfl) (by kernel_rfl) (by kernel_rfl) (fun _ _ _ h => h) ⟨Or.inl ⟨by rfl, ?_⟩, fun _ => rfl⟩ ?_
                    rotate_left
                    · (intro w; go_simp; try with_reducible rfl)
                    simp only [Act.put, List.setIfInBounds_toArray, List.set_cons_zero, List.set_cons_succ]
                    refine wpAnyIn_take (i := 21) (oi := { dst := some 47, op := Op.move (Operand.tmp 5), type := 3, pos := "ranges.go:112", after := #[{ on := 18, ground := Ground.guard }], guard := some (18, true) }) (v := ?_) rfl rfl (by kernel_rfl) (by kernel_rfl) (by kernel_rfl) (fun _ _ _ h => h) ⟨Or.inl ⟨by rfl, ?_⟩, fun _ => rfl⟩ ?_
                    rotate_left
                    · (intro w; go_simp; try with_reducible rfl)
                    simp only [Act.put, List.setIfInBounds_toArray, List.set_cons_zero, List.set_cons_succ]
                    refine wpAnyIn_ready (rs := [20]) (by kernel_rfl) (by simp) (AllReadyIn.cons (o := { dst := some 46, op := Op.load 50 (Operand.tmp 7), type := 50, pos := "ranges.go:112", after := #[{ on := 18, ground := Ground.guard }], guard := some (18, true) }) rfl (fun K hK => ?_) AllReadyIn.nil)
                    go_simp
                    refine hK _ _ ?_
                    clear hK K
                    refine wpAnyIn_ready (rs := [22]) (by kernel_rfl) (by simp) (AllReadyIn.cons (o := { dst := some 48, op := Op.call { callee := Callee.value (Operand.func 18), args := #[Operand.tmp 46, Operand.tmp 47], argTypes := #[50, 3] }, type := 29, pos := "ranges.go:112", after := #[{ on := 20, ground := Ground.data }, { on := 21, ground := Ground.data }, { on := 18, ground := Ground.chain }, { on := 18, ground := Ground.guard }], guard := some (18, true) }) rfl (fun K hK => ?_) AllReadyIn.nil)
                    go_simp
                    refine ((callsIn_wide (n := m - 1)).2 (HLK.out _)).mono ?_
                    rintro e w22 ⟨rfl, hb22⟩
                    dsimp only
                    have hbx22 := below_step (by assumption) hb22
                    clear hb22
                    obtain ⟨hlt3, henc3⟩ := HP.out rfl
                    obtain ⟨fn, tmps, assign, body, hy, hR⟩ := HY.out _ _ _ hlt3 (HX.out _ _ _ _ HJ1.out hbx22)
                    rw [henc3] at hy
                    have HR := Lib.hid hR
                    have HB22 := Lib.hid hbx22
                    clear hR hlt3 henc3
                    refine hK _ _ ?_
                    clear hK K
                    refine wpAnyIn_ready (rs := [23]) (by kernel_rfl) (by simp) (AllReadyIn.cons (o := { dst := some 49, op := Op.call { callee := Callee.value (Operand.tmp 45), args := #[Operand.tmp 48], argTypes := #[29] }, type := 4, pos := "ranges.go:112", after := #[{ on := 19, ground := Ground.data }, { on := 22, ground := Ground.data }, { on := 22, ground := Ground.chain }, { on := 18, ground := Ground.guard }], guard := some (18, true) }) rfl (fun K hK => ?_) AllReadyIn.nil)
                    go_simp
                    refine HR.out.mono ?_
                    rintro e w23 hq
                    obtain ⟨bb, rfl, hq2⟩ : ∃ b, e = .returned (.bool b) ∧ bPost (fun W' => J (ext B1 W1 w22) (posC G l k en j + 1) W' ∧ SameOn (ext B1 W1 w22) w22 W') Jx b w23 := by rcases hq with ⟨h1, h2⟩ | ⟨h1, h2⟩; exact ⟨true, h1, h2⟩; exact ⟨false, h1, h2⟩
                    dsimp only
                    clear hq
                    refine hK _ _ ?_
                    clear hK K
                    refine wpAnyIn_take (i := 24) (oi := { dst := some 50, op := Op.unOp UnOp.not 4 (Operand.tmp 49), type := 4, pos := "ranges.go:112", after := #[{ on := 23, ground := Ground.data }, { on := 18, ground := Ground.guard }], guard := some (18, true) }) (v := ?_) rfl rfl (by kernel_rfl) (by kernel_rfl) (by kernel_rfl) (fun _ _ _ h => h) ⟨Or.inl ⟨by rfl, ?_⟩, fun _ => rfl⟩ ?_
                    rotate_left
                    · (intro w; go_simp; try with_reducible rfl)
                    simp only [Act.put, List.setIfInBounds_toArray, List.set_cons_zero, List.set_cons_succ]
                    refine wpAnyIn_take (i := 25) (oi := { dst := some 51, op := Op.pick (Operand.tmp 44) (Operand.tmp 50) (Operand.const (Value.bool false)), type := 4, pos := "ranges.go:112", after := #[{ on := 18, ground := Ground.data }, { on := 24, ground := Ground.data }], guard := none }) (v := ?_) rfl rfl (by kernel_rfl) (by kernel_rfl) (by kernel_rfl) (fun _ _ _ h => h) ⟨Or.inl ⟨by rfl, ?_⟩, fun _ => rfl⟩ ?_
                    rotate_left
                    · (intro w; go_simp; try with_reducible rfl)
                    simp only [Act.put, List.setIfInBounds_toArray, List.set_cons_zero, List.set_cons_succ]
                    refine wpAnyIn_done (by kernel_rfl) ?_ _
                    cases bb
                    · gi_wp2
                      (try simp only [Exit.inBlock, Exit.then])
                      refine bodyPost_ret (results_none rfl _ _ _) rfl ?_
                      exact ⟨⟨_, rfl⟩, .inr hq2⟩
                    · have HJ5 := Lib.hid (show J (ext B1 W1 w22) (posC G l k en (j + 1)) w23 by rw [HNX.out]; exact hq2.1)
                      have HB5 := Lib.hid (show ext B1 W1 w22 gb from .inl HB1.out)
                      have HG5 := Lib.hid ((hq2.2 gb (.inl HB1.out)).trans ((HB22.out.block gb (by have h1 := HG1.out; rw [Array.getElem?_eq_getElem (HR4.out.1.lt _ rfl).2] at h1; exact (Array.getElem?_eq_some_iff.1 h1).1)).trans HG1.out))
                      clear hq2
                      gi_wp2
                      go_roundw
                      case rel => exact ⟨j + 1, by have := HLT2.out; omega, by go_num, _, HJ5, HB5, HG5⟩
                      case measure => simp [RowKit.intOf]; have := HLT2.out; omega
                  · go_simp
                    refine hK _ _ ?_
                    clear hK K
                    refine wpAnyIn_ready (rs := [5, 7]) (by kernel_rfl) (by simp) (AllReadyIn.cons (o := { dst := some 31, op := Op.load 50 (Operand.tmp 7), type := 50, pos := "ranges.go:112", after := #[{ on := 4, ground := Ground.guard }], guard := some (4, true) }) rfl (fun K hK => ?_) (AllReadyIn.cons (o := { dst := some 33, op := Op.call { callee := Callee.value (Operand.func 44), args := #[Operand.tmp 32], argTypes := #[29] }, type := 50, pos := "ranges.go:112", after := #[{ on := 6, ground := Ground.data }, { on := 4, ground := Ground.chain }, { on := 4, ground := Ground.guard }], guard := some (4, true) }) rfl (fun K hK => ?_) AllReadyIn.nil))
                    · go_simp
                      refine hK _ _ ?_
                      clear hK K
                      refine wpAnyIn_ready (rs := [7]) (by kernel_rfl) (by simp) (AllReadyIn.cons (o := { dst := some 33, op := Op.call { callee := Callee.value (Operand.func 44), args := #[Operand.tmp 32], argTypes := #[29] }, type := 50, pos := "ranges.go:112", after := #[{ on := 6, ground := Ground.data }, { on := 4, ground := Ground.chain }, { on := 4, ground := Ground.guard }], guard := some (4, true) }) rfl (fun K hK => ?_) AllReadyIn.nil)
                      go_simp
                      refine ((callsIn_wide (n := m - 1)).2 (HSP.out _)).mono ?_
                      rintro e w7 ⟨rfl, hb7⟩
                      dsimp only
                      have hbx7 := below_step (by assumption) hb7
                      clear hb7
                      refine hK _ _ ?_
                      clear hK K
                      refine wpAnyIn_ready (rs := [8]) (by kernel_rfl) (by simp) (AllReadyIn.cons (o := { dst := some 34, op := Op.call { callee := Callee.value (Operand.func 64), args := #[Operand.tmp 31, Operand.tmp 33], argTypes := #[50, 50] }, type := 4, pos := "ranges.go:112", after := #[{ on := 5, ground := Ground.data }, { on := 7, ground := Ground.data }, { on := 7, ground := Ground.chain }, { on := 4, ground := Ground.guard }], guard := some (4, true) }) rfl (fun K hK => ?_) AllReadyIn.nil)
                      go_simp
                      refine ((callsIn_wide (n := m - 1)).2 (HOV.out _)).mono ?_
                      rintro e w8 ⟨rfl, hb8⟩
                      dsimp only
                      have hbx8 := below_step (by assumption) hb8
                      clear hb8
                      refine hK _ _ ?_
                      clear hK K
                      refine wpAnyIn_take (i := 9) (oi := { dst := some 35, op := Op.pick (Operand.tmp 30) (Operand.tmp 34) (Operand.const (Value.bool false)), type := 4, pos := "ranges.go:112", after := #[{ on := 4, ground := Ground.data }, { on := 8, ground := Ground.data }], guard := none }) (v := ?_) rfl rfl (by kernel_rfl) (by kernel_rfl) (by kernel_rfl) (fun _ _ _ h => h) ⟨Or.inl ⟨by rfl, ?_⟩, fun _ => rfl⟩ ?_
                      rotate_left
                      · (intro w; go_simp; try with_reducible rfl)
                      simp only [Act.put, List.setIfInBounds_toArray, List.set_cons_zero, List.set_cons_succ]
                      refine wpAnyIn_take (i := 10) (oi := { dst := some 36, op := Op.move (Operand.tmp 35), type := 4, pos := "ranges.go:112", after := #[{ on := 9, ground := Ground.data }, { on := 8, ground := Ground.chain }], guard := none }) (v := ?_) rfl rfl (by kernel_rfl) (by kernel_rfl) (by kernel_rfl) (fun _ _ _ h => h) ⟨Or.inl ⟨by rfl, ?_⟩, fun _ => rfl⟩ ?_
                      rotate_left
                      · (intro w; go_simp; try with_reducible rfl)
                      simp only [Act.put, List.setIfInBounds_toArray, List.set_cons_zero, List.set_cons_succ]
                      refine wpAnyIn_take (i := 11) (oi := { dst := some 37, op := Op.fieldAddr 50 (Operand.tmp 7) 2, type := 0, pos := "ranges.go:112", after := #[{ on := 10, ground := Ground.guard }], guard := some (10, true) }) (v := ?_) rfl rfl (by kernel_rfl) (by kernel_rfl) (by kernel_rfl) (fun _ _ _ h => h) ⟨Or.inl ⟨by rfl, ?_⟩, fun _ => rfl⟩ ?_
                      rotate_left
                      · (intro w; go_simp; try with_reducible rfl)
                      simp only [Act.put, List.setIfInBounds_toArray, List.set_cons_zero, List.set_cons_succ]
                      refine wpAnyIn_ready (rs := [12]) (by kernel_rfl) (by simp) (AllReadyIn.cons (o := { dst := some 38, op := Op.load 4 (Operand.tmp 37), type := 4, pos := "ranges.go:112", after := #[{ on := 11, ground := Ground.data }, { on := 10, ground := Ground.guard }], guard := some (10, true) }) rfl (fun K hK => ?_) AllReadyIn.nil)
                      go_simp
                      refine hK _ _ ?_
                      clear hK K
                      refine wpAnyIn_take (i := 13) (oi := { dst := some 39, op := Op.move (Operand.tmp 38), type := 4, pos := "ranges.go:112", after := #[{ on := 12, ground := Ground.data }, { on := 10, ground := Ground.chain }, { on := 10, ground := Ground.guard }], guard := some (10, true) }) (v := ?_) rfl rfl (by kernel_rfl) (by kernel_rfl) (by kernel_rfl) (fun _ _ _ h => h) ⟨Or.inl ⟨by rfl, ?_⟩, fun _ => rfl⟩ ?_
                      rotate_left
                      · (intro w; go_simp; try with_reducible rfl)
                      simp only [Act.put, List.setIfInBounds_toArray, List.set_cons_zero, List.set_cons_succ]
                      refine wpAnyIn_take (i := 14) (oi := { dst := some 40, op := Op.fieldAddr 29 (Operand.tmp 2) 3, type := 0, pos := "ranges.go:112", after := #[{ on := 13, ground := Ground.guard }], guard := some (13, false) }) rfl rfl (by kernel_rfl) (by kernel_rfl) (by kernel_rfl) (fun _ _ _ h => h) ⟨Or.inr ⟨by rfl, rfl⟩, fun _ => rfl⟩ ?_
                      simp only [Act.put, List.setIfInBounds_toArray, List.set_cons_zero, List.set_cons_succ]
                      refine wpAnyIn_take (i := 15) (oi := { dst := some 41, op := Op.load 4 (Operand.tmp 40), type := 4, pos := "ranges.go:112", after := #[{ on := 14, ground := Ground.data }, { on := 13, ground := Ground.guard }], guard := some (13, false) }) rfl rfl (by kernel_rfl) (by kernel_rfl) (by kernel_rfl) (fun _ _ _ h => h) ⟨Or.inr ⟨by rfl, rfl⟩, fun _ => rfl⟩ ?_
                      simp only [Act.put, List.setIfInBounds_toArray, List.set_cons_zero, List.set_cons_succ]
                      refine wpAnyIn_take (i := 16) (oi := { dst := some 42, op := Op.pick (Operand.tmp 39) (Operand.const (Value.bool true)) (Operand.tmp 41), type := 4, pos := "ranges.go:112", after := #[{ on := 13, ground := Ground.data }, { on := 15, ground := Ground.data }, { on := 10, ground := Ground.guard }], guard := some (10, true) }) (v := ?_) rfl rfl (by kernel_rfl) (by kernel_rfl) (by kernel_rfl) (fun _ _ _ h => h) ⟨Or.inl ⟨by rfl, ?_⟩, fun _ => rfl⟩ ?_
                      rotate_left
                      · (intro w; go_simp; try with_reducible rfl)
                      simp only [Act.put, List.setIfInBounds_toArray, List.set_cons_zero, List.set_cons_succ]
                      refine wpAnyIn_take (i := 17) (oi := { dst := some 43, op := Op.pick (Operand.tmp 36) (Operand.tmp 42) (Operand.const (Value.bool false)), type := 4, pos := "ranges.go:112", after := #[{ on := 10, ground := Ground.data }, { on := 16, ground := Ground.data }], guard := none }) (v := ?_) rfl rfl (by kernel_rfl) (by kernel_rfl) (by kernel_rfl) (fun _ _ _ h => h) ⟨Or.inl ⟨by rfl, ?_⟩, fun _ => rfl⟩ ?_
                      rotate_left
                      · (intro w; go_simp; try with_reducible rfl)
                      simp only [Act.put, List.setIfInBounds_toArray, List.set_cons_zero, List.set_cons_succ]
                      refine wpAnyIn_take (i := 18) (oi := { dst := some 44, op := Op.move (Operand.tmp 43), type := 4, pos := "ranges.go:112", after := #[{ on := 17, ground := Ground.data }, { on := 13, ground := Ground.chain }], guard := none }) (v := ?_) rfl rfl (by kernel_rfl) (by kernel_rfl) (by kernel_rfl) (fun _ _ _ h => h) ⟨Or.inl ⟨by rfl, ?_⟩, fun _ => rfl⟩ ?_
                      rotate_left
                      · (intro w; go_simp; try with_reducible rfl)
                      simp only [Act.put, List.setIfInBounds_toArray, List.set_cons_zero, List.set_cons_succ]
                      refine wpAnyIn_take (i := 19) (oi := { dst := some 45, op := Op.move (Operand.tmp 0), type := 32, pos := "ranges.go:112", after := #[{ on := 18, ground := Ground.guard }], guard := some (18, true) }) (v := ?_) rfl rfl (by kernel_rfl) (by kernel_rfl) (by kernel_rfl) (fun _ _ _ h => h) ⟨Or.inl ⟨by rfl, ?_⟩, fun _ => rfl⟩ ?_
                      rotate_left
                      · (intro w; go_simp; try with_reducible rfl)
                      simp only [Act.put, List.setIfInBounds_toArray, List.set_cons_zero, List.set_cons_succ]
                      refine wpAnyIn_take (i := 21) (oi := { dst := some 47, op := Op.move (Operand.tmp 5), type := 3, pos := "ranges.go:112", after := #[{ on := 18, ground := Ground.guard }], guard := some (18, true) }) (v := ?_) rfl rfl (by kernel_rfl) (by kernel_rfl) (by kernel_rfl) (fun _ _ _ h => h) ⟨Or.inl ⟨by rfl, ?_⟩, fun _ => rfl⟩ ?_
                      rotate_left
                      · (intro w; go_simp; try with_reducible rfl)
                      simp only [Act.put, List.setIfInBounds_toArray, List.set_cons_zero, List.set_cons_succ]
                      refine wpAnyIn_ready (rs := [20]) (by kernel_rfl) (by simp) (AllReadyIn.cons (o := { dst := some 46, op := Op.load 50 (Operand.tmp 7), type := 50, pos := "ranges.go:112", after := #[{ on := 18, ground := Ground.guard }], guard := some (18, true) }) rfl (fun K hK => ?_) AllReadyIn.nil)
                      go_simp
                      refine hK _ _ ?_
                      clear hK K
                      refine wpAnyIn_ready (rs := [22]) (by kernel_rfl) (by simp) (AllReadyIn.cons (o := { dst := some 48, op := Op.call { callee := Callee.value (Operand.func 18), args := #[Operand.tmp 46, Operand.tmp 47], argTypes := #[50, 3] }, type := 29, pos := "ranges.go:112", after := #[{ on := 20, ground := Ground.data }, { on := 21, ground := Ground.data }, { on := 18, ground := Ground.chain }, { on := 18, ground := Ground.guard }], guard := some (18, true) }) rfl (fun K hK => ?_) AllReadyIn.nil)
                      go_simp
                      refine ((callsIn_wide (n := m - 1)).2 (HLK.out _)).mono ?_
                      rintro e w22 ⟨rfl, hb22⟩
                      dsimp only
                      have hbx22 := below_step (by assumption) hb22
                      clear hb22
                      obtain ⟨hlt3, henc3⟩ := HP.out rfl
                      obtain ⟨fn, tmps, assign, body, hy, hR⟩ := HY.out _ _ _ hlt3 (HX.out _ _ _ _ HJ1.out hbx22)
                      rw [henc3] at hy
                      have HR := Lib.hid hR
                      have HB22 := Lib.hid hbx22
                      clear hR hlt3 henc3
                      refine hK _ _ ?_
                      clear hK K
                      refine wpAnyIn_ready (rs := [23]) (by kernel_rfl) (by simp) (AllReadyIn.cons (o := { dst := some 49, op := Op.call { callee := Callee.value (Operand.tmp 45), args := #[Operand.tmp 48], argTypes := #[29] }, type := 4, pos := "ranges.go:112", after := #[{ on := 19, ground := Ground.data }, { on := 22, ground := Ground.data }, { on := 22, ground := Ground.chain }, { on := 18, ground := Ground.guard }], guard := some (18, true) }) rfl (fun K hK => ?_) AllReadyIn.nil)
                      go_simp
                      refine HR.out.mono ?_
                      rintro e w23 hq
                      obtain ⟨bb, rfl, hq2⟩ : ∃ b, e = .returned (.bool b) ∧ bPost (fun W' => J (ext B1 W1 w22) (posC G l k en j + 1) W' ∧ SameOn (ext B1 W1 w22) w22 W') Jx b w23 := by rcases hq with ⟨h1, h2⟩ | ⟨h1, h2⟩; exact ⟨true, h1, h2⟩; exact ⟨false, h1, h2⟩
                      dsimp only
                      clear hq
                      refine hK _ _ ?_
                      clear hK K
                      refine wpAnyIn_take (i := 24) (oi := { dst := some 50, op := Op.unOp UnOp.not 4 (Operand.tmp 49), type := 4, pos := "ranges.go:112", after := #[{ on := 23, ground := Ground.data }, { on := 18, ground := Ground.guard }], guard := some (18, true) }) (v := ?_) rfl rfl (by kernel_rfl) (by kernel_rfl) (by kernel_rfl) (fun _ _ _ h => h) ⟨Or.inl ⟨by rfl, ?_⟩, fun _ => rfl⟩ ?_
                      rotate_left
                      · (intro w; go_simp; try with_reducible rfl)
                      simp only [Act.put, List.setIfInBounds_toArray, List.set_cons_zero, List.set_cons_succ]
                      refine wpAnyIn_take (i := 25) (oi := { dst := some 51, op := Op.pick (Operand.tmp 44) (Operand.tmp 50) (Operand.const (Value.bool false)), type := 4, pos := "ranges.go:112", after := #[{ on := 18, ground := Ground.data }, { on := 24, ground := Ground.data }], guard := none }) (v := ?_) rfl rfl (by kernel_rfl) (by kernel_rfl) (by kernel_rfl) (fun _ _ _ h => h) ⟨Or.inl ⟨by rfl, ?_⟩, fun _ => rfl⟩ ?_
                      rotate_left
                      · (intro w; go_simp; try with_reducible rfl)
                      simp only [Act.put, List.setIfInBounds_toArray, List.set_cons_zero, List.set_cons_succ]
                      refine wpAnyIn_done (by kernel_rfl) ?_ _
                      cases bb
                      · gi_wp2
                        (try simp only [Exit.inBlock, Exit.then])
                        refine bodyPost_ret (results_none rfl _ _ _) rfl ?_
                        exact ⟨⟨_, rfl⟩, .inr hq2⟩
                      · have HJ5 := Lib.hid (show J (ext B1 W1 w22) (posC G l k en (j + 1)) w23 by rw [HNX.out]; exact hq2.1)
                        have HB5 := Lib.hid (show ext B1 W1 w22 gb from .inl HB1.out)
                        have HG5 := Lib.hid ((hq2.2 gb (.inl HB1.out)).trans ((HB22.out.block gb (by have h1 := HG1.out; rw [Array.getElem?_eq_getElem (HR4.out.1.lt _ rfl).2] at h1; exact (Array.getElem?_eq_some_iff.1 h1).1)).trans HG1.out))
                        clear hq2
                        gi_wp2
                        go_roundw
                        case rel => exact ⟨j + 1, by have := HLT2.out; omega, by go_num, _, HJ5, HB5, HG5⟩
                        case measure => simp [RowKit.intOf]; have := HLT2.out; omega
                    · go_simp
                      refine ((callsIn_wide (n := m - 1)).2 (HSP.out _)).mono ?_
                      rintro e w7 ⟨rfl, hb7⟩
                      dsimp only
                      have hbx7 := below_step (by assumption) hb7
                      clear hb7
                      refine hK _ _ ?_
                      clear hK K
                      refine wpAnyIn_ready (rs := [5]) (by kernel_rfl) (by simp) (AllReadyIn.cons (o := { dst := some 31, op := Op.load 50 (Operand.tmp 7), type := 50, pos := "ranges.go:112", after := #[{ on := 4, ground := Ground.guard }], guard := some (4, true) }) rfl (fun K hK => ?_) AllReadyIn.nil)
                      go_simp
                      refine hK _ _ ?_
                      clear hK K
                      refine wpAnyIn_ready (rs := [8]) (by kernel_rfl) (by simp) (AllReadyIn.cons (o := { dst := some 34, op := Op.call { callee := Callee.value (Operand.func 64), args := #[Operand.tmp 31, Operand.tmp 33], argTypes := #[50, 50] }, type := 4, pos := "ranges.go:112", after := #[{ on := 5, ground := Ground.data }, { on := 7, ground := Ground.data }, { on := 7, ground := Ground.chain }, { on := 4, ground := Ground.guard }], guard := some (4, true) }) rfl (fun K hK => ?_) AllReadyIn.nil)
                      go_simp
                      refine ((callsIn_wide (n := m - 1)).2 (HOV.out _)).mono ?_
                      rintro e w8 ⟨rfl, hb8⟩
                      dsimp only
                      have hbx8 := below_step (by assumption) hb8
                      clear hb8
                      refine hK _ _ ?_
                      clear hK K
                      refine wpAnyIn_take (i := 9) (oi := { dst := some 35, op := Op.pick (Operand.tmp 30) (Operand.tmp 34) (Operand.const (Value.bool false)), type := 4, pos := "ranges.go:112", after := #[{ on := 4, ground := Ground.data }, { on := 8, ground := Ground.data }], guard := none }) (v := ?_) rfl rfl (by kernel_rfl) (by kernel_rfl) (by kernel_rfl) (fun _ _ _ h => h) ⟨Or.inl ⟨by rfl, ?_⟩, fun _ => rfl⟩ ?_
                      rotate_left
                      · (intro w; go_simp; try with_reducible rfl)
                      simp only [Act.put, List.setIfInBounds_toArray, List.set_cons_zero, List.set_cons_succ]
                      refine wpAnyIn_take (i := 10) (oi := { dst := some 36, op := Op.move (Operand.tmp 35), type := 4, pos := "ranges.go:112", after := #[{ on := 9, ground := Ground.data }, { on := 8, ground := Ground.chain }], guard := none }) (v := ?_) rfl rfl (by kernel_rfl) (by kernel_rfl) (by kernel_rfl) (fun _ _ _ h => h) ⟨Or.inl ⟨by rfl, ?_⟩, fun _ => rfl⟩ ?_
                      rotate_left
                      · (intro w; go_simp; try with_reducible rfl)
                      simp only [Act.put, List.setIfInBounds_toArray, List.set_cons_zero, List.set_cons_succ]
                      refine wpAnyIn_take (i := 11) (oi := { dst := some 37, op := Op.fieldAddr 50 (Operand.tmp 7) 2, type := 0, pos := "ranges.go:112", after := #[{ on := 10, ground := Ground.guard }], guard := some (10, true) }) (v := ?_) rfl rfl (by kernel_rfl) (by kernel_rfl) (by kernel_rfl) (fun _ _ _ h => h) ⟨Or.inl ⟨by rfl, ?_⟩, fun _ => rfl⟩ ?_
                      rotate_left
                      · (intro w; go_simp; try with_reducible rfl)
                      simp only [Act.put, List.setIfInBounds_toArray, List.set_cons_zero, List.set_cons_succ]
                      refine wpAnyIn_ready (rs := [12]) (by kernel_rfl) (by simp) (AllReadyIn.cons (o := { dst := some 38, op := Op.load 4 (Operand.tmp 37), type := 4, pos := "ranges.go:112", after := #[{ on := 11, ground := Ground.data }, { on := 10, ground := Ground.guard }], guard := some (10, true) }) rfl (fun K hK => ?_) AllReadyIn.nil)
                      go_simp
                      refine hK _ _ ?_
                      clear hK K
                      refine wpAnyIn_take (i := 13) (oi := { dst := some 39, op := Op.move (Operand.tmp 38), type := 4, pos := "ranges.go:112", after := #[{ on := 12, ground := Ground.data }, { on := 10, ground := Ground.chain }, { on := 10, ground := Ground.guard }], guard := some (10, true) }) (v := ?_) rfl rfl (by kernel_rfl) (by kernel_rfl) (by kernel_rfl) (fun _ _ _ h => h) ⟨Or.inl ⟨by rfl, ?_⟩, fun _ => rfl⟩ ?_
                      rotate_left
                      · (intro w; go_simp; try with_reducible rfl)
                      simp only [Act.put, List.setIfInBounds_toArray, List.set_cons_zero, List.set_cons_succ]
                      refine wpAnyIn_take (i := 14) (oi := { dst := some 40, op := Op.fieldAddr 29 (Operand.tmp 2) 3, type := 0, pos := "ranges.go:112", after := #[{ on := 13, ground := Ground.guard }], guard := some (13, false) }) rfl rfl (by kernel_rfl) (by kernel_rfl) (by kernel_rfl) (fun _ _ _ h => h) ⟨Or.inr ⟨by rfl, rfl⟩, fun _ => rfl⟩ ?_
                      simp only [Act.put, List.setIfInBounds_toArray, List.set_cons_zero, List.set_cons_succ]
                      refine wpAnyIn_take (i := 15) (oi := { dst := some 41, op := Op.load 4 (Operand.tmp 40), type := 4, pos := "ranges.go:112", after := #[{ on := 14, ground := Ground.data }, { on := 13, ground := Ground.guard }], guard := some (13, false) }) rfl rfl (by kernel_rfl) (by kernel_rfl) (by kernel_rfl) (fun _ _ _ h => h) ⟨Or.inr ⟨by rfl, rfl⟩, fun _ => rfl⟩ ?_
                      simp only [Act.put, List.setIfInBounds_toArray, List.set_cons_zero, List.set_cons_succ]
                      refine wpAnyIn_take (i := 16) (oi := { dst := some 42, op := Op.pick (Operand.tmp 39) (Operand.const (Value.bool true)) (Operand.tmp 41), type := 4, pos := "ranges.go:112", after := #[{ on := 13, ground := Ground.data }, { on := 15, ground := Ground.data }, { on := 10, ground := Ground.guard }], guard := some (10, true) }) (v := ?_) rfl rfl (by kernel_rfl) (by kernel_rfl) (by kernel_rfl) (fun _ _ _ h => h) ⟨Or.inl ⟨by rfl, ?_⟩, fun _ => rfl⟩ ?_
                      rotate_left
                      · (intro w; go_simp; try with_reducible rfl)
                      simp only [Act.put, List.setIfInBounds_toArray, List.set_cons_zero, List.set_cons_succ]
                      refine wpAnyIn_take (i := 17) (oi := { dst := some 43, op := Op.pick (Operand.tmp 36) (Operand.tmp 42) (Operand.const (Value.bool false)), type := 4, pos := "ranges.go:112", after := #[{ on := 10, ground := Ground.data }, { on := 16, ground := Ground.data }], guard := none }) (v := ?_) rfl rfl (by kernel_rfl) (by kernel_rfl) (by kernel_rfl) (fun _ _ _ h => h) ⟨Or.inl ⟨by rfl, ?_⟩, fun _ => rfl⟩ ?_
                      rotate_left
                      · (intro w; go_simp; try with_reducible rfl)
                      simp only [Act.put, List.setIfInBounds_toArray, List.set_cons_zero, List.set_cons_succ]
                      refine wpAnyIn_take (i := 18) (oi := { dst := some 44, op := Op.move (Operand.tmp 43), type := 4, pos := "ranges.go:112", after := #[{ on := 17, ground := Ground.data }, { on := 13, ground := Ground.chain }], guard := none }) (v := ?_) rfl rfl (by kernel_rfl) (by kernel_rfl) (by kernel_rfl) (fun _ _ _ h => h) ⟨Or.inl ⟨by rfl, ?_⟩, fun _ => rfl⟩ ?_
                      rotate_left
                      · (intro w; go_simp; try with_reducible rfl)
                      simp only [Act.put, List.setIfInBounds_toArray, List.set_cons_zero, List.set_cons_succ]
                      refine wpAnyIn_take (i := 19) (oi := { dst := some 45, op := Op.move (Operand.tmp 0), type := 32, pos := "ranges.go:112", after := #[{ on := 18, ground := Ground.guard }], guard := some (18, true) }) (v := ?_) rfl rfl (by kernel_rfl) (by kernel_rfl) (by kernel_rfl) (fun _ _ _ h => h) ⟨Or.inl ⟨by rfl, ?_⟩, fun _ => rfl⟩ ?_
                      rotate_left
                      · (intro w; go_simp; try with_reducible rfl)
                      simp only [Act.put, List.setIfInBounds_toArray, List.set_cons_zero, List.set_cons_succ]
                      refine wpAnyIn_take (i := 21) (oi := { dst := some 47, op := Op.move (Operand.tmp 5), type := 3, pos := "ranges.go:112", after := #[{ on := 18, ground := Ground.guard }], guard := some (18, true) }) (v := ?_) rfl rfl (by kernel_rfl) (by kernel_rfl) (by kernel_rfl) (fun _ _ _ h => h) ⟨Or.inl ⟨by rfl, ?_⟩, fun _ => rfl⟩ ?_
                      rotate_left
                      · (intro w; go_simp; try with_reducible rfl)
                      simp only [Act.put, List.setIfInBounds_toArray, List.set_cons_zero, List.set_cons_succ]
                      refine wpAnyIn_ready (rs := [20]) (by kernel_rfl) (by simp) (AllReadyIn.cons (o := { dst := some 46, op := Op.load 50 (Operand.tmp 7), type := 50, pos := "ranges.go:112", after := #[{ on := 18, ground := Ground.guard }], guard := some (18, true) }) rfl (fun K hK => ?_) AllReadyIn.nil)
                      go_simp
                      refine hK _ _ ?_
                      clear hK K
                      refine wpAnyIn_ready (rs := [22]) (by kernel_rfl) (by simp) (AllReadyIn.cons (o := { dst := some 48, op := Op.call { callee := Callee.value (Operand.func 18), args := #[Operand.tmp 46, Operand.tmp 47], argTypes := #[50, 3] }, type := 29, pos := "ranges.go:112", after := #[{ on := 20, ground := Ground.data }, { on := 21, ground := Ground.data }, { on := 18, ground := Ground.chain }, { on := 18, ground := Ground.guard }], guard := some (18, true) }) rfl (fun K hK => ?_) AllReadyIn.nil)
                      go_simp
                      refine ((callsIn_wide (n := m - 1)).2 (HLK.out _)).mono ?_
                      rintro e w22 ⟨rfl, hb22⟩
                      dsimp only
                      have hbx22 := below_step (by assumption) hb22
                      clear hb22
                      obtain ⟨hlt3, henc3⟩ := HP.out rfl
                      obtain ⟨fn, tmps, assign, body, hy, hR⟩ := HY.out _ _ _ hlt3 (HX.out _ _ _ _ HJ1.out hbx22)
                      rw [henc3] at hy
                      have HR := Lib.hid hR
                      have HB22 := Lib.hid hbx22
                      clear hR hlt3 henc3
                      refine hK _ _ ?_
                      clear hK K
                      refine wpAnyIn_ready (rs := [23]) (by kernel_rfl) (by simp) (AllReadyIn.cons (o := { dst := some 49, op := Op.call { callee := Callee.value (Operand.tmp 45), args := #[Operand.tmp 48], argTypes := #[29] }, type := 4, pos := "ranges.go:112", after := #[{ on := 19, ground := Ground.data }, { on := 22, ground := Ground.data }, { on := 22, ground := Ground.chain }, { on := 18, ground := Ground.guard }], guard := some (18, true) }) rfl (fun K hK => ?_) AllReadyIn.nil)
                      go_simp
                      refine HR.out.mono ?_
                      rintro e w23 hq
                      obtain ⟨bb, rfl, hq2⟩ : ∃ b, e = .returned (.bool b) ∧ bPost (fun W' => J (ext B1 W1 w22) (posC G l k en j + 1) W' ∧ SameOn (ext B1 W1 w22) w22 W') Jx b w23 := by rcases hq with ⟨h1, h2⟩ | ⟨h1, h2⟩; exact ⟨true, h1, h2⟩; exact ⟨false, h1, h2⟩
                      dsimp only
                      clear hq
                      refine hK _ _ ?_
                      clear hK K
                      refine wpAnyIn_take (i := 24) (oi := { dst := some 50, op := Op.unOp UnOp.not 4 (Operand.tmp 49), type := 4, pos := "ranges.go:112", after := #[{ on := 23, ground := Ground.data }, { on := 18, ground := Ground.guard }], guard := some (18, true) }) (v := ?_) rfl rfl (by kernel_rfl) (by kernel_rfl) (by kernel_rfl) (fun _ _ _ h => h) ⟨Or.inl ⟨by rfl, ?_⟩, fun _ => rfl⟩ ?_
                      rotate_left
                      · (intro w; go_simp; try with_reducible rfl)
                      simp only [Act.put, List.setIfInBounds_toArray, List.set_cons_zero, List.set_cons_succ]
                      refine wpAnyIn_take (i := 25) (oi := { dst := some 51, op := Op.pick (Operand.tmp 44) (Operand.tmp 50) (Operand.const (Value.bool false)), type := 4, pos := "ranges.go:112", after := #[{ on := 18, ground := Ground.data }, { on := 24, ground := Ground.data }], guard := none }) (v := ?_) rfl rfl (by kernel_rfl) (by kernel_rfl) (by kernel_rfl) (fun _ _ _ h => h) ⟨Or.inl ⟨by rfl, ?_⟩, fun _ => rfl⟩ ?_
                      rotate_left
                      · (intro w; go_simp; try with_reducible rfl)
                      simp only [Act.put, List.setIfInBounds_toArray, List.set_cons_zero, List.set_cons_succ]
                      refine wpAnyIn_done (by kernel_rfl) ?_ _
                      cases bb
                      · gi_wp2
                        (try simp only [Exit.inBlock, Exit.then])
                        refine bodyPost_ret (results_none rfl _ _ _) rfl ?_
                        exact ⟨⟨_, rfl⟩, .inr hq2⟩
                      · have HJ5 := Lib.hid (show J (ext B1 W1 w22) (posC G l k en (j + 1)) w23 by rw [HNX.out]; exact hq2.1)
                        have HB5 := Lib.hid (show ext B1 W1 w22 gb from .inl HB1.out)
                        have HG5 := Lib.hid ((hq2.2 gb (.inl HB1.out)).trans ((HB22.out.block gb (by have h1 := HG1.out; rw [Array.getElem?_eq_getElem (HR4.out.1.lt _ rfl).2] at h1; exact (Array.getElem?_eq_some_iff.1 h1).1)).trans HG1.out))
                        clear hq2
                        gi_wp2
                        go_roundw
                        case rel => exact ⟨j + 1, by have := HLT2.out; omega, by go_num, _, HJ5, HB5, HG5⟩
                        case measure => simp [RowKit.intOf]; have := HLT2.out; omega
            · have heq : en.own = l.own := by simpa using d1
              rw [← heq] at zl0
              clear heq d1
              refine wpIn_region_any hmx ?_
              have hbw : Below W1.heap.size W1 W1.drew := below_drew hb0
              change wpAnyIn _ _ _ _ _ _ _ _ _ W1.drew
              generalize W1.drew = Wd at hbw ⊢
              clear hb0
              simp only [List.size_toArray, List.length_cons, List.length_nil, Nat.reduceAdd]
              refine wpAnyIn_take (i := 0) (oi := { dst := some 26, op := Op.move (Operand.tmp 5), type := 3, pos := "ranges.go:112", after := #[], guard := none }) (v := ?_) rfl rfl (by kernel_rfl) (by kernel_rfl) (by kernel_rfl) (fun _ _ _ h => h) ⟨Or.inl ⟨by rfl, ?_⟩, fun _ => rfl⟩ ?_
              rotate_left
              · (intro w; go_simp; try with_reducible rfl)
              simp only [Act.put, List.setIfInBounds_toArray, List.set_cons_zero, List.set_cons_succ]
              refine wpAnyIn_take (i := 1) (oi := { dst := some 27, op := Op.fieldAddr 29 (Operand.tmp 2) 0, type := 0, pos := "ranges.go:112", after := #[], guard := none }) (v := ?_) rfl rfl (by kernel_rfl) (by kernel_rfl) (by kernel_rfl) (fun _ _ _ h => h) ⟨Or.inl ⟨by rfl, ?_⟩, fun _ => rfl⟩ ?_
              rotate_left
              · (intro w; go_simp; try with_reducible rfl)
              simp only [Act.put, List.setIfInBounds_toArray, List.set_cons_zero, List.set_cons_succ]
              refine wpAnyIn_ready (rs := [2]) (by kernel_rfl) (by simp) (AllReadyIn.cons (o := { dst := some 28, op := Op.load 3 (Operand.tmp 27), type := 3, pos := "ranges.go:112", after := #[{ on := 1, ground := Ground.data }], guard := none }) rfl (fun K hK => ?_) AllReadyIn.nil)
              go_simp
              refine hK _ _ ?_
              clear hK K
              refine wpAnyIn_take (i := 3) (oi := { dst := some 29, op := Op.binOp BinOp.neq 3 (Operand.tmp 26) (Operand.tmp 28) 3, type := 4, pos := "ranges.go:112", after := #[{ on := 0, ground := Ground.data }, { on := 2, ground := Ground.data }], guard := none }) (v := .bool false) rfl rfl (by kernel_rfl) (by kernel_rfl) (by kernel_rfl) (fun _ _ _ h => h) ⟨Or.inl ⟨by rfl, ?_⟩, fun _ => rfl⟩ ?_
              · (intro w; go_simp)
              simp only [Act.put, List.setIfInBounds_toArray, List.set_cons_zero, List.set_cons_succ]
              refine wpAnyIn_take (i := 4) (oi := { dst := some 30, op := Op.move (Operand.tmp 29), type := 4, pos := "ranges.go:112", after := #[{ on := 3, ground := Ground.data }], guard := none }) (v := ?_) rfl rfl (by kernel_rfl) (by kernel_rfl) (by kernel_rfl) (fun _ _ _ h => h) ⟨Or.inl ⟨by rfl, ?_⟩, fun _ => rfl⟩ ?_
              rotate_left
              · (intro w; go_simp; try with_reducible rfl)
              simp only [Act.put, List.setIfInBounds_toArray, List.set_cons_zero, List.set_cons_succ]
              refine wpAnyIn_take (i := 5) (oi := { dst := some 31, op := Op.load 50 (Operand.tmp 7), type := 50, pos := "ranges.go:112", after := #[{ on := 4, ground := Ground.guard }], guard := some (4, true) }) rfl rfl (by kernel_rfl) (by kernel_rfl) (by kernel_rfl) (fun _ _ _ h => h) ⟨Or.inr ⟨by rfl, rfl⟩, fun _ => rfl⟩ ?_
              simp only [Act.put, List.setIfInBounds_toArray, List.set_cons_zero, List.set_cons_succ]
              refine wpAnyIn_take (i := 6) (oi := { dst := some 32, op := Op.load 29 (Operand.tmp 2), type := 29, pos := "ranges.go:112", after := #[{ on := 4, ground := Ground.guard }], guard := some (4, true) }) rfl rfl (by kernel_rfl) (by kernel_rfl) (by kernel_rfl) (fun _ _ _ h => h) ⟨Or.inr ⟨by rfl, rfl⟩, fun _ => rfl⟩ ?_
              simp only [Act.put, List.setIfInBounds_toArray, List.set_cons_zero, List.set_cons_succ]
              refine wpAnyIn_ready (rs := [7]) (by kernel_rfl) (by simp) (AllReadyIn.cons (o := { dst := some 33, op := Op.call { callee := Callee.value (Operand.func 44), args := #[Operand.tmp 32], argTypes := #[29] }, type := 50, pos := "ranges.go:112", after := #[{ on := 6, ground := Ground.data }, { on := 4, ground := Ground.chain }, { on := 4, ground := Ground.guard }], guard := some (4, true) }) rfl (fun K hK => ?_) AllReadyIn.nil)
              go_simp
              try refine ⟨fun _ h => (by first | trivial | cases h), ?_⟩
              refine hK _ _ ?_
              clear hK K
              refine wpAnyIn_ready (rs := [8]) (by kernel_rfl) (by simp) (AllReadyIn.cons (o := { dst := some 34, op := Op.call { callee := Callee.value (Operand.func 64), args := #[Operand.tmp 31, Operand.tmp 33], argTypes := #[50, 50] }, type := 4, pos := "ranges.go:112", after := #[{ on := 5, ground := Ground.data }, { on := 7, ground := Ground.data }, { on := 7, ground := Ground.chain }, { on := 4, ground := Ground.guard }], guard := some (4, true) }) rfl (fun K hK => ?_) AllReadyIn.nil)
              go_simp
              try refine ⟨fun _ h => (by first | trivial | cases h), ?_⟩
              refine hK _ _ ?_
              clear hK K
              refine wpAnyIn_take (i := 9) (oi := { dst := some 35, op := Op.pick (Operand.tmp 30) (Operand.tmp 34) (Operand.const (Value.bool false)), type := 4, pos := "ranges.go:112", after := #[{ on := 4, ground := Ground.data }, { on := 8, ground := Ground.data }], guard := none }) (v := ?_) rfl rfl (by kernel_rfl) (by kernel_rfl) (by kernel_rfl) (fun _ _ _ h => h) ⟨Or.inl ⟨by rfl, ?_⟩, fun _ => rfl⟩ ?_
              rotate_left
              · (intro w; go_simp; try with_reducible rfl)
              simp only [Act.put, List.setIfInBounds_toArray, List.set_cons_zero, List.set_cons_succ]
              refine wpAnyIn_take (i := 10) (oi := { dst := some 36, op := Op.move (Operand.tmp 35), type := 4, pos := "ranges.go:112", after := #[{ on := 9, ground := Ground.data }, { on := 8, ground := Ground.chain }], guard := none }) (v := ?_) rfl rfl (by kernel_rfl) (by kernel_rfl) (by kernel_rfl) (fun _ _ _ h => h) ⟨Or.inl ⟨by rfl, ?_⟩, fun _ => rfl⟩ ?_
              rotate_left
              · (intro w; go_simp; try with_reducible rfl)
              simp only [Act.put, List.setIfInBounds_toArray, List.set_cons_zero, List.set_cons_succ]
              refine wpAnyIn_take (i := 11) (oi := { dst := some 37, op := Op.fieldAddr 50 (Operand.tmp 7) 2, type := 0, pos := "ranges.go:112", after := #[{ on := 10, ground := Ground.guard }], guard := some (10, true) }) rfl rfl (by kernel_rfl) (by kernel_rfl) (by kernel_rfl) (fun _ _ _ h => h) ⟨Or.inr ⟨by rfl, rfl⟩, fun _ => rfl⟩ ?_
              simp only [Act.put, List.setIfInBounds_toArray, List.set_cons_zero, List.set_cons_succ]
              refine wpAnyIn_take (i := 12) (oi := { dst := some 38, op := Op.load 4 (Operand.tmp 37), type := 4, pos := "ranges.go:112", after := #[{ on := 11, ground := Ground.data }, { on := 10, ground := Ground.guard }], guard := some (10, true) }) rfl rfl (by kernel_rfl) (by kernel_rfl) (by kernel_rfl) (fun _ _ _ h => h) ⟨Or.inr ⟨by rfl, rfl⟩, fun _ => rfl⟩ ?_
              simp only [Act.put, List.setIfInBounds_toArray, List.set_cons_zero, List.set_cons_succ]
              refine wpAnyIn_take (i := 13) (oi := { dst := some 39, op := Op.move (Operand.tmp 38), type := 4, pos := "ranges.go:112", after := #[{ on := 12, ground := Ground.data }, { on := 10, ground := Ground.chain }, { on := 10, ground := Ground.guard }], guard := some (10, true) }) rfl rfl (by kernel_rfl) (by kernel_rfl) (by kernel_rfl) (fun _ _ _ h => h) ⟨Or.inr ⟨by rfl, rfl⟩, fun _ => rfl⟩ ?_
              simp only [Act.put, List.setIfInBounds_toArray, List.set_cons_zero, List.set_cons_succ]
              refine wpAnyIn_take (i := 14) (oi := { dst := some 40, op := Op.fieldAddr 29 (Operand.tmp 2) 3, type := 0, pos := "ranges.go:112", after := #[{ on := 13, ground := Ground.guard }], guard := some (13, false) }) rfl rfl (by kernel_rfl) (by kernel_rfl) (by kernel_rfl) (fun _ _ _ h => h) ⟨Or.inr ⟨by rfl, rfl⟩, fun _ => rfl⟩ ?_
              simp only [Act.put, List.setIfInBounds_toArray, List.set_cons_zero, List.set_cons_succ]
              refine wpAnyIn_take (i := 15) (oi := { dst := some 41, op := Op.load 4 (Operand.tmp 40), type := 4, pos := "ranges.go:112", after := #[{ on := 14, ground := Ground.data }, { on := 13, ground := Ground.guard }], guard := some (13, false) }) rfl rfl (by kernel_rfl) (by kernel_rfl) (by kernel_rfl) (fun _ _ _ h => h) ⟨Or.inr ⟨by rfl, rfl⟩, fun _ => rfl⟩ ?_
              simp only [Act.put, List.setIfInBounds_toArray, List.set_cons_zero, List.set_cons_succ]
              refine wpAnyIn_take (i := 16) (oi := { dst := some 42, op := Op.pick (Operand.tmp 39) (Operand.const (Value.bool true)) (Operand.tmp 41), type := 4, pos := "ranges.go:112", after := #[{ on := 13, ground := Ground.data }, { on := 15, ground := Ground.data }, { on := 10, ground := Ground.guard }], guard := some (10, true) }) rfl rfl (by kernel_rfl) (by kernel_rfl) (by kernel_rfl) (fun _ _ _ h => h) ⟨Or.inr ⟨by rfl, rfl⟩, fun _ => rfl⟩ ?_
              simp only [Act.put, List.setIfInBounds_toArray, List.set_cons_zero, List.set_cons_succ]
              refine wpAnyIn_take (i := 17) (oi := { dst := some 43, op := Op.pick (Operand.tmp 36) (Operand.tmp 42) (Operand.const (Value.bool false)), type := 4, pos := "ranges.go:112", after := #[{ on := 10, ground := Ground.data }, { on := 16, ground := Ground.data }], guard := none }) (v := ?_) rfl rfl (by kernel_rfl) (by kernel_rfl) (by kernel_rfl) (fun _ _ _ h => h) ⟨Or.inl ⟨by rfl, ?_⟩, fun _ => rfl⟩ ?_
              rotate_left
              · (intro w; go_simp; try with_reducible rfl)
              simp only [Act.put, List.setIfInBounds_toArray, List.set_cons_zero, List.set_cons_succ]
              refine wpAnyIn_take (i := 18) (oi := { dst := some 44, op := Op.move (Operand.tmp 43), type := 4, pos := "ranges.go:112", after := #[{ on := 17, ground := Ground.data }, { on := 13, ground := Ground.chain }], guard := none }) (v := ?_) rfl rfl (by kernel_rfl) (by kernel_rfl) (by kernel_rfl) (fun _ _ _ h => h) ⟨Or.inl ⟨by rfl, ?_⟩, fun _ => rfl⟩ ?_
              rotate_left
              · (intro w; go_simp; try with_reducible rfl)
              simp only [Act.put, List.setIfInBounds_toArray, List.set_cons_zero, List.set_cons_succ]
              refine wpAnyIn_take (i := 19) (oi := { dst := some 45, op := Op.move (Operand.tmp 0), type := 32, pos := "ranges.go:112", after := #[{ on := 18, ground := Ground.guard }], guard := some (18, true) }) rfl rfl (by kernel_rfl) (by kernel_rfl) (by kernel_rfl) (fun _ _ _ h => h) ⟨Or.inr ⟨by rfl, rfl⟩, fun _ => rfl⟩ ?_
              simp only [Act.put, List.setIfInBounds_toArray, List.set_cons_zero, List.set_cons_succ]
              refine wpAnyIn_take (i := 20) (oi := { dst := some 46, op := Op.load 50 (Operand.tmp 7), type := 50, pos := "ranges.go:112", after := #[{ on := 18, ground := Ground.guard }], guard := some (18, true) }) rfl rfl (by kernel_rfl) (by kernel_rfl) (by kernel_rfl) (fun _ _ _ h => h) ⟨Or.inr ⟨by rfl, rfl⟩, fun _ => rfl⟩ ?_
              simp only [Act.put, List.setIfInBounds_toArray, List.set_cons_zero, List.set_cons_succ]
              refine wpAnyIn_take (i := 21) (oi := { dst := some 47, op := Op.move (Operand.tmp 5), type := 3, pos := "ranges.go:112", after := #[{ on := 18, ground := Ground.guard }], guard := some (18, true) }) rfl rfl (by kernel_rfl) (by kernel_rfl) (by kernel_rfl) (fun _ _ _ h => h) ⟨Or.inr ⟨by rfl, rfl⟩, fun _ => rfl⟩ ?_
              simp only [Act.put, List.setIfInBounds_toArray, List.set_cons_zero, List.set_cons_succ]
              refine wpAnyIn_ready (rs := [22]) (by kernel_rfl) (by simp) (AllReadyIn.cons (o := { dst := some 48, op := Op.call { callee := Callee.value (Operand.func 18), args := #[Operand.tmp 46, Operand.tmp 47], argTypes := #[50, 3] }, type := 29, pos := "ranges.go:112", after := #[{ on := 20, ground := Ground.data }, { on := 21, ground := Ground.data }, { on := 18, ground := Ground.chain }, { on := 18, ground := Ground.guard }], guard := some (18, true) }) rfl (fun K hK => ?_) AllReadyIn.nil)
              go_simp
              try refine ⟨fun _ h => (by first | trivial | cases h), ?_⟩
              refine hK _ _ ?_
              clear hK K
              refine wpAnyIn_ready (rs := [23]) (by kernel_rfl) (by simp) (AllReadyIn.cons (o := { dst := some 49, op := Op.call { callee := Callee.value (Operand.tmp 45), args := #[Operand.tmp 48], argTypes := #[29] }, type := 4, pos := "ranges.go:112", after := #[{ on := 19, ground := Ground.data }, { on := 22, ground := Ground.data }, { on := 22, ground := Ground.chain }, { on := 18, ground := Ground.guard }], guard := some (18, true) }) rfl (fun K hK => ?_) AllReadyIn.nil)
              go_simp
              try refine ⟨fun _ h => (by first | trivial | cases h), ?_⟩
              refine hK _ _ ?_
              clear hK K
              refine wpAnyIn_take (i := 24) (oi := { dst := some 50, op := Op.unOp UnOp.not 4 (Operand.tmp 49), type := 4, pos := "ranges.go:112", after := #[{ on := 23, ground := Ground.data }, { on := 18, ground := Ground.guard }], guard := some (18, true) }) rfl rfl (by kernel_rfl) (by kernel_rfl) (by kernel_rfl) (fun _ _ _ h => h) ⟨Or.inr ⟨by rfl, rfl⟩, fun _ => rfl⟩ ?_
              simp only [Act.put, List.setIfInBounds_toArray, List.set_cons_zero, List.set_cons_succ]
              refine wpAnyIn_take (i := 25) (oi := { dst := some 51, op := Op.pick (Operand.tmp 44) (Operand.tmp 50) (Operand.const (Value.bool false)), type := 4, pos := "ranges.go:112", after := #[{ on := 18, ground := Ground.data }, { on := 24, ground := Ground.data }], guard := none }) (v := ?_) rfl rfl (by kernel_rfl) (by kernel_rfl) (by kernel_rfl) (fun _ _ _ h => h) ⟨Or.inl ⟨by rfl, ?_⟩, fun _ => rfl⟩ ?_
              rotate_left
              · (intro w; go_simp; try with_reducible rfl)
              simp only [Act.put, List.setIfInBounds_toArray, List.set_cons_zero, List.set_cons_succ]
              refine wpAnyIn_done (by kernel_rfl) ?_ _
              have hbf : Below W1.heap.size W1 Wd := by assumption
              have HJ5 := Lib.hid (show J (ext B1 W1 Wd) (posC G l k en (j + 1)) Wd by have h1 := HX.out _ _ _ _ HJ1.out hbf; rw [HNX.out]; exact h1)
              have HB5 := Lib.hid (show ext B1 W1 Wd gb from .inl HB1.out)
              have HG5 := Lib.hid ((hbf.block gb (by have h1 := HG1.out; rw [Array.getElem?_eq_getElem (HR4.out.1.lt _ rfl).2] at h1; exact (Array.getElem?_eq_some_iff.1 h1).1)).trans HG1.out)
              gi_wp2
              go_roundw
              case rel => exact ⟨j + 1, by have := HLT2.out; omega, by go_num, _, HJ5, HB5, HG5⟩
              case measure => simp [RowKit.intOf]; have := HLT2.out; omega
          · obtain rfl : j = en.l.length := by omega
            have HN := Lib.hid (show J B (confL (G.take (k + 1)) l).length wr by rw [← posC_all HEN.out]; exact hJ.out)
            gi_wp2
            go_roundw
            case rel => exact ⟨k + 1, by have := HLT.out; omega, by go_num, _, HN, hBg, hgb⟩
            case measure => simp [RowKit.intOf]; have := HLT.out; omega
      · obtain rfl : k = G.length := by omega
        rw [List.take_length] at hJ
        gi_wp2
        go_end0
        exact ⟨⟨_, rfl⟩, .inl ⟨_, hJ.out⟩⟩
end
section
set_option linter.unusedVariables false
set_option linter.unusedSimpArgs false
open Go.RowKit Go.Maps Go.Sort Go.Lib Go.Shelf Go.Proofs.YtoolflmaaooplaaGreatW.PrintWords Go.Proofs.YtoolflmaaooplaaGreatW.PrintLast Go.Proofs.YtoolflmaaooplaaGreatW.PrintMore FLib
attribute [local go_sem] Oper.semAt_some
attribute [local go_sem] below_alloc_T below_drew_T below_drewN_T

def encVC (L : List Lk) (k : Nat) : Value := match L[k]? with | some x => lkV x | none => .int .i64 0
theorem encC_eq (L : List Lk) (k : Nat) : encC L k = #[encVC L k] := by unfold encC encVC; cases L[k]? <;> rfl
theorem RdC.below {p mb : Nat} {qv : Value} {G : List Ent} {Q : List Lk} {q : Nat} {l : Lk} {W W' : World} (h : RdC p mb qv G Q q l W) (hb : Below W.heap.size W W') : RdC p mb qv G Q q l W' := ⟨h.tg.below hb, blk_below h.b0 hb, blk_below h.b1 hb⟩
theorem below_put {w W : World} (h : Below w.heap.size w W) {l : Nat} (hl : w.heap.size ≤ l) (o : Obj) : Below w.heap.size w (W.putObj l o) :=
  ⟨h.os, h.tape, h.output, by simpa [World.putObj] using h.size, fun k hk => (World.putObj_heap_other (by omega)).trans (h.block k hk)⟩
theorem below_back {w W1 W2 : World} (h : Below w.heap.size w W1) (hb : Below W1.heap.size W1 W2) : Below w.heap.size w W2 := h.trans (hb.mono h.size)

set_option maxRecDepth 100000 in
set_option maxHeartbeats 2000000 in
theorem free_any (p mb : Nat) (qv : Value) (G : List Ent) (Q : List Lk) (hs : GSort G) (hok : GOk G) (l : Lk) (hl : -1000000 ≤ l.st + l.len ∧ l.st + l.len ≤ 1000000) (w : World) (h : TG w p mb qv G Q) :
    Calls Tryz.prog 23 #[.pointer (some ⟨p, 0, none⟩), lkV l] w fun e w' => e = .returned (.bool (confL G l).isEmpty) ∧ Below w.heap.size w w' := by
  refine (callsIn_wide (n := 20)).1 ?_
  have HT := Lib.hid h
  have HC := Lib.hid (fun w => (callsIn_wide (n := 19)).2 (conflicts_any p l w))
  have HS := Lib.hid hs
  have HOK := Lib.hid hok
  have HL := Lib.hid hl
  clear h hs hok hl
  have e0 : w.heap[w.heap.size]? = none := by simp
  refine callsIn_of_wp_marks Tryz.func23 rfl trivial ?_ rfl
  simp only [Tryz.ntmps23, List.size_toArray, List.length_cons, List.length_nil, Nat.reduceAdd, Nat.reduceSub, Array.replicate_succ, Array.replicate_zero, List.push_toArray, List.append_toArray, List.nil_append, List.cons_append]
  simp only [lkV] at HC ⊢
  have h42 : Fence.wide.fn 43 := trivial
  gi_wp2_with fail
  refine (HC.out _).mono ?_
  rintro e w3 ⟨rfl, rfl⟩
  simp only [World.size_alloc]
  gi_wp2
  refine abs_in (fun W0 => W0.heap.size = w.heap.size + 4 ∧ RdC p mb qv G Q (w.heap.size + 1 + 1) l W0 ∧ W0.heap[w.heap.size + 1]? = some (.cells #[.bool false] 4 (0, 0)) ∧ Below w.heap.size w W0) ?_ ?_
  · have hb : ∀ o1 o2 o3 o4 : Obj, Below w.heap.size w ((((w.alloc o1).alloc o2).alloc o3).alloc o4) := fun o1 o2 o3 o4 => below_alloc (below_alloc (below_alloc (below_alloc (Below.refl _ _) _) _) _) _
    refine ⟨by simp, ⟨HT.out.below (hb _ _ _ _), ?_, ?_⟩, ?_, hb _ _ _ _⟩
    · have := blk_alloc (blk_new ((w.alloc (.cells #[.int .i64 l.own, .int .i64 l.st, .int .i64 l.len, .bool l.ex] 29)).alloc (.cells #[.bool false] 4)) (.cells #[.pointer (some ⟨p, 0, none⟩)] 24)) (.cells l.cells.toArray 29)
      simpa using this
    · have := blk_new (((w.alloc (.cells #[.int .i64 l.own, .int .i64 l.st, .int .i64 l.len, .bool l.ex] 29)).alloc (.cells #[.bool false] 4)).alloc (.cells #[.pointer (some ⟨p, 0, none⟩)] 24)) (.cells l.cells.toArray 29)
      simpa using this
    · have := blk_alloc (blk_alloc (blk_new (w.alloc (.cells #[.int .i64 l.own, .int .i64 l.st, .int .i64 l.len, .bool l.ex] 29)) (.cells #[.bool false] 4)) (.cells #[.pointer (some ⟨p, 0, none⟩)] 24)) (.cells l.cells.toArray 29)
      simpa using this
  rintro W0 ⟨hz0, hR0, h4, hB0⟩
  have HZ := Lib.hid hz0
  have HR0 := Lib.hid hR0
  have H4 := Lib.hid h4
  have HB0 := Lib.hid hB0
  clear hz0 hR0 h4 hB0
  refine range_at (m := 20) (by omega) (gf := 63) (ba := #[]) (lb := #[.pointer (some ⟨w.heap.size + 1 + 1, 0, none⟩), .pointer (some ⟨w.heap.size + 1 + 1 + 1, 0, none⟩)]) rfl (enters_of Tryz.func63 (by kernel_rfl) rfl)
    (conf_at 19 (by omega) p mb qv G Q HS.out HOK.out (w.heap.size + 1 + 1) l HL.out W0 HR0.out) (fun k => encC_size _ k)
    (fun _ k W => k = 0 ∧ Below W0.heap.size W0 W) (fun c W => c = .ret ∧ confL G l ≠ [] ∧ Below w.heap.size w W ∧ W.heap[w.heap.size + 1]? = some (.cells #[.bool false] 4 (0, 0))) ?rd ?inv ?invx ?ext ?start
    (fun k => { tmps := #[.pointer (some ⟨p, 0, none⟩), .agg #[.int .i64 l.own, .int .i64 l.st, .int .i64 l.len, .bool l.ex], undef, .pointer (some ⟨w.heap.size, 0, none⟩), .pointer (some ⟨w.heap.size + 1, 0, none⟩), .pointer (some ⟨p, 0, none⟩),
      .agg #[.int .i64 l.own, .int .i64 l.st, .int .i64 l.len, .bool l.ex], .func (.func 63) #[] #[.pointer (some ⟨w.heap.size + 1 + 1, 0, none⟩), .pointer (some ⟨w.heap.size + 1 + 1 + 1, 0, none⟩)], encVC (confL G l) k], defers := [] })
    ?assign ?body ?done ?stop
  case rd => exact fun _ k W hI => HR0.out.below hI.2
  case inv =>
    intro _ k W r o hI hl
    exact ⟨hI.1, below_put hI.2 (by have := HZ.out; omega) o⟩
  case invx =>
    rintro c W r o ⟨h1, h2, h3, h4⟩ hl
    exact ⟨h1, h2, below_put h3 (by have := HZ.out; omega) o, (World.putObj_heap_other (by have := HZ.out; omega)).trans h4⟩
  case ext => exact fun B k W1 W2 _ hI hb => ⟨hI.1, below_back hI.2 hb⟩
  case start => exact fun W hb _ => ⟨rfl, hb⟩
  case assign =>
    intro k W K hK
    rw [encC_eq]
    gi_wp2
    simpa using hK
  case body =>
    rintro B k W hB hk ⟨rfl, hI⟩
    have h4 := blk_below H4.out hI
    have a0 : W.cell? ⟨w.heap.size + 1, 0, none⟩ = some (.bool false) := blk_cell h4 0
    have a1 : W.frozen? ⟨w.heap.size + 1, 0, none⟩ = false := blk_frozen h4 0
    have HH := Lib.hid (And.intro hB (And.intro hk (And.intro hI h4)))
    clear hB hk hI h4
    gi_wp2
    obtain ⟨hB, hk, hI, h4⟩ := HH.out
    refine ⟨fun b hb => Below.heap_setCell _ _ _ _ (by have := hB b hb; have := HZ.out; show b ≠ w.heap.size + 1; omega), rfl, fun e => by rw [e] at hk; simp at hk, ?_, blk_put h4 0 _ rfl⟩
    exact ((Keeps.of_below (below_back HB0.out hI) (fun _ => False)).set ⟨w.heap.size + 1, 0, none⟩ _ (.inr (Nat.le_succ _))).below (Nat.le_refl _) (fun _ h => h.elim)
  case done =>
    rintro B W ⟨hN, hI⟩ hK
    have hnil : (confL G l).isEmpty = true := by rw [List.isEmpty_iff]; exact List.eq_nil_of_length_eq_zero hN
    have h4 := blk_below H4.out hI
    have a0 : W.cell? ⟨w.heap.size + 1, 0, none⟩ = some (.bool false) := blk_cell h4 0
    have a1 : W.frozen? ⟨w.heap.size + 1, 0, none⟩ = false := blk_frozen h4 0
    have HE := Lib.hid (And.intro hnil (And.intro hI (And.intro h4 hK)))
    clear hnil hI h4 hK hN
    gi_wp2
    obtain ⟨hnil, hI, h4, hK⟩ := HE.out
    have hK2 : (W.setCell ⟨w.heap.size + 1, 0, none⟩ (.bool true)).heap[W0.heap.size]? = some (.deferred (some [])) := (Below.heap_setCell _ _ _ _ (by have := HZ.out; show W0.heap.size ≠ w.heap.size + 1; omega)).trans hK
    have h42 := blk_put (cs' := #[.bool true]) h4 0 (.bool true) rfl
    have hbf : Below w.heap.size w (W.setCell ⟨w.heap.size + 1, 0, none⟩ (.bool true)) := ((Keeps.of_below (below_back HB0.out hI) (fun _ => False)).set ⟨w.heap.size + 1, 0, none⟩ _ (.inr (Nat.le_succ _))).below (Nat.le_refl _) (fun _ h => h.elim)
    refine ⟨by simp, .inl ⟨_, _, rfl, run_takeDeferred hK2, ?_⟩⟩
    have c3 : ((W.setCell ⟨w.heap.size + 1, 0, none⟩ (.bool true)).putObj W0.heap.size (.deferred none)).cell? ⟨w.heap.size + 1, 0, none⟩ = some (.bool true) := blk_cell ((World.putObj_heap_other (by have := HZ.out; omega)).trans h42) 0
    refine ⟨.bool true, by simp [results, Tryz.results23, go_sem, c3], by rw [hnil], below_put hbf (by have := HZ.out; omega) _⟩
  case stop =>
    rintro c W ⟨rfl, hne, hb, h4⟩ hK
    have hnil : (confL G l).isEmpty = false := by cases h : confL G l with | nil => exact absurd h hne | cons => rfl
    gi_wp2
    refine ⟨by simp, .inl ⟨_, _, rfl, run_takeDeferred hK, ?_⟩⟩
    have c3 : (W.putObj W0.heap.size (.deferred none)).cell? ⟨w.heap.size + 1, 0, none⟩ = some (.bool false) := blk_cell ((World.putObj_heap_other (by have := HZ.out; omega)).trans h4) 0
    refine ⟨.bool false, by simp [results, Tryz.results23, go_sem, c3], by rw [hnil], below_put hb (by have := HZ.out; omega) _⟩
end
end Go.Proofs.YtoolflmaaooplaaGreat
