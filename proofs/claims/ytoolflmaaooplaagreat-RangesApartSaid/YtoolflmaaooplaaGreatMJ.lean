/- Ranges: the reference: pieces and scan. -/
import Derived.Test.YtoolflmaaooplaaGreatMH
import Derived.Test.YtoolflmaaooplaaGreatMI
namespace Go.Proofs.YtoolflmaaooplaaGreat
section
set_option linter.unusedVariables false
set_option linter.unusedSimpArgs false
open Go.RowKit Go.Maps Go.Sort Go.Lib Go.Shelf Go.Proofs.YtoolflmaaooplaaGreatW.PrintWords Go.Proofs.YtoolflmaaooplaaGreatW.PrintLast Go.Proofs.YtoolflmaaooplaaGreatW.PrintMore FLib
attribute [local go_sem] below_alloc_T below_drew_T below_drewN_T

/-- A piece of the reference. -/
structure Pc where
  own : Int
  lo : Int
  hi : Int
  ex : Bool
deriving Inhabited, DecidableEq
def Pc.cells (s : Pc) : List Value := [.int .i64 s.own, .int .i64 s.lo, .int .i64 s.hi, .bool s.ex]
def pcV (s : Pc) : Value := .agg #[.int .i64 s.own, .int .i64 s.lo, .int .i64 s.hi, .bool s.ex]
def pflat (L : List Pc) : List Value := L.flatMap Pc.cells
def rofI (l : Lk) : Pc := ⟨l.own, l.st, if l.len = 0 then 1099511627776 else l.st + l.len, l.ex⟩
def rlockI (p : Pc) : Lk := ⟨p.own, p.lo, if p.hi = 1099511627776 then 0 else p.hi - p.lo, p.ex⟩
def roverI (a b : Pc) : Bool := decide (a.lo < b.hi) && decide (b.lo < a.hi)
def rconfI (a b : Pc) : Bool := (a.own != b.own) && (roverI a b && (a.ex || b.ex))
theorem rvalid_any (l : Lk) (w : World) : Calls Tryz.prog 50 #[lkV l] w fun e w' => e = .returned (.bool (okL l.own l.st l.len)) ∧ Below w.heap.size w w' := by
  unfold okL
  simp only [lkV]
  cases d1 : decide (0 ≤ l.own)
  · go_enter Tryz.func50, Tryz.ntmps50
    go_wp2
    go_ret
    exact ⟨rfl, below_alloc (Below.refl _ _) _⟩
  cases d2 : decide (0 ≤ l.st)
  · go_enter Tryz.func50, Tryz.ntmps50
    go_wp2
    go_ret
    exact ⟨rfl, below_alloc (Below.refl _ _) _⟩
  cases d3 : decide (l.st ≤ 16384)
  · go_enter Tryz.func50, Tryz.ntmps50
    go_wp2
    go_ret
    exact ⟨rfl, below_alloc (Below.refl _ _) _⟩
  cases d4 : decide (0 ≤ l.len)
  · go_enter Tryz.func50, Tryz.ntmps50
    go_wp2
    go_ret
    exact ⟨rfl, below_alloc (Below.refl _ _) _⟩
  cases d5 : decide (l.len ≤ 16384)
  all_goals
    go_enter Tryz.func50, Tryz.ntmps50
    go_wp2
    go_ret
    exact ⟨rfl, below_alloc (Below.refl _ _) _⟩
theorem rover_any (a b : Pc) (w : World) : Calls Tryz.prog 71 #[pcV a, pcV b] w fun e w' => e = .returned (.bool (roverI a b)) ∧ Below w.heap.size w w' := by
  unfold roverI
  simp only [pcV]
  cases d1 : decide (a.lo < b.hi)
  all_goals
    go_enter Tryz.func71, Tryz.ntmps71
    go_wp2
    go_ret
    exact ⟨rfl, below_alloc (below_alloc (Below.refl _ _) _) _⟩
theorem rof_any (l : Lk) (h : okL l.own l.st l.len = true) (w : World) : Calls Tryz.prog 52 #[lkV l] w fun e w' => e = .returned (pcV (rofI l)) ∧ Below w.heap.size w w' := by
  have hw : IntKind.i64.wrap (l.st + l.len) = l.st + l.len := IntWalk.i64_in _ (by have := okL_sum h; omega)
  unfold rofI pcV
  simp only [lkV]
  clear h
  by_cases h0 : l.len = 0
  · have d0 : (l.len == 0) = true := by simpa using h0
    rw [if_pos h0]
    clear h0
    go_enter Tryz.func52, Tryz.ntmps52
    go_wp2
    refine bodyPost_ret (v := .agg #[.int .i64 l.own, .int .i64 l.st, .int .i64 1099511627776, .bool l.ex]) (by simp [results, Tryz.results52, go_sem]) rfl ?_
    exact ⟨rfl, by first | exact below_alloc (below_alloc (below_alloc (Below.refl _ _) _) _) _ | (trace_state; sorry)⟩
  · have d0 : (l.len == 0) = false := by simpa using h0
    rw [if_neg h0]
    clear h0
    go_enter Tryz.func52, Tryz.ntmps52
    go_wp2
    refine bodyPost_ret (v := .agg #[.int .i64 l.own, .int .i64 l.st, .int .i64 (l.st + l.len), .bool l.ex]) (by simp [results, Tryz.results52, go_sem]) rfl ?_
    exact ⟨rfl, by first | exact below_alloc (below_alloc (below_alloc (Below.refl _ _) _) _) _ | (trace_state; sorry)⟩
theorem rlock_any (s : Pc) (h : 0 ≤ s.lo ∧ s.lo ≤ 1099511627776 ∧ 0 ≤ s.hi ∧ s.hi ≤ 1099511627776) (w : World) : Calls Tryz.prog 60 #[pcV s] w fun e w' => e = .returned (lkV (rlockI s)) ∧ Below w.heap.size w w' := by
  have hw : IntKind.i64.wrap (s.hi - s.lo) = s.hi - s.lo := IntWalk.i64_in _ (by omega)
  unfold rlockI lkV
  simp only [pcV]
  clear h
  by_cases h0 : s.hi = 1099511627776
  · have d0 : (s.hi == 1099511627776) = true := by simpa using h0
    rw [if_pos h0]
    have HZ := Lib.hid h0
    clear h0
    go_enter Tryz.func60, Tryz.ntmps60
    go_wp2
    refine bodyPost_ret (v := .agg #[.int .i64 s.own, .int .i64 s.lo, .int .i64 0, .bool s.ex]) (by simp [results, Tryz.results60, go_sem]) rfl ?_
    exact ⟨rfl, below_alloc (below_alloc (below_alloc (Below.refl _ _) _) _) _⟩
  · have d0 : (s.hi == 1099511627776) = false := by simpa using h0
    rw [if_neg h0]
    have HZ := Lib.hid h0
    clear h0
    go_enter Tryz.func60, Tryz.ntmps60
    go_wp2
    refine bodyPost_ret (v := .agg #[.int .i64 s.own, .int .i64 s.lo, .int .i64 (s.hi - s.lo), .bool s.ex]) (by simp [results, Tryz.results60, go_sem]) rfl ?_
    exact ⟨rfl, below_alloc (below_alloc (below_alloc (Below.refl _ _) _) _) _⟩
theorem rconf_any (a b : Pc) (w : World) : Calls Tryz.prog 70 #[pcV a, pcV b] w fun e w' => e = .returned (.bool (rconfI a b)) ∧ Below w.heap.size w w' := by
  have HO := Lib.hid (fun w => rover_any a b w)
  unfold rconfI
  have hba := blk_new w (.cells a.cells.toArray 91)
  have hb2 := below_alloc (below_alloc (Below.refl w.heap.size w) (.cells a.cells.toArray 91)) (.cells b.cells.toArray 91)
  have hbb : ((w.alloc (.cells a.cells.toArray 91)).alloc (.cells b.cells.toArray 91)).heap[w.heap.size + 1]? = some (.cells b.cells.toArray 91 (0, 0)) := by
    have := blk_new (w.alloc (.cells a.cells.toArray 91)) (.cells b.cells.toArray 91)
    rw [World.size_alloc] at this; exact this
  have HB := Lib.hid (And.intro (blk_alloc hba (.cells b.cells.toArray 91)) (And.intro hbb hb2))
  clear hba hb2 hbb
  simp only [pcV, Pc.cells] at HO HB ⊢
  generalize roverI a b = ov at HO ⊢
  cases d1 : (a.own != b.own)
  · have heq : (a.own == b.own) = true := by simpa using d1
    go_enter Tryz.func70, Tryz.ntmps70
    go_wp2
    go_ret
    exact ⟨rfl, HB.out.2.2⟩
  · have hne : (a.own == b.own) = false := by simpa using d1
    have hne2 : ¬ a.own = b.own := by simpa using d1
    cases ov
    · go_enter Tryz.func70, Tryz.ntmps70
      go_wp2_with fail
      refine (HO.out _).mono ?_
      rintro e w3 ⟨rfl, hb3⟩
      have H3 := Lib.hid (HB.out.2.2.trans (hb3.mono HB.out.2.2.size))
      clear hb3
      go_wp2
      go_ret
      exact ⟨rfl, H3.out⟩
    · cases ea : a.ex
      all_goals
        rw [ea] at HO HB
        go_enter Tryz.func70, Tryz.ntmps70
        go_wp2_with fail
        refine (HO.out _).mono ?_
        rintro e w3 ⟨rfl, hb3⟩
        have y1 : w3.cell? ⟨w.heap.size, 3, none⟩ = some (.bool _) := blk_cell (blk_below HB.out.1 hb3) 3
        have y2 : w3.cell? ⟨w.heap.size + 1, 3, none⟩ = some (.bool _) := blk_cell (blk_below HB.out.2.1 hb3) 3
        have H3 := Lib.hid (HB.out.2.2.trans (hb3.mono HB.out.2.2.size))
        clear hb3
        go_wp2
        go_ret
        exact ⟨rfl, H3.out⟩
end
section
set_option linter.unusedVariables false
set_option linter.unusedSimpArgs false
open Go.RowKit Go.Maps Go.Sort Go.Lib Go.Shelf Go.Proofs.YtoolflmaaooplaaGreatW.PrintWords Go.Proofs.YtoolflmaaooplaaGreatW.PrintLast Go.Proofs.YtoolflmaaooplaaGreatW.PrintMore FLib
attribute [local go_sem] below_alloc_T below_drew_T below_drewN_T

/-- The reference's table: q its cells. -/
structure RT (W : World) (q : Nat) (gv qv : Value) (P : List Pc) (Q : List Lk) : Prop where
  hdr : W.heap[q]? = some (.cells #[gv, qv] 62 (0, 0))
  gr : W.ownsRow 0 91 4 gv P.length (pflat P)
  qr : W.ownsRow 0 63 4 qv Q.length (lflat Q)
theorem RT.below {W W' : World} {q : Nat} {gv qv : Value} {P : List Pc} {Q : List Lk} (h : RT W q gv qv P Q) (hb : Below W.heap.size W W') : RT W' q gv qv P Q := ⟨blk_below h.hdr hb, pw_own_below h.gr hb, pw_own_below h.qr hb⟩
theorem row_lk' {w : World} {base e g c n : Nat} {l : List Lk} (h : w.ownsRow base e 4 (.slice (some ⟨g, 0, none⟩) n c) n (lflat l)) {k : Nat} {x : Lk} (hk : l[k]? = some x) :
    w.cell? ⟨g, k * 4, none⟩ = some (.int .i64 x.own) ∧ w.cell? ⟨g, k * 4 + 1, none⟩ = some (.int .i64 x.st) ∧ w.cell? ⟨g, k * 4 + 2, none⟩ = some (.int .i64 x.len) ∧ w.cell? ⟨g, k * 4 + 3, none⟩ = some (.bool x.ex) := row_lk h hk
theorem row_pc {w : World} {base e g c n : Nat} {l : List Pc} (h : w.ownsRow base e 4 (.slice (some ⟨g, 0, none⟩) n c) n (pflat l)) {k : Nat} {x : Pc} (hk : l[k]? = some x) :
    w.cell? ⟨g, k * 4, none⟩ = some (.int .i64 x.own) ∧ w.cell? ⟨g, k * 4 + 1, none⟩ = some (.int .i64 x.lo) ∧ w.cell? ⟨g, k * 4 + 2, none⟩ = some (.int .i64 x.hi) ∧ w.cell? ⟨g, k * 4 + 3, none⟩ = some (.bool x.ex) := by
  have key : ∀ j u, j < 4 → x.cells[j]? = some u → w.cell? ⟨g, k * 4 + j, none⟩ = some u := fun j u hj hu => by
    have := h.cells (g := g) rfl (k * 4 + j) u (by unfold pflat; rw [flat_at Pc.cells 4 (fun _ => rfl) l k x hk j hj]; exact hu)
    rw [addmk, Nat.zero_add] at this
    exact this
  exact ⟨key 0 _ (by omega) rfl, key 1 _ (by omega) rfl, key 2 _ (by omega) rfl, key 3 _ (by omega) rfl⟩
/-- The place of the first of a list, -1 if there is none. -/
def idxI {α : Type} (p : α → Bool) (L : List α) : Int := if L.findIdx p < L.length then (L.findIdx p : Int) else -1
theorem idxI_step {α : Type} {p : α → Bool} {L : List α} {k : Nat} {x : α} (h : k ≤ L.findIdx p) (hx : L[k]? = some x) (hn : p x = false) : k + 1 ≤ L.findIdx p := by
  rcases Nat.lt_or_ge k (L.findIdx p) with h1 | h1
  · exact h1
  · have e : L.findIdx p = k := by omega
    have hlt := (List.getElem?_eq_some_iff.1 hx).1
    have := List.findIdx_getElem (p := p) (xs := L) (w := by rw [e]; exact hlt)
    simp only [e] at this
    rw [(List.getElem?_eq_some_iff.1 hx).2, hn] at this
    cases this
theorem idxI_here {α : Type} {p : α → Bool} {L : List α} {k : Nat} {x : α} (h : k ≤ L.findIdx p) (hx : L[k]? = some x) (hn : p x = true) : idxI p L = (k : Int) := by
  have hlt := (List.getElem?_eq_some_iff.1 hx).1
  have h2 : L.findIdx p ≤ k := by
    rcases Nat.lt_or_ge k (L.findIdx p) with h1 | h1
    · have := List.not_of_lt_findIdx h1
      rw [(List.getElem?_eq_some_iff.1 hx).2] at this
      rw [hn] at this; cases this
    · exact h1
  have e : L.findIdx p = k := by omega
  unfold idxI
  rw [e, if_pos hlt]
theorem idxI_none {α : Type} {p : α → Bool} {L : List α} (h : L.length ≤ L.findIdx p) : idxI p L = -1 := by unfold idxI; rw [if_neg (by omega)]
set_option maxRecDepth 100000 in
set_option maxHeartbeats 1000000 in
theorem rwaits_any (q : Nat) (gv qv : Value) (P : List Pc) (Q : List Lk) (hq : Q.length ≤ 10000) (o : Int) (w : World) (h : RT w q gv qv P Q) :
    Calls Tryz.prog 51 #[.pointer (some ⟨q, 0, none⟩), .int .i64 o] w fun e w' => e = .returned (.int .i64 (idxI (fun l : Lk => l.own == o) Q)) ∧ w = w' := by
  have HL := Lib.hid hq
  have c1 : w.cell? ⟨q, 1, none⟩ = some qv := blk_cell h.hdr 1
  have HR := Lib.hid h.qr
  rcases row_form h.qr with ⟨rfl, hz⟩ | ⟨g, c, rfl⟩
  · have HE := Lib.hid (idxI_none (p := fun l : Lk => l.own == o) (L := Q) (by omega))
    rw [HE.out]
    clear h hq hz HR
    go_enter Tryz.func51, Tryz.ntmps51
    go_wp2
    refine wp_loop_rounds 1 ?_
    rw [rounds_succ]
    go_wp2
    go_ret
    exact ⟨rfl, rfl⟩
  · clear h hq
    go_enter Tryz.func51, Tryz.ntmps51
    go_wp2
    go_loopw [5] (fun t wr => ∃ k : Nat, k ≤ Q.length ∧ t = .int .i64 k ∧ Hid (k ≤ Q.findIdx (fun l => l.own == o)) ∧ wr = w) (fun t _ => Q.length - (RowKit.intOf t).toNat)
    case atStart => exact ⟨0, Nat.zero_le _, rfl, Lib.hid (Nat.zero_le _), rfl⟩
    case round =>
      obtain ⟨k, hk, rfl, hI, rfl⟩ := hrel
      have hlr : (Q.length : Int) ≤ 10000 := by have := HL.out; omega
      by_cases hlt : k < Q.length
      · obtain ⟨x, hx⟩ : ∃ x, Q[k]? = some x := ⟨_, List.getElem?_eq_getElem hlt⟩
        obtain ⟨p0, p1, p2, p3⟩ := row_lk' HR.out hx
        have hk0 : (0 : Int) ≤ (k : Int) := by omega
        have hk1 : (k : Int) < (Q.length : Int) := by omega
        have HKL := Lib.hid hlt
        have HX := Lib.hid hx
        clear hx hlt
        by_cases hxo : x.own = o
        · have d1 : (x.own == o) = true := by simpa using hxo
          have hE := Lib.hid (idxI_here (p := fun l : Lk => l.own == o) hI.out HX.out d1)
          clear hxo
          go_wp2
          go_ret
          exact ⟨by rw [hE.out]; rfl, rfl⟩
        · have d1 : (x.own == o) = false := by simpa using hxo
          have hE := Lib.hid (idxI_step (p := fun l : Lk => l.own == o) hI.out HX.out d1)
          clear hxo
          go_wp2
          go_roundw
          case rel => exact ⟨k + 1, by have := HKL.out; omega, by go_num, hE, by first | rfl | trivial⟩
          case measure => have := HKL.out; simp [RowKit.intOf]; omega
      · obtain rfl : k = Q.length := by omega
        have hE := Lib.hid (idxI_none (p := fun l : Lk => l.own == o) hI.out)
        go_wp2
        go_ret
        exact ⟨by rw [hE.out]; rfl, rfl⟩
set_option maxRecDepth 100000 in
set_option maxHeartbeats 1000000 in
theorem first_any (q : Nat) (gv qv : Value) (P : List Pc) (Q : List Lk) (hq : P.length ≤ 10000) (c : Pc) (w : World) (h : RT w q gv qv P Q) :
    Calls Tryz.prog 53 #[.pointer (some ⟨q, 0, none⟩), pcV c] w fun e w' => e = .returned (.int .i64 (idxI (fun s => rconfI s c) P)) ∧ Below w.heap.size w w' := by
  have HL := Lib.hid hq
  have HT := Lib.hid h
  have HCF := Lib.hid (fun s w => rconf_any s c w)
  have hbx := blk_new w (.cells c.cells.toArray 91)
  have hb0 := below_alloc (Below.refl w.heap.size w) (.cells c.cells.toArray 91)
  rcases row_form h.gr with ⟨rfl, hz⟩ | ⟨g, cc, rfl⟩
  · have HE := Lib.hid (idxI_none (p := fun s => rconfI s c) (L := P) (by omega))
    rw [HE.out]
    have c0 := later_cell (v := .slice none 0 0) (blk_cell h.hdr 0)
    have hs0 := Below.refl w.heap.size w
    clear h hq hz HCF hbx
    simp only [pcV, Pc.cells] at hb0 ⊢
    have HB := Lib.hid hb0
    clear hb0 HT
    go_enter Tryz.func53, Tryz.ntmps53
    go_wp2
    refine wp_loop_rounds 1 ?_
    rw [rounds_succ]
    go_wp2
    go_ret
    exact ⟨rfl, HB.out⟩
  · have HB := Lib.hid (And.intro hb0 hbx)
    clear h hq hbx hb0
    simp only [pcV, Pc.cells] at HB HCF ⊢
    go_enter Tryz.func53, Tryz.ntmps53
    go_wp2
    go_loopw [5] (fun t wr => ∃ k : Nat, k ≤ P.length ∧ t = .int .i64 k ∧ Hid (k ≤ P.findIdx (fun s => rconfI s c)) ∧ Hid (Below w.heap.size w wr) ∧ Hid (wr.heap[w.heap.size]? = some (.cells #[.int .i64 c.own, .int .i64 c.lo, .int .i64 c.hi, .bool c.ex] 91 (0, 0)))) (fun t _ => P.length - (RowKit.intOf t).toNat)
    case atStart => exact ⟨0, Nat.zero_le _, rfl, Lib.hid (Nat.zero_le _), Lib.hid HB.out.1, Lib.hid HB.out.2⟩
    case round =>
      obtain ⟨k, hk, rfl, hI, hBw, hxb⟩ := hrel
      have hlr : (P.length : Int) ≤ 10000 := by have := HL.out; omega
      have hT := HT.out.below hBw.out
      by_cases hlt : k < P.length
      · obtain ⟨x, hx⟩ : ∃ x, P[k]? = some x := ⟨_, List.getElem?_eq_getElem hlt⟩
        obtain ⟨p0, p1, p2, p3⟩ := row_pc hT.gr hx
        have c0 := later_cell (v := .slice (some ⟨g, 0, none⟩) P.length cc) (blk_cell hT.hdr 0)
        have b0 := later_cell (v := .int .i64 c.own) (blk_cell hxb.out 0)
        have b1 := later_cell (v := .int .i64 c.lo) (blk_cell hxb.out 1)
        have b2 := later_cell (v := .int .i64 c.hi) (blk_cell hxb.out 2)
        have b3 := later_cell (v := .bool c.ex) (blk_cell hxb.out 3)
        replace p0 := later_cell p0
        replace p1 := later_cell p1
        replace p2 := later_cell p2
        replace p3 := later_cell p3
        have hs0 : Below wr.heap.size wr wr := Below.refl _ _
        have hk0 : (0 : Int) ≤ (k : Int) := by omega
        have hk1 : (k : Int) < (P.length : Int) := by omega
        have HKL := Lib.hid hlt
        have HX := Lib.hid hx
        have HC := Lib.hid (fun w => HCF.out x w)
        clear hx hlt hT
        obtain ⟨bb, hbb⟩ : ∃ bb, rconfI x c = bb := ⟨_, rfl⟩
        rw [hbb] at HC
        have HBB := Lib.hid hbb
        clear hbb
        go_wp2
        refine region_p (fun a a' w' => (∃ v15 v16 v17 v18 v19 v20 v21 v22 : Value, a' = { tmps := ((((((((a.tmps.setIfInBounds 15 v15).setIfInBounds 16 v16).setIfInBounds 17 v17).setIfInBounds 18 v18).setIfInBounds 19 v19).setIfInBounds 20 v20).setIfInBounds 21 v21).setIfInBounds 22 v22).setIfInBounds 23 (.bool bb), defers := a.defers }) ∧ Below wr.heap.size wr w') ?_ ?_
        · go_region_held3 (fun w' => Below wr.heap.size wr w') (first | assumption | exact below_drew (by assumption))
            (first | (go_at_call 70; refine (HC.out _).mono ?_; rintro e w3 ⟨rfl, hb3⟩; have hbx := below_step (by first | assumption | exact below_drew (by assumption)) hb3; clear hb3))
          all_goals exact ⟨rfl, ⟨_, _, _, _, _, _, _, _, rfl⟩, by first | assumption | exact below_drew (by assumption)⟩
        · rintro a' W3 ⟨⟨v15, v16, v17, v18, v19, v20, v21, v22, rfl⟩, hb3⟩
          simp only [List.setIfInBounds_toArray, List.set_cons_zero, List.set_cons_succ]
          have H3 := Lib.hid (And.intro (hBw.out.trans (hb3.mono hBw.out.size)) (blk_below hxb.out hb3))
          clear hb3 c0 b0 b1 b2 b3 p0 p1 p2 p3 hs0
          cases bb
          · have hE := Lib.hid (idxI_step (p := fun s => rconfI s c) hI.out HX.out HBB.out)
            go_wp2
            go_roundw
            case rel => exact ⟨k + 1, by have := HKL.out; omega, by go_num, hE, Lib.hid H3.out.1, Lib.hid H3.out.2⟩
            case measure => have := HKL.out; simp [RowKit.intOf]; omega
          · have hE := Lib.hid (idxI_here (p := fun s => rconfI s c) hI.out HX.out HBB.out)
            go_wp2
            go_ret
            exact ⟨by rw [hE.out]; rfl, H3.out.1⟩
      · obtain rfl : k = P.length := by omega
        have hE := Lib.hid (idxI_none (p := fun s => rconfI s c) hI.out)
        have c0 : wr.cell? ⟨q, 0, none⟩ = some (.slice (some ⟨g, 0, none⟩) P.length cc) := blk_cell hT.hdr 0
        clear hT
        go_wp2
        go_ret
        exact ⟨by rw [hE.out]; rfl, hBw.out⟩
end
section
set_option linter.unusedVariables false
set_option linter.unusedSimpArgs false
open Go.RowKit Go.Maps Go.Sort Go.Lib Go.Shelf Go.Proofs.YtoolflmaaooplaaGreatW.PrintWords Go.Proofs.YtoolflmaaooplaaGreatW.PrintLast Go.Proofs.YtoolflmaaooplaaGreatW.PrintMore FLib
attribute [local go_sem] below_alloc_T below_drew_T below_drewN_T

theorem info94 : (Tryz.prog.info? 91).map (fun i => (i.zero, i.size, i.bytes)) = some (some (.agg #[.int .i64 0, .int .i64 0, .int .i64 0, .bool false]), 4, 32) := by kernel_rfl
theorem info85 : (Tryz.prog.info? 63).map (fun i => (i.zero, i.size, i.bytes)) = some (some (.agg #[.int .i64 0, .int .i64 0, .int .i64 0, .bool false]), 4, 32) := by kernel_rfl
theorem pflat_snoc (L : List Pc) (x : Pc) : pflat (L ++ [x]) = pflat L ++ x.cells := by unfold pflat; simp
theorem pflat_append (L M : List Pc) : pflat (L ++ M) = pflat L ++ pflat M := by unfold pflat; simp
theorem pflat_len (L : List Pc) : (pflat L).length = L.length * 4 := by induction L with | nil => rfl | cons a L ih => unfold pflat at *; rw [List.flatMap_cons, List.length_append, ih]; simp [Pc.cells]; omega
/-- A slice's form, whatever it holds. -/
theorem row_any {w : World} {base e sz n : Nat} {v : Value} {xs : List Value} (h : w.ownsRow base e sz v n xs) : ∃ ad cc, v = .slice ad n cc := by
  rcases row_form h with ⟨rfl, hz⟩ | ⟨g, c, rfl⟩
  · exact ⟨none, 0, by rw [hz]⟩
  · exact ⟨_, _, rfl⟩
theorem row_some2 {w : World} {base e sz n cc : Nat} {ad : Option Addr} {xs : List Value} (h : w.ownsRow base e sz (.slice ad n cc) n xs) (hn : 0 < n) : ∃ g, ad = some ⟨g, 0, none⟩ := by
  rcases row_form h with ⟨-, hz⟩ | ⟨g, c2, hgc⟩
  · omega
  · injection hgc with h1 h2 h3
    exact ⟨g, h1⟩
theorem blk_new2 (w : World) (o o2 : Obj) : ((w.alloc o).alloc o2).heap[w.heap.size + 1]? = some o2 := by simpa using blk_new (w.alloc o) o2
/-- append of one piece to a row of the call's own -/
theorem app_pc {ops : Array Oper} {rest : List Oper} {o : Oper} {a : Act} {Q : Exit → Act → World → Prop} {w : World} (hgd : o.guard = none) (s x : Operand) (ho : o.op = .call { callee := .builtin .append, args := #[s, x], argTypes := #[59, 59] })
    (W0 W1 : World) (v : Value) (L : List Pc) (hs : a.eval s = v) (hown : W1.ownsRow W0.heap.size 91 4 v L.length (pflat L)) (hB : Below W0.heap.size W0 W1) (hl : L.length ≤ 1000000) (hb1 : Below W1.heap.size W1 w)
    (b c : Nat) (p : Pc) (hx : a.eval x = .slice (some ⟨b, 0, none⟩) 1 c) (hb : w.heap[b]? = some (.cells p.cells.toArray 91 (0, 0)))
    (h : ∀ v' w', w'.ownsRow W0.heap.size 91 4 v' (L ++ [p]).length (pflat (L ++ [p])) → Below W0.heap.size W0 w' → (∀ g o', W1.heap.size ≤ g → w.heap[g]? = some o' → w'.heap[g]? = some o') → wpList Tryz.prog ops Q rest (a.put o.dst v') w') : wpList Tryz.prog ops Q (o :: rest) a w := by
  obtain ⟨i, hi, hz, hs1, hb8⟩ := info_parts info94
  have hB2 := hB.trans (hb1.mono hB.size)
  have hown2 := pw_own_below hown hb1
  refine wpList_append_own w hgd s x 59 ho W0.heap.size 91 i _ 4 32 Tryz.underlying59 hi hz hs1 hb8 rfl (by decide) v L.length (pflat L) hs hown2 ⟨b, 0, none⟩ 1 c p.cells hx rfl (fun j u hu => cells_at hb j u hu) (fun u hu => ?_) (by unfold maxLen; omega) (by omega) hB2.size (fun v' w' h1 h2 _ => h v' w' ?_ ?_ (fun g o' hg ho => (h2.block g (blk_lt ho) (fun e => by have := (hown.lt g e.symm).2; omega)).trans ho))
  · simp only [Pc.cells, List.mem_cons, List.not_mem_nil, or_false] at hu
    rcases hu with rfl | rfl | rfl | rfl <;> rfl
  · rw [pflat_snoc, List.length_append]
    exact h1
  · exact hB2.grown h2 hB2.size (fun i hi => (hown2.lt i hi).1)

def rw1 (c x : Pc) : List Pc :=
  if x.own ≠ c.own then [x] else if roverI x c = false then [x] else (if x.lo < c.lo then [⟨x.own, x.lo, c.lo, x.ex⟩] else []) ++ (if c.hi < x.hi then [⟨x.own, c.hi, x.hi, x.ex⟩] else [])
def rwoutP (L : List Pc) (c : Pc) : List Pc := L.flatMap (rw1 c)
theorem rw1_len (c x : Pc) : (rw1 c x).length ≤ 2 := by
  unfold rw1
  split
  · simp
  · split
    · simp
    · split <;> split <;> simp
theorem rwoutP_len (L : List Pc) (c : Pc) : (rwoutP L c).length ≤ 2 * L.length := by
  induction L with
  | nil => simp [rwoutP]
  | cons a L ih => unfold rwoutP at ih ⊢; rw [List.flatMap_cons, List.length_append, List.length_cons]; have := rw1_len c a; omega
theorem rwoutP_snoc {L : List Pc} {k : Nat} {x : Pc} (h : L[k]? = some x) (c : Pc) : rwoutP (L.take (k + 1)) c = rwoutP (L.take k) c ++ rw1 c x := by
  rw [List.take_add_one, h]
  unfold rwoutP
  rw [List.flatMap_append]
  simp
set_option maxRecDepth 100000 in
set_option maxHeartbeats 2000000 in
theorem rwout_any (v : Value) (L : List Pc) (hL : L.length ≤ 10000) (c : Pc) (w : World) (h : w.ownsRow 0 91 4 v L.length (pflat L)) :
    Calls Tryz.prog 58 #[v, pcV c] w fun e w' => ∃ u, e = .returned u ∧ w'.ownsRow w.heap.size 91 4 u (rwoutP L c).length (pflat (rwoutP L c)) ∧ Below w.heap.size w w' := by
  have HL := Lib.hid hL
  have HR := Lib.hid h
  have HO := Lib.hid (fun a w => rover_any a c w)
  have HBX := Lib.hid (And.intro (blk_new w (.cells c.cells.toArray 91)) (below_alloc (Below.refl w.heap.size w) (.cells c.cells.toArray 91)))
  obtain ⟨ad, cc, rfl⟩ := row_any h
  clear h hL
  simp only [pcV, Pc.cells] at HO HBX ⊢
  go_enter Tryz.func58, Tryz.ntmps58
  go_wp2
  refine abs_w (fun W0 => W0.heap[w.heap.size]? = some (.cells #[.int .i64 c.own, .int .i64 c.lo, .int .i64 c.hi, .bool c.ex] 91 (0, 0)) ∧ Below w.heap.size w W0) HBX.out ?_
  rintro W0 ⟨hbx, hb0⟩
  have H0 := Lib.hid (And.intro hbx (And.intro hb0 (pw_own_below HR.out hb0)))
  clear hbx hb0 HBX HR
  go_loopw [6, 5] (fun i u wr => ∃ k : Nat, k ≤ L.length ∧ i = .int .i64 k ∧ Hid (Below W0.heap.size W0 wr) ∧ Hid (wr.ownsRow W0.heap.size 91 4 u (rwoutP (L.take k) c).length (pflat (rwoutP (L.take k) c)))) (fun i _ _ => L.length - (RowKit.intOf i).toNat)
  case atStart => exact ⟨0, Nat.zero_le _, rfl, Lib.hid (Below.refl _ _), Lib.hid (World.ownsRow_nil _ _ _ _)⟩
  case round =>
    obtain ⟨k, hk, rfl, hB, hown⟩ := hrel
    have hlr : (L.length : Int) ≤ 10000 := by have := HL.out; omega
    by_cases hlt : k < L.length
    · obtain ⟨x, hx⟩ : ∃ x, L[k]? = some x := ⟨_, List.getElem?_eq_getElem hlt⟩
      have hR := pw_own_below H0.out.2.2 hB.out
      obtain ⟨g, rfl⟩ := row_some2 hR (by omega)
      have hbx := blk_below H0.out.1 hB.out
      obtain ⟨p0, p1, p2, p3⟩ := row_pc hR hx
      have hk0 : (0 : Int) ≤ (k : Int) := by omega
      have hk1 : (k : Int) < (L.length : Int) := by omega
      have HK := Lib.hid (And.intro hlt (And.intro (rwoutP_snoc hx c) (show (rwoutP (L.take k) c).length ≤ 100000 by have := rwoutP_len (L.take k) c; rw [List.length_take] at this; omega)))
      have HC := Lib.hid (fun w => HO.out x w)
      have b0 := later_cell (v := .int .i64 c.own) (blk_cell hbx 0)
      have b1 := later_cell (v := .int .i64 c.lo) (blk_cell hbx 1)
      have b2 := later_cell (v := .int .i64 c.hi) (blk_cell hbx 2)
      have b3 := later_cell (v := .bool c.ex) (blk_cell hbx 3)
      have hs0 : Below wr.heap.size wr wr := Below.refl _ _
      generalize rwoutP (L.take k) c = X at hown HK
      clear hx hlt hR hbx
      by_cases hne : x.own = c.own
      · have d1 : (x.own != c.own) = false := by simpa using hne
        obtain ⟨ov, hov⟩ : ∃ ov, roverI x c = ov := ⟨_, rfl⟩
        rw [hov] at HC
        have HN := Lib.hid (And.intro hne hov)
        clear hne hov
        go_wp2_with fail
        refine (HC.out _).mono ?_
        rintro e w3 ⟨rfl, hb3⟩
        have hx3 := blk_below (blk_new wr (.cells #[.int .i64 x.own, .int .i64 x.lo, .int .i64 x.hi, .bool x.ex] 91)) hb3
        have hb13 := below_step (below_alloc (Below.refl wr.heap.size wr) (.cells #[.int .i64 x.own, .int .i64 x.lo, .int .i64 x.hi, .bool x.ex] 91)) hb3
        replace b0 := later_cell (b0 _ hb13)
        replace b1 := later_cell (b1 _ hb13)
        replace b2 := later_cell (b2 _ hb13)
        replace b3 := later_cell (b3 _ hb13)
        have x0 := later_cell (v := .int .i64 x.own) (blk_cell hx3 0)
        have x1 := later_cell (v := .int .i64 x.lo) (blk_cell hx3 1)
        have x2 := later_cell (v := .int .i64 x.hi) (blk_cell hx3 2)
        have x3 := later_cell (v := .bool x.ex) (blk_cell hx3 3)
        have H13 := Lib.hid hb13
        have hown3 := Lib.hid (pw_own_below hown.out hb13)
        have hz3 := blk_lt hx3
        have HZ3 := Lib.hid (And.intro hz3 hx3)
        clear hz3
        have hB3 := Lib.hid (below_back hB.out hb13)
        have hs3 : Below w3.heap.size w3 w3 := Below.refl _ _
        clear hs0 hb3 hx3 hb13 p0 p1 p2 p3
        cases ov
        · go_wp2_with (at_builtin; refine app_pc rfl (.tmp 29) (.tmp 31) rfl W0 w3 _ X rfl hown3.out hB3.out (by have := HK.out.2.2; omega) (by first | exact below_alloc (Below.refl _ _) _ | trivial) _ _ x rfl (blk_new _ _) ?_; intro v' w6 hown6 hB6 hk6)
          have hN := Lib.hid (show w6.ownsRow W0.heap.size 91 4 v' (rwoutP (L.take (k + 1)) c).length (pflat (rwoutP (L.take (k + 1)) c)) by rw [HK.out.2.1, show rw1 c x = [x] by unfold rw1; rw [if_neg (by simpa using HN.out.1), if_pos HN.out.2]]; exact hown6)
          have hB7 := Lib.hid hB6
          clear hown6 hB6 hk6
          go_roundw
          case rel => exact ⟨k + 1, by have := HK.out.1; omega, by go_num, hB7, hN⟩
          case measure => have := HK.out.1; simp [RowKit.intOf]; omega
        · obtain ⟨l1, hl1⟩ : ∃ b, decide (x.lo < c.lo) = b := ⟨_, rfl⟩
          obtain ⟨l2, hl2⟩ : ∃ b, decide (c.hi < x.hi) = b := ⟨_, rfl⟩
          have HF := Lib.hid (show rw1 c x = (if l1 then [⟨x.own, x.lo, c.lo, x.ex⟩] else []) ++ (if l2 then [⟨x.own, c.hi, x.hi, x.ex⟩] else []) by unfold rw1; rw [if_neg (by simpa using HN.out.1), if_neg (by rw [HN.out.2]; simp), ← hl1, ← hl2]; simp)
          cases l1
          · cases l2
            · go_wp2
              have hN := Lib.hid (show w3.ownsRow W0.heap.size 91 4 _ (rwoutP (L.take (k + 1)) c).length (pflat (rwoutP (L.take (k + 1)) c)) by rw [HK.out.2.1, HF.out]; simpa using hown3.out)
              go_roundw
              case rel => exact ⟨k + 1, by have := HK.out.1; omega, by go_num, hB3, hN⟩
              case measure => have := HK.out.1; simp [RowKit.intOf]; omega
            · go_wp2_with (at_builtin; refine app_pc rfl (.tmp 55) (.tmp 65) rfl W0 w3 _ X rfl hown3.out hB3.out (by have := HK.out.2.2; omega) (by first | exact below_alloc (Below.refl _ _) _ | trivial) _ _ ⟨x.own, c.hi, x.hi, x.ex⟩ rfl (blk_new _ _) ?_; intro v' w6 hown6 hB6 hk6)
              have hN := Lib.hid (show w6.ownsRow W0.heap.size 91 4 v' (rwoutP (L.take (k + 1)) c).length (pflat (rwoutP (L.take (k + 1)) c)) by rw [HK.out.2.1, HF.out]; exact hown6)
              have hB7 := Lib.hid hB6
              clear hown6 hB6 hk6
              go_roundw
              case rel => exact ⟨k + 1, by have := HK.out.1; omega, by go_num, hB7, hN⟩
              case measure => have := HK.out.1; simp [RowKit.intOf]; omega
          · cases l2
            · go_wp2_with (at_builtin; refine app_pc rfl (.tmp 38) (.tmp 48) rfl W0 wr _ X rfl hown.out hB.out (by have := HK.out.2.2; omega) (below_alloc H13.out _) _ _ ⟨x.own, x.lo, c.lo, x.ex⟩ rfl (blk_new _ _) ?_; intro v' w6 hown6 hB6 hk6; have hx6 := hk6 _ _ (Nat.le_refl _) (blk_alloc HZ3.out.2 _); have hc6 := blk_below H0.out.1 hB6; clear hk6 hs3 b0 b1 b2 b3 x0 x1 x2 x3; have b2 := later_cell (v := .int .i64 c.hi) (blk_cell hc6 2); have x0 := later_cell (v := .int .i64 x.own) (blk_cell hx6 0); have x2 := later_cell (v := .int .i64 x.hi) (blk_cell hx6 2); have x3 := later_cell (v := .bool x.ex) (blk_cell hx6 3); have hs6 : Below w6.heap.size w6 w6 := Below.refl _ _; have HO6 := Lib.hid (And.intro hown6 hB6); clear hx6 hc6 hown6 hB6)
              have hN := Lib.hid (show w6.ownsRow W0.heap.size 91 4 v' (rwoutP (L.take (k + 1)) c).length (pflat (rwoutP (L.take (k + 1)) c)) by rw [HK.out.2.1, HF.out]; simpa using HO6.out.1)
              have hB7 := Lib.hid HO6.out.2
              go_roundw
              case rel => exact ⟨k + 1, by have := HK.out.1; omega, by go_num, hB7, hN⟩
              case measure => have := HK.out.1; simp [RowKit.intOf]; omega
            · go_wp2_with (first | (at_builtin; refine app_pc rfl (.tmp 55) (.tmp 65) rfl W0 w6 v' (X ++ [⟨x.own, x.lo, c.lo, x.ex⟩]) rfl HO6.out.1 HO6.out.2 (by have := HK.out.2.2; rw [List.length_append, List.length_singleton]; omega) (by first | exact below_alloc (Below.refl _ _) _ | trivial) _ _ ⟨x.own, c.hi, x.hi, x.ex⟩ rfl (blk_new _ _) ?_; intro v2 w7 hown7 hB7 hk7) | (at_builtin; refine app_pc rfl (.tmp 38) (.tmp 48) rfl W0 wr _ X rfl hown.out hB.out (by have := HK.out.2.2; omega) (below_alloc H13.out _) _ _ ⟨x.own, x.lo, c.lo, x.ex⟩ rfl (blk_new _ _) ?_; intro v' w6 hown6 hB6 hk6; have hx6 := hk6 _ _ (Nat.le_refl _) (blk_alloc HZ3.out.2 _); have hc6 := blk_below H0.out.1 hB6; clear hk6 hs3 b0 b1 b2 b3 x0 x1 x2 x3; have b2 := later_cell (v := .int .i64 c.hi) (blk_cell hc6 2); have x0 := later_cell (v := .int .i64 x.own) (blk_cell hx6 0); have x2 := later_cell (v := .int .i64 x.hi) (blk_cell hx6 2); have x3 := later_cell (v := .bool x.ex) (blk_cell hx6 3); have hs6 : Below w6.heap.size w6 w6 := Below.refl _ _; have HO6 := Lib.hid (And.intro hown6 hB6); clear hx6 hc6 hown6 hB6))
              have hN := Lib.hid (show w7.ownsRow W0.heap.size 91 4 v2 (rwoutP (L.take (k + 1)) c).length (pflat (rwoutP (L.take (k + 1)) c)) by rw [HK.out.2.1, HF.out]; simpa using hown7)
              have hB8 := Lib.hid hB7
              clear hown7 hB7 hk7
              go_roundw
              case rel => exact ⟨k + 1, by have := HK.out.1; omega, by go_num, hB8, hN⟩
              case measure => have := HK.out.1; simp [RowKit.intOf]; omega
      · have d1 : (x.own != c.own) = true := by simpa using hne
        have HN := Lib.hid hne
        clear hne
        go_wp2_with (at_builtin; refine app_pc rfl (.tmp 29) (.tmp 31) rfl W0 wr _ X rfl hown.out hB.out (by have := HK.out.2.2; omega) (by first | exact below_alloc (below_alloc (Below.refl _ _) _) _ | trivial) _ _ x rfl (blk_new2 _ _ _) ?_; intro v' w6 hown6 hB6 hk6)
        have hN := Lib.hid (show w6.ownsRow W0.heap.size 91 4 v' (rwoutP (L.take (k + 1)) c).length (pflat (rwoutP (L.take (k + 1)) c)) by rw [HK.out.2.1, show rw1 c x = [x] by unfold rw1; rw [if_pos HN.out]]; exact hown6)
        have hB7 := Lib.hid hB6
        clear hown6 hB6 hk6
        go_roundw
        case rel => exact ⟨k + 1, by have := HK.out.1; omega, by go_num, hB7, hN⟩
        case measure => have := HK.out.1; simp [RowKit.intOf]; omega
    · obtain rfl : k = L.length := by omega
      rw [List.take_length] at hown
      go_wp2
      go_ret
      exact ⟨_, rfl, own_base hown.out H0.out.2.1.size, H0.out.2.1.trans (hB.out.mono H0.out.2.1.size)⟩
end
section
set_option linter.unusedVariables false
set_option linter.unusedSimpArgs false
open Go.RowKit Go.Maps Go.Sort Go.Lib Go.Shelf Go.Proofs.YtoolflmaaooplaaGreatW.PrintWords Go.Proofs.YtoolflmaaooplaaGreatW.PrintLast Go.Proofs.YtoolflmaaooplaaGreatW.PrintMore FLib
attribute [local go_sem] below_alloc_T below_drew_T below_drewN_T

/-- What append takes from: m elements of 4 cells, or none. -/
def SrcOk (w : World) (xv : Value) (m : Nat) (news : List Value) : Prop :=
  (m = 0 ∧ news = [] ∧ xv = .slice none 0 0) ∨ ∃ ad c, xv = .slice (some ad) m c ∧ news.length = m * 4 ∧ (∀ j u, news[j]? = some u → w.cell? (ad.add j) = some u) ∧ ∀ u ∈ news, u.oneCell' = true
theorem app4_run (e t ty : TypeId) (ht : Tryz.prog.underlying t = some (.slice e)) (hie : (Tryz.prog.info? e).map (fun i => (i.zero, i.size, i.bytes)) = some (some (.agg #[.int .i64 0, .int .i64 0, .int .i64 0, .bool false]), 4, 32))
    (base : Nat) (w : World) (v : Value) (n : Nat) (xs : List Value) (hown : w.ownsRow base e 4 v n xs) (xv : Value) (m : Nat) (news : List Value) (hs : SrcOk w xv m news) (hl : n + m ≤ 1000000) (hbase : base ≤ w.heap.size) :
    ∃ v' w', (Builtin.append_ #[t, t] ty #[v, xv]).run Tryz.prog w = .ok v' w' ∧ w'.ownsRow base e 4 v' (n + m) (xs ++ news) ∧ w.grownBy w' v.ownBlock ∧ (v'.ownBlock = v.ownBlock ∨ v'.ownBlock = some w.heap.size) := by
  obtain ⟨i, hi, hz, hs1, hb8⟩ := info_parts hie
  rcases hs with ⟨rfl, rfl, rfl⟩ | ⟨ad, c, rfl, hl4, hc, h1⟩
  · refine ⟨v, w, run_append_owned_none (P := Tryz.prog) (w := w) base t ty e i 4 ht hi v n xs hown, ?_, ⟨rfl, rfl, rfl, Nat.le_refl _, fun _ _ _ => rfl⟩, .inl rfl⟩
    simpa using hown
  · obtain ⟨v', w', h1, h2, h3, -, h5⟩ := run_append_own_at (P := Tryz.prog) (w := w) base t ty e i _ 4 32 ht hi hz hs1 hb8 rfl (by decide) v n xs hown ad m c news hl4 hc h1 (by unfold maxLen; omega) (by omega) hbase
    exact ⟨v', w', h1, h2, h3, h5⟩
/-- append at a step of a region that draws its order -/
theorem step_app4 {ops : Array Oper} {o : Oper} {a : Act} {w : World} {K : Act → World → Prop} {Q : Exit → Act → World → Prop} {E : Prop} (hgd : o.guard = none) (s x : Operand) (e t : TypeId)
    (ho : o.op = .call { callee := .builtin .append, args := #[s, x], argTypes := #[t, t] })
    (ht : Tryz.prog.underlying t = some (.slice e)) (hie : (Tryz.prog.info? e).map (fun i => (i.zero, i.size, i.bytes)) = some (some (.agg #[.int .i64 0, .int .i64 0, .int .i64 0, .bool false]), 4, 32))
    (W0 : World) (v : Value) (n : Nat) (xs : List Value) (hs : a.eval s = v) (hown : w.ownsRow W0.heap.size e 4 v n xs) (xv : Value) (m : Nat) (news : List Value) (hx : a.eval x = xv) (hsrc : SrcOk w xv m news) (hl : n + m ≤ 1000000) (hB : Below W0.heap.size W0 w)
    (h : ∀ v' w', w'.ownsRow W0.heap.size e 4 v' (n + m) (xs ++ news) → Below W0.heap.size W0 w' → (∀ g o', v.ownBlock ≠ some g → w.heap[g]? = some o' → w'.heap[g]? = some o') → (v'.ownBlock = v.ownBlock ∨ v'.ownBlock = some w.heap.size) → w.heap.size ≤ w'.heap.size → K (a.put o.dst v') w') :
    if Region.wanted o (yielded ops a.tmps) = true then Oper.wp Tryz.prog o a w K Q else E := by
  obtain ⟨v', w', hr, h1, h2, h3⟩ := app4_run e t o.type ht hie W0.heap.size w v n xs hown xv m news hsrc hl hB.size
  exact step_fits hgd s x t ho v xv hs hx hr (h v' w' h1 (hB.grown h2 hB.size (fun i hi => (hown.lt i hi).1)) (fun g o' hg ho' => (h2.block g (blk_lt ho') (fun e => hg e.symm)).trans ho') h3 h2.size)
theorem pflat_one (L : List Pc) : ∀ u ∈ pflat L, u.oneCell' = true := by
  intro u hu
  unfold pflat at hu
  obtain ⟨x, -, hx⟩ := List.mem_flatMap.1 hu
  simp only [Pc.cells, List.mem_cons, List.not_mem_nil, or_false] at hx
  rcases hx with rfl | rfl | rfl | rfl <;> rfl
theorem pflat_take (L : List Pc) (i : Nat) (h : i ≤ L.length) : (pflat L).take (i * 4) = pflat (L.take i) := by
  conv => lhs; rw [← List.take_append_drop i L]
  rw [pflat_append, List.take_append_of_le_length (by rw [pflat_len, List.length_take]; omega), List.take_of_length_le (by rw [pflat_len, List.length_take]; omega)]
theorem pflat_drop (L : List Pc) (i : Nat) (h : i ≤ L.length) : (pflat L).drop (i * 4) = pflat (L.drop i) := by
  conv => lhs; rw [← List.take_append_drop i L]
  rw [pflat_append, List.drop_append_of_le_length (by rw [pflat_len, List.length_take]; omega), List.drop_of_length_le (by rw [pflat_len, List.length_take]; omega), List.nil_append]

set_option maxRecDepth 100000 in
theorem frA (v0 v1 v2 v3 v4 v5 v6 v7 v8 v9 v10 v11 v12 v13 v14 v15 v16 v17 v18 v19 v20 v21 v22 v23 v24 v25 v26 v27 v28 v29 v30 v31 v32 v33 v34 v35 v36 v37 v38 v39 v40 v41 v42 v43 v44 v45 v46 v47 v48 v49 v50 v51 v52 v53 v54 v55 v56 v57 v58 v59 v60 v61 v62 v63 v64 v65 v66 v67 v68 v69 v70 v71 v72 v73 v74 v75 v76 v77 v78 v79 v80 v81 v82 v83 v84 v85 v86 v87 v88 v89 v90 v91 v92 v93 v94 v95 v96 v97 v98 v99 v100 v101 v102 v103 v104 v105 v106 v107 v108 v109 v110 v111 v112 v113 v114 v115 v116 v117 v118 v119 v120 : Value) (d : List Deferred) : ∃ u : Nat → Value, ({ tmps := #[v0, v1, v2, v3, v4, v5, v6, v7, v8, v9, v10, v11, v12, v13, v14, v15, v16, v17, v18, v19, v20, v21, v22, v23, v24, v25, v26, v27, v28, v29, v30, v31, v32, v33, v34, v35, v36, v37, v38, v39, v40, v41, v42, v43, v44, v45, v46, v47, v48, v49, v50, v51, v52, v53, v54, v55, v56, v57, v58, v59, v60, v61, v62, v63, v64, v65, v66, v67, v68, v69, v70, v71, v72, v73, v74, v75, v76, v77, v78, v79, v80, v81, v82, v83, v84, v85, v86, v87, v88, v89, v90, v91, v92, v93, v94, v95, v96, v97, v98, v99, v100, v101, v102, v103, v104, v105, v106, v107, v108, v109, v110, v111, v112, v113, v114, v115, v116, v117, v118, v119, v120], defers := d } : Act) = { tmps := #[v0, v1, v2, v3, v4, v5, v6, v7, v8, v9, v10, v11, v12, v13, u 14, u 15, u 16, u 17, u 18, u 19, u 20, u 21, u 22, u 23, u 24, u 25, u 26, u 27, u 28, u 29, u 30, u 31, u 32, u 33, u 34, u 35, u 36, u 37, u 38, u 39, u 40, u 41, u 42, u 43, u 44, u 45, u 46, v47, v48, v49, v50, v51, v52, v53, v54, v55, v56, v57, v58, v59, v60, v61, v62, v63, v64, v65, v66, v67, v68, v69, v70, v71, v72, v73, v74, v75, v76, v77, v78, v79, v80, v81, v82, v83, v84, v85, v86, v87, v88, v89, v90, v91, v92, v93, v94, v95, v96, v97, v98, v99, v100, v101, v102, v103, v104, v105, v106, v107, v108, v109, v110, v111, v112, v113, v114, v115, v116, v117, v118, v119, v120], defers := d } :=
  ⟨fun i => [v0, v1, v2, v3, v4, v5, v6, v7, v8, v9, v10, v11, v12, v13, v14, v15, v16, v17, v18, v19, v20, v21, v22, v23, v24, v25, v26, v27, v28, v29, v30, v31, v32, v33, v34, v35, v36, v37, v38, v39, v40, v41, v42, v43, v44, v45, v46, v47, v48, v49, v50, v51, v52, v53, v54, v55, v56, v57, v58, v59, v60, v61, v62, v63, v64, v65, v66, v67, v68, v69, v70, v71, v72, v73, v74, v75, v76, v77, v78, v79, v80, v81, v82, v83, v84, v85, v86, v87, v88, v89, v90, v91, v92, v93, v94, v95, v96, v97, v98, v99, v100, v101, v102, v103, v104, v105, v106, v107, v108, v109, v110, v111, v112, v113, v114, v115, v116, v117, v118, v119, v120].getD i undef, rfl⟩
set_option maxRecDepth 100000 in
theorem frC (v0 v1 v2 v3 v4 v5 v6 v7 v8 v9 v10 v11 v12 v13 v14 v15 v16 v17 v18 v19 v20 v21 v22 v23 v24 v25 v26 v27 v28 v29 v30 v31 v32 v33 v34 v35 v36 v37 v38 v39 v40 v41 v42 v43 v44 v45 v46 v47 v48 v49 v50 v51 v52 v53 v54 v55 v56 v57 v58 v59 v60 v61 v62 v63 v64 v65 v66 v67 v68 v69 v70 v71 v72 v73 v74 v75 v76 v77 v78 v79 v80 v81 v82 v83 v84 v85 v86 v87 v88 v89 v90 v91 v92 v93 v94 v95 v96 v97 v98 v99 v100 v101 v102 v103 v104 v105 v106 v107 v108 v109 v110 v111 v112 v113 v114 v115 v116 v117 v118 v119 v120 : Value) (d : List Deferred) : ∃ u : Nat → Value, ({ tmps := #[v0, v1, v2, v3, v4, v5, v6, v7, v8, v9, v10, v11, v12, v13, v14, v15, v16, v17, v18, v19, v20, v21, v22, v23, v24, v25, v26, v27, v28, v29, v30, v31, v32, v33, v34, v35, v36, v37, v38, v39, v40, v41, v42, v43, v44, v45, v46, v47, v48, v49, v50, v51, v52, v53, v54, v55, v56, v57, v58, v59, v60, v61, v62, v63, v64, v65, v66, v67, v68, v69, v70, v71, v72, v73, v74, v75, v76, v77, v78, v79, v80, v81, v82, v83, v84, v85, v86, v87, v88, v89, v90, v91, v92, v93, v94, v95, v96, v97, v98, v99, v100, v101, v102, v103, v104, v105, v106, v107, v108, v109, v110, v111, v112, v113, v114, v115, v116, v117, v118, v119, v120], defers := d } : Act) = { tmps := #[u 0, v1, u 2, v3, u 4, u 5, v6, u 7, u 8, u 9, u 10, u 11, u 12, u 13, u 14, u 15, u 16, u 17, u 18, u 19, u 20, u 21, u 22, u 23, u 24, u 25, u 26, u 27, u 28, u 29, u 30, u 31, u 32, u 33, u 34, u 35, u 36, u 37, u 38, u 39, u 40, u 41, u 42, u 43, u 44, u 45, u 46, u 47, u 48, u 49, u 50, u 51, u 52, u 53, u 54, u 55, u 56, u 57, u 58, u 59, u 60, u 61, u 62, u 63, u 64, u 65, u 66, u 67, u 68, u 69, u 70, u 71, u 72, u 73, u 74, u 75, u 76, u 77, u 78, u 79, u 80, u 81, u 82, u 83, u 84, u 85, u 86, u 87, u 88, u 89, u 90, u 91, u 92, u 93, u 94, u 95, u 96, u 97, u 98, u 99, u 100, u 101, u 102, u 103, u 104, u 105, u 106, u 107, u 108, u 109, u 110, u 111, u 112, u 113, u 114, u 115, u 116, u 117, u 118, u 119, u 120], defers := d } :=
  ⟨fun i => [v0, v1, v2, v3, v4, v5, v6, v7, v8, v9, v10, v11, v12, v13, v14, v15, v16, v17, v18, v19, v20, v21, v22, v23, v24, v25, v26, v27, v28, v29, v30, v31, v32, v33, v34, v35, v36, v37, v38, v39, v40, v41, v42, v43, v44, v45, v46, v47, v48, v49, v50, v51, v52, v53, v54, v55, v56, v57, v58, v59, v60, v61, v62, v63, v64, v65, v66, v67, v68, v69, v70, v71, v72, v73, v74, v75, v76, v77, v78, v79, v80, v81, v82, v83, v84, v85, v86, v87, v88, v89, v90, v91, v92, v93, v94, v95, v96, v97, v98, v99, v100, v101, v102, v103, v104, v105, v106, v107, v108, v109, v110, v111, v112, v113, v114, v115, v116, v117, v118, v119, v120].getD i undef, rfl⟩
set_option maxRecDepth 100000 in
theorem frB (v0 v1 v2 v3 v4 v5 v6 v7 v8 v9 v10 v11 v12 v13 v14 v15 v16 v17 v18 v19 v20 v21 v22 v23 v24 v25 v26 v27 v28 v29 v30 v31 v32 v33 v34 v35 v36 v37 v38 v39 v40 v41 v42 v43 v44 v45 v46 v47 v48 v49 v50 v51 v52 v53 v54 v55 v56 v57 v58 v59 v60 v61 v62 v63 v64 v65 v66 v67 v68 v69 v70 v71 v72 v73 v74 v75 v76 v77 v78 v79 v80 v81 v82 v83 v84 v85 v86 v87 v88 v89 v90 v91 v92 v93 v94 v95 v96 v97 v98 v99 v100 v101 v102 v103 v104 v105 v106 v107 v108 v109 v110 v111 v112 v113 v114 v115 v116 v117 v118 v119 v120 : Value) (d : List Deferred) : ∃ u : Nat → Value, ({ tmps := #[v0, v1, v2, v3, v4, v5, v6, v7, v8, v9, v10, v11, v12, v13, v14, v15, v16, v17, v18, v19, v20, v21, v22, v23, v24, v25, v26, v27, v28, v29, v30, v31, v32, v33, v34, v35, v36, v37, v38, v39, v40, v41, v42, v43, v44, v45, v46, v47, v48, v49, v50, v51, v52, v53, v54, v55, v56, v57, v58, v59, v60, v61, v62, v63, v64, v65, v66, v67, v68, v69, v70, v71, v72, v73, v74, v75, v76, v77, v78, v79, v80, v81, v82, v83, v84, v85, v86, v87, v88, v89, v90, v91, v92, v93, v94, v95, v96, v97, v98, v99, v100, v101, v102, v103, v104, v105, v106, v107, v108, v109, v110, v111, v112, v113, v114, v115, v116, v117, v118, v119, v120], defers := d } : Act) = { tmps := #[v0, v1, v2, v3, v4, v5, v6, v7, v8, v9, v10, v11, v12, v13, v14, v15, v16, v17, v18, v19, v20, v21, v22, v23, v24, v25, v26, v27, v28, v29, v30, v31, v32, v33, v34, v35, v36, v37, v38, v39, v40, v41, v42, v43, v44, v45, v46, v47, v48, v49, v50, v51, v52, v53, v54, v55, v56, v57, v58, v59, v60, v61, v62, v63, v64, v65, v66, v67, v68, v69, v70, v71, v72, v73, u 74, u 75, u 76, u 77, u 78, u 79, u 80, u 81, u 82, u 83, u 84, u 85, u 86, u 87, u 88, u 89, u 90, u 91, u 92, u 93, u 94, u 95, u 96, u 97, u 98, u 99, u 100, u 101, u 102, u 103, u 104, u 105, u 106, u 107, v108, v109, v110, v111, v112, v113, v114, v115, v116, v117, v118, v119, v120], defers := d } :=
  ⟨fun i => [v0, v1, v2, v3, v4, v5, v6, v7, v8, v9, v10, v11, v12, v13, v14, v15, v16, v17, v18, v19, v20, v21, v22, v23, v24, v25, v26, v27, v28, v29, v30, v31, v32, v33, v34, v35, v36, v37, v38, v39, v40, v41, v42, v43, v44, v45, v46, v47, v48, v49, v50, v51, v52, v53, v54, v55, v56, v57, v58, v59, v60, v61, v62, v63, v64, v65, v66, v67, v68, v69, v70, v71, v72, v73, v74, v75, v76, v77, v78, v79, v80, v81, v82, v83, v84, v85, v86, v87, v88, v89, v90, v91, v92, v93, v94, v95, v96, v97, v98, v99, v100, v101, v102, v103, v104, v105, v106, v107, v108, v109, v110, v111, v112, v113, v114, v115, v116, v117, v118, v119, v120].getD i undef, rfl⟩
theorem row0 (w : World) (base b : Nat) (h : w.heap[b]? = some (.cells #[] 91 (0, 0))) (hb : base ≤ b) : w.ownsRow base 91 4 (.slice (some ⟨b, 0, none⟩) 0 0) 0 [] := ⟨rfl, .inr ⟨b, 0, #[], rfl, hb, h, Nat.le_refl _, by simp, by simp, by simp⟩⟩
theorem src_one {w : World} {b c : Nat} {p : Pc} (h : w.heap[b]? = some (.cells p.cells.toArray 91 (0, 0))) : SrcOk w (.slice (some ⟨b, 0, none⟩) 1 c) 1 p.cells :=
  .inr ⟨_, _, rfl, rfl, fun j u hu => cells_at h j u hu, fun u hu => by
    simp only [Pc.cells, List.mem_cons, List.not_mem_nil, or_false] at hu
    rcases hu with rfl | rfl | rfl | rfl <;> rfl⟩
theorem row_cap {w : World} {base e sz g n c : Nat} {xs : List Value} (h : w.ownsRow base e sz (.slice (some ⟨g, 0, none⟩) n c) n xs) : n ≤ c := by
  rcases h.2 with ⟨h2, -⟩ | ⟨g', c', cur, h1, hb, h3, h4, h5, h6, h7⟩
  · cases h2
  · cases h1; exact h4
theorem src_take {w : World} {base g c k : Nat} {L : List Pc} (h : w.ownsRow base 91 4 (.slice (some ⟨g, 0, none⟩) L.length c) L.length (pflat L)) (hk : k ≤ L.length) : SrcOk w (.slice (some ⟨g, 0, none⟩) k c) k (pflat (L.take k)) :=
  .inr ⟨_, _, rfl, by rw [pflat_len, List.length_take, Nat.min_eq_left hk], fun j u hu => (by
    rw [← pflat_take L k hk, List.getElem?_take] at hu
    split at hu
    · exact h.cells rfl j u hu
    · cases hu), pflat_one _⟩
theorem src_drop {w : World} {base g c k : Nat} {L : List Pc} {ad : Addr} (h : w.ownsRow base 91 4 (.slice (some ⟨g, 0, none⟩) L.length c) L.length (pflat L)) (hk : k ≤ L.length) (had : (if c = k then some (⟨g, 0, none⟩ : Addr) else some ⟨g, k * 4, none⟩) = some ad) : SrcOk w (.slice (some ad) (L.length - k) (c - k)) (L.length - k) (pflat (L.drop k)) := by
  have hc := row_cap h
  refine .inr ⟨_, _, rfl, by rw [pflat_len, List.length_drop], fun j u hu => ?_, pflat_one _⟩
  have hj := (List.getElem?_eq_some_iff.1 hu).1
  rw [pflat_len, List.length_drop] at hj
  rw [if_neg (by omega)] at had
  injection had with had
  subst had
  rw [← pflat_drop L k hk, List.getElem?_drop] at hu
  have := h.cells (g := g) rfl _ u hu
  rw [addmk, Nat.zero_add] at this
  rw [addmk]
  exact this
def rltB (c x : Pc) : Bool := decide (x.own < c.own) || (x.own == c.own && decide (x.lo < c.lo))
def rat (L : List Pc) (c : Pc) : Nat := L.findIdx (fun x => !rltB c x)
def rinsP (L : List Pc) (c : Pc) : List Pc := L.take (rat L c) ++ [c] ++ L.drop (rat L c)
def rjoinS (out : List Pc) (s : Pc) : List Pc :=
  match out.getLast? with
  | some z => if z.own == s.own && z.hi == s.lo && z.ex == s.ex then out.dropLast ++ [⟨z.own, z.lo, s.hi, z.ex⟩] else out ++ [s]
  | none => [s]
def rjoinP (l : List Pc) : List Pc := l.foldl rjoinS []
def rwithP (L : List Pc) (c : Pc) : List Pc := rjoinP (rinsP (rwoutP L c) c)
theorem rat_le (L : List Pc) (c : Pc) : rat L c ≤ L.length := List.findIdx_le_length
theorem rinsP_len (L : List Pc) (c : Pc) : (rinsP L c).length = L.length + 1 := by
  have := rat_le L c
  unfold rinsP
  simp; omega
theorem idx_is {α : Type} {p : α → Bool} {L : List α} {k : Nat} {x : α} (h : k ≤ L.findIdx p) (hx : L[k]? = some x) (hn : p x = true) : L.findIdx p = k := by
  have := idxI_here h hx hn
  unfold idxI at this
  split at this <;> omega
theorem idx_end {α : Type} {p : α → Bool} {L : List α} (h : L.length ≤ L.findIdx p) : L.findIdx p = L.length := Nat.le_antisymm List.findIdx_le_length h
theorem rjoinP_snoc {l : List Pc} {k : Nat} {s : Pc} (h : l[k]? = some s) : rjoinP (l.take (k + 1)) = rjoinS (rjoinP (l.take k)) s := by
  unfold rjoinP; rw [List.take_add_one, h, List.foldl_append]; rfl
theorem rjoinS_len (out : List Pc) (s : Pc) : (rjoinS out s).length ≤ out.length + 1 := by
  unfold rjoinS
  split
  · split
    · simp
    · simp
  · simp
theorem rjoinP_len (l : List Pc) : (rjoinP l).length ≤ l.length := by
  have : ∀ (l out : List Pc), (l.foldl rjoinS out).length ≤ out.length + l.length := by
    intro l
    induction l with
    | nil => intro out; simp
    | cons a l ih => intro out; have := ih (rjoinS out a); have := rjoinS_len out a; simp only [List.foldl_cons, List.length_cons]; omega
  simpa [rjoinP] using this l []
theorem rjoinS_some (A : List Pc) (z s : Pc) : rjoinS (A ++ [z]) s = if z.own == s.own && z.hi == s.lo && z.ex == s.ex then A ++ [⟨z.own, z.lo, s.hi, z.ex⟩] else (A ++ [z]) ++ [s] := by
  unfold rjoinS; simp
theorem rjoin_no {out : List Pc} {x : Pc} (h : false = (match out.getLast? with | some z => z.own == x.own && z.hi == x.lo && z.ex == x.ex | none => false)) : rjoinS out x = out ++ [x] := by
  rcases List.eq_nil_or_concat out with rfl | ⟨A, z, rfl⟩
  · rfl
  · rw [List.concat_eq_append] at h ⊢
    rw [rjoinS_some]
    rw [List.getLast?_append] at h
    simp only [List.getLast?_singleton, Option.some_or] at h
    rw [← h]
    simp
theorem rjoin_yes {out : List Pc} {x : Pc} (h : true = (match out.getLast? with | some z => z.own == x.own && z.hi == x.lo && z.ex == x.ex | none => false)) : ∃ A z, out = A ++ [z] ∧ rjoinS out x = A ++ [⟨z.own, z.lo, x.hi, z.ex⟩] := by
  rcases List.eq_nil_or_concat out with rfl | ⟨A, z, rfl⟩
  · cases h
  · refine ⟨A, z, List.concat_eq_append, ?_⟩
    rw [List.concat_eq_append] at h ⊢
    rw [rjoinS_some]
    rw [List.getLast?_append] at h
    simp only [List.getLast?_singleton, Option.some_or] at h
    rw [← h]
    simp
theorem pflat_set (A : List Pc) (z : Pc) (h' : Int) : (pflat (A ++ [z])).set (A.length * 4 + 2) (.int .i64 h') = pflat (A ++ [⟨z.own, z.lo, h', z.ex⟩]) := by
  rw [pflat_snoc, pflat_snoc, List.set_append_right _ _ (by rw [pflat_len]; omega), pflat_len]
  simp [Pc.cells]
theorem row_cap' {w : World} {base e sz n c : Nat} {ad : Option Addr} {xs : List Value} (h : w.ownsRow base e sz (.slice ad n c) n xs) : n ≤ c := by
  rcases row_form h with ⟨hv, hz⟩ | ⟨g, c2, hgc⟩
  · omega
  · injection hgc with h1 h2 h3
    subst h1 h3
    exact row_cap h
theorem src_take' {w : World} {base c k : Nat} {ad : Option Addr} {L : List Pc} (h : w.ownsRow base 91 4 (.slice ad L.length c) L.length (pflat L)) (hk : k ≤ L.length) : SrcOk w (.slice ad k c) k (pflat (L.take k)) := by
  rcases row_form h with ⟨hv, hz⟩ | ⟨g, c2, hgc⟩
  · injection hv with h1 h2 h3
    subst h1 h3
    have hL := List.eq_nil_of_length_eq_zero hz
    subst hL
    obtain rfl : k = 0 := by simpa using hk
    exact .inl ⟨rfl, rfl, rfl⟩
  · injection hgc with h1 h2 h3
    subst h1 h3
    exact src_take h hk
theorem src_drop' {w : World} {base c k : Nat} {ad ad3 : Option Addr} {L : List Pc} (h : w.ownsRow base 91 4 (.slice ad L.length c) L.length (pflat L)) (hk : k ≤ L.length) (had : (if c = k then ad else Option.map (fun x => x.add (k * 4)) ad) = ad3) : SrcOk w (.slice ad3 (L.length - k) (c - k)) (L.length - k) (pflat (L.drop k)) := by
  rcases row_form h with ⟨hv, hz⟩ | ⟨g, c2, hgc⟩
  · injection hv with h1 h2 h3
    subst h1 h3
    have hL := List.eq_nil_of_length_eq_zero hz
    subst hL
    obtain rfl : k = 0 := by simpa using hk
    exact .inl ⟨rfl, rfl, by rw [← had]; rfl⟩
  · injection hgc with h1 h2 h3
    subst h1 h3
    obtain ⟨a3, ha3⟩ : ∃ a3, ad3 = some a3 := by rw [← had]; split <;> exact ⟨_, rfl⟩
    subst ha3
    refine src_drop h hk ?_
    rw [← had]
    simp only [Option.map_some, addmk, Nat.zero_add]
set_option maxRecDepth 100000 in
set_option maxHeartbeats 2000000 in
theorem rwith_any (v : Value) (L : List Pc) (hL : L.length ≤ 2000) (c : Pc) (w : World) (h : w.ownsRow 0 91 4 v L.length (pflat L)) :
    Calls Tryz.prog 54 #[v, pcV c] w fun e w' => ∃ u, e = .returned u ∧ w'.ownsRow w.heap.size 91 4 u (rwithP L c).length (pflat (rwithP L c)) ∧ Below w.heap.size w w' := by
  have HBX := Lib.hid (And.intro (blk_new w (.cells c.cells.toArray 91)) (below_alloc (Below.refl w.heap.size w) (.cells c.cells.toArray 91)))
  have HC := Lib.hid (rwout_any v L (by omega) c (w.alloc (.cells c.cells.toArray 91)) (pw_own_below h HBX.out.2))
  unfold rwithP
  have hXl := rwoutP_len L c
  generalize rwoutP L c = X at HC hXl ⊢
  have hX : X.length ≤ 4000 := by omega
  obtain ⟨ad, cc, rfl⟩ := row_any h
  clear h hL hXl
  simp only [pcV, Pc.cells] at HC HBX ⊢
  go_enter Tryz.func54, Tryz.ntmps54
  go_wp2_with fail
  refine HC.out.mono ?_
  rintro e w1 ⟨u, rfl, hrow, hb1⟩
  have hbx1 := blk_below HBX.out.1 hb1
  have hB1 := below_back HBX.out.2 hb1
  rw [World.size_alloc] at hrow
  have H1 := Lib.hid (And.intro hrow (And.intro hbx1 hB1))
  obtain ⟨ad2, cc2, rfl⟩ := row_any hrow
  clear hrow hbx1 hB1 hb1 HC HBX
  go_wp2
  refine abs_w (fun W => W = w1) rfl ?_
  rintro W0 rfl
  go_loopw [5] (fun t wr => ∃ k : Nat, k ≤ X.length ∧ t = .int .i64 k ∧ Hid (k ≤ rat X c) ∧ Hid (Below W0.heap.size W0 wr)) (fun t _ => X.length - (RowKit.intOf t).toNat)
  case atStart => exact ⟨0, Nat.zero_le _, rfl, Lib.hid (Nat.zero_le _), Lib.hid (Below.refl _ _)⟩
  case round =>
    obtain ⟨k, hk, rfl, hI, hB⟩ := hrel
    have hlr : (X.length : Int) ≤ 4000 := by omega
    have hrow := pw_own_below H1.out.1 hB.out
    have hbx := blk_below H1.out.2.1 hB.out
    have b0 : wr.cell? ⟨w.heap.size, 0, none⟩ = some (.int .i64 c.own) := blk_cell hbx 0
    have b1 : wr.cell? ⟨w.heap.size, 1, none⟩ = some (.int .i64 c.lo) := blk_cell hbx 1
    obtain ⟨b, hb⟩ : ∃ b, b = (match X[k]? with | some x => rltB c x | none => false) := ⟨_, rfl⟩
    go_wp2
    refine region_p (fun a a' w' => (∃ u : Nat → Value, a' = { tmps := #[.slice ad2 X.length cc2, .agg #[.int .i64 c.own, .int .i64 c.lo, .int .i64 c.hi, .bool c.ex], undef, .pointer (some ⟨w.heap.size, 0, none⟩), .slice none 0 0, .int .i64 k, undef, undef, undef, undef, undef, .slice ad L.length cc, .agg #[.int .i64 c.own, .int .i64 c.lo, .int .i64 c.hi, .bool c.ex], .slice ad2 X.length cc2, u 14, u 15, u 16, u 17, u 18, u 19, u 20, u 21, u 22, u 23, u 24, u 25, u 26, u 27, u 28, u 29, u 30, u 31, u 32, u 33, u 34, u 35, u 36, u 37, u 38, u 39, u 40, u 41, u 42, u 43, u 44, u 45, u 46, .bool b, u48, u49, undef, undef, undef, undef, undef, undef, undef, undef, undef, undef, undef, undef, undef, undef, undef, undef, undef, undef, undef, undef, undef, undef, undef, undef, undef, undef, undef, undef, undef, undef, undef, undef, undef, undef, undef, undef, undef, undef, undef, undef, undef, undef, undef, undef, undef, undef, undef, undef, undef, undef, undef, undef, undef, undef, undef, undef, undef, undef, undef, undef, undef, undef, undef, undef, undef, undef, undef, undef, undef, undef, undef], defers := [] }) ∧ Below wr.heap.size wr w') ?_ ?_
    · by_cases hlt : k < X.length
      · obtain ⟨x, hx⟩ : ∃ x, X[k]? = some x := ⟨_, List.getElem?_eq_getElem hlt⟩
        obtain ⟨g, rfl⟩ := row_some2 hrow (by omega)
        obtain ⟨p0, p1, p2, p3⟩ := row_pc hrow hx
        have hk0 : (0 : Int) ≤ (k : Int) := by omega
        have hk1 : (k : Int) < (X.length : Int) := by omega
        have d0 : decide ((k : Int) < (X.length : Int)) = true := decide_eq_true hk1
        rw [hx] at hb
        simp only [rltB] at hb
        have HB := Lib.hid hb
        clear hb hx hlt hrow hbx
        cases d1 : decide (x.own < c.own)
        · cases d2 : (x.own == c.own)
          · obtain rfl : b = false := by rw [HB.out, d1, d2]; rfl
            clear HB
            go_quiet (fail)
            exact ⟨rfl, frA _ _ _ _ _ _ _ _ _ _ _ _ _ _ _ _ _ _ _ _ _ _ _ _ _ _ _ _ _ _ _ _ _ _ _ _ _ _ _ _ _ _ _ _ _ _ _ _ _ _ _ _ _ _ _ _ _ _ _ _ _ _ _ _ _ _ _ _ _ _ _ _ _ _ _ _ _ _ _ _ _ _ _ _ _ _ _ _ _ _ _ _ _ _ _ _ _ _ _ _ _ _ _ _ _ _ _ _ _ _ _ _ _ _ _ _ _ _ _ _ _ _, pw_below_drewN (Below.refl _ _) _⟩
          · cases d3 : decide (x.lo < c.lo)
            · obtain rfl : b = false := by rw [HB.out, d1, d2, d3]; rfl
              clear HB
              go_quiet (fail)
              exact ⟨rfl, frA _ _ _ _ _ _ _ _ _ _ _ _ _ _ _ _ _ _ _ _ _ _ _ _ _ _ _ _ _ _ _ _ _ _ _ _ _ _ _ _ _ _ _ _ _ _ _ _ _ _ _ _ _ _ _ _ _ _ _ _ _ _ _ _ _ _ _ _ _ _ _ _ _ _ _ _ _ _ _ _ _ _ _ _ _ _ _ _ _ _ _ _ _ _ _ _ _ _ _ _ _ _ _ _ _ _ _ _ _ _ _ _ _ _ _ _ _ _ _ _ _ _, pw_below_drewN (Below.refl _ _) _⟩
            · obtain rfl : b = true := by rw [HB.out, d1, d2, d3]; rfl
              clear HB
              go_quiet (fail)
              exact ⟨rfl, frA _ _ _ _ _ _ _ _ _ _ _ _ _ _ _ _ _ _ _ _ _ _ _ _ _ _ _ _ _ _ _ _ _ _ _ _ _ _ _ _ _ _ _ _ _ _ _ _ _ _ _ _ _ _ _ _ _ _ _ _ _ _ _ _ _ _ _ _ _ _ _ _ _ _ _ _ _ _ _ _ _ _ _ _ _ _ _ _ _ _ _ _ _ _ _ _ _ _ _ _ _ _ _ _ _ _ _ _ _ _ _ _ _ _ _ _ _ _ _ _ _ _, pw_below_drewN (Below.refl _ _) _⟩
        · obtain rfl : b = true := by rw [HB.out, d1]; rfl
          clear HB
          go_quiet (fail)
          exact ⟨rfl, frA _ _ _ _ _ _ _ _ _ _ _ _ _ _ _ _ _ _ _ _ _ _ _ _ _ _ _ _ _ _ _ _ _ _ _ _ _ _ _ _ _ _ _ _ _ _ _ _ _ _ _ _ _ _ _ _ _ _ _ _ _ _ _ _ _ _ _ _ _ _ _ _ _ _ _ _ _ _ _ _ _ _ _ _ _ _ _ _ _ _ _ _ _ _ _ _ _ _ _ _ _ _ _ _ _ _ _ _ _ _ _ _ _ _ _ _ _ _ _ _ _ _, pw_below_drewN (Below.refl _ _) _⟩
      · obtain rfl : k = X.length := by omega
        obtain rfl : b = false := by rw [hb, List.getElem?_eq_none (Nat.le_refl _)]
        clear hb hlt hrow hbx
        go_quiet (fail)
        exact ⟨rfl, frA _ _ _ _ _ _ _ _ _ _ _ _ _ _ _ _ _ _ _ _ _ _ _ _ _ _ _ _ _ _ _ _ _ _ _ _ _ _ _ _ _ _ _ _ _ _ _ _ _ _ _ _ _ _ _ _ _ _ _ _ _ _ _ _ _ _ _ _ _ _ _ _ _ _ _ _ _ _ _ _ _ _ _ _ _ _ _ _ _ _ _ _ _ _ _ _ _ _ _ _ _ _ _ _ _ _ _ _ _ _ _ _ _ _ _ _ _ _ _ _ _ _, pw_below_drewN (Below.refl _ _) _⟩
    · rintro a' W3 ⟨⟨u, rfl⟩, hb3⟩
      have hB3 := below_back hB.out hb3
      cases b
      · have he : rat X c = k := by
          unfold rat
          cases hx : X[k]? with
          | none =>
            have h1 := List.getElem?_eq_none_iff.1 hx
            have h2 := hI.out
            unfold rat at h2
            have h3 := idx_end (p := fun x => !rltB c x) (L := X) (by omega)
            omega
          | some x =>
            rw [hx] at hb
            exact idx_is hI.out hx (by simpa using hb)
        have HE := Lib.hid (And.intro he (And.intro hB3 (And.intro (pw_own_below H1.out.1 hB3) (blk_below H1.out.2.1 hB3))))
        clear he hB3 hb3 hb hrow hbx b0 b1 hI hB
        go_wp2
        have hbx3 := HE.out.2.2.2
        have b0 := later_cell (v := .int .i64 c.own) (blk_cell hbx3 0)
        have b1 := later_cell (v := .int .i64 c.lo) (blk_cell hbx3 1)
        have b2 := later_cell (v := .int .i64 c.hi) (blk_cell hbx3 2)
        have b3 := later_cell (v := .bool c.ex) (blk_cell hbx3 3)
        have hs0 : Below W3.heap.size W3 W3 := Below.refl _ _
        clear hbx3
        have HFIN := Lib.hid (fun (w' : World) (v' : Value) (h : w'.ownsRow W3.heap.size 91 4 v' (0 + k + 1 + (X.length - k)) (([] ++ pflat (X.take k)) ++ c.cells ++ pflat (X.drop k))) => show w'.ownsRow W3.heap.size 91 4 v' (rinsP X c).length (pflat (rinsP X c)) by
          rw [rinsP_len]
          unfold rinsP
          rw [HE.out.1, pflat_append, pflat_append, show X.length + 1 = 0 + k + 1 + (X.length - k) by omega, show pflat [c] = c.cells by simp [pflat]]
          simpa using h)
        have hk0 : (0 : Int) ≤ (k : Int) := by omega
        have hk1 : (k : Int) ≤ (X.length : Int) := by omega
        refine region_p (fun a a' w' => ∃ v6 : Value, (∃ u : Nat → Value, a' = { tmps := #[u 0, .agg #[.int .i64 c.own, .int .i64 c.lo, .int .i64 c.hi, .bool c.ex], u 2, .pointer (some ⟨w.heap.size, 0, none⟩), u 4, u 5, v6, u 7, u 8, u 9, u 10, u 11, u 12, u 13, u 14, u 15, u 16, u 17, u 18, u 19, u 20, u 21, u 22, u 23, u 24, u 25, u 26, u 27, u 28, u 29, u 30, u 31, u 32, u 33, u 34, u 35, u 36, u 37, u 38, u 39, u 40, u 41, u 42, u 43, u 44, u 45, u 46, u 47, u 48, u 49, u 50, u 51, u 52, u 53, u 54, u 55, u 56, u 57, u 58, u 59, u 60, u 61, u 62, u 63, u 64, u 65, u 66, u 67, u 68, u 69, u 70, u 71, u 72, u 73, u 74, u 75, u 76, u 77, u 78, u 79, u 80, u 81, u 82, u 83, u 84, u 85, u 86, u 87, u 88, u 89, u 90, u 91, u 92, u 93, u 94, u 95, u 96, u 97, u 98, u 99, u 100, u 101, u 102, u 103, u 104, u 105, u 106, u 107, u 108, u 109, u 110, u 111, u 112, u 113, u 114, u 115, u 116, u 117, u 118, u 119, u 120], defers := [] }) ∧ w'.ownsRow W3.heap.size 91 4 v6 (rinsP X c).length (pflat (rinsP X c)) ∧ Below W3.heap.size W3 w') ?_ ?_
        · obtain ⟨ad3, had⟩ : ∃ ad : Option Addr, (if cc2 = k then ad2 else Option.map (fun x => x.add (k * 4)) ad2) = ad := ⟨_, rfl⟩
          have hcap := row_cap' HE.out.2.2.1
          have HSL := Lib.hid (fun (w' : World) (hb : Below W3.heap.size W3 w') => show SrcOk w' (.slice ad2 k cc2) k (pflat (X.take k)) from src_take' (pw_own_below HE.out.2.2.1 hb) hk)
          have HSR := Lib.hid (fun (w' : World) (hb : Below W3.heap.size W3 w') => show SrcOk w' (.slice ad3 (X.length - k) (cc2 - k)) (X.length - k) (pflat (X.drop k)) from src_drop' (pw_own_below HE.out.2.2.1 hb) hk had)
          have hk2 : (k : Int) ≤ (cc2 : Int) := by omega
          have hk3 : (X.length : Int) ≤ (cc2 : Int) := by omega
          clear hcap
          go_region_held3 (fun w' => Below W3.heap.size W3 w') (first | assumption | exact below_drew (by assumption) | exact below_alloc (by assumption) _)
              (first | (refine step_app4 (by rfl) (.tmp 50) (.tmp 53) 91 59 (by rfl) Tryz.underlying59 info94 W3 _ 0 [] (by rfl) (row0 _ _ _ (by first | assumption | exact blk_new _ _ | exact blk_new2 _ _ _ | exact blk_alloc (blk_new _ _) _ | exact blk_drew (blk_new _ _) | exact blk_drew (blk_new2 _ _ _) | exact blk_drew (blk_alloc (blk_new _ _) _) | exact blk_alloc (blk_drew (blk_new _ _)) _) (by simp)) _ k (pflat (X.take k)) (by rfl) (HSL.out _ (by first | assumption | (repeat (first | assumption | apply below_drew | refine below_alloc ?_ _)))) (by omega) (by first | assumption | (repeat (first | assumption | apply below_drew | refine below_alloc ?_ _))) ?_; intro v54 w54 hown54 hB54 hk54 hat54 hz54) | (refine step_app4 (by rfl) (.tmp 54) (.tmp 56) 91 59 (by rfl) Tryz.underlying59 info94 W3 v54 (0 + k) ([] ++ pflat (X.take k)) (by rfl) (by first | assumption | exact pw_own_below hown54 (below_alloc (Below.refl _ _) _) | exact pw_own_below hown54 (below_drew (below_alloc (Below.refl _ _) _))) _ 1 c.cells (by rfl) (src_one (by first | exact blk_new _ _ | exact blk_drew (blk_new _ _) | exact hk54 _ _ (by simp [Value.ownBlock]) (by first | assumption | exact blk_new _ _ | exact blk_new2 _ _ _ | exact blk_alloc (blk_new _ _) _ | exact blk_drew (blk_new _ _) | exact blk_drew (blk_new2 _ _ _) | exact blk_drew (blk_alloc (blk_new _ _) _) | exact blk_alloc (blk_drew (blk_new _ _)) _))) (by omega) (by first | assumption | (repeat (first | assumption | apply below_drew | refine below_alloc ?_ _))) ?_; intro v57 w57 hown57 hB57 hk57 hat57 hz57) | (refine step_app4 (by rfl) (.tmp 57) (.tmp 60) 91 59 (by rfl) Tryz.underlying59 info94 W3 v57 (0 + k + 1) (([] ++ pflat (X.take k)) ++ c.cells) (by rfl) (by assumption) _ (X.length - k) (pflat (X.drop k)) (by rfl) (HSR.out _ (by first | assumption | (repeat (first | assumption | apply below_drew | refine below_alloc ?_ _)))) (by omega) (by first | assumption | (repeat (first | assumption | apply below_drew | refine below_alloc ?_ _))) ?_; intro v61 w61 hown61 hB61 hk61 hat61 hz61))
          all_goals exact ⟨rfl, v61, frC _ _ _ _ _ _ _ _ _ _ _ _ _ _ _ _ _ _ _ _ _ _ _ _ _ _ _ _ _ _ _ _ _ _ _ _ _ _ _ _ _ _ _ _ _ _ _ _ _ _ _ _ _ _ _ _ _ _ _ _ _ _ _ _ _ _ _ _ _ _ _ _ _ _ _ _ _ _ _ _ _ _ _ _ _ _ _ _ _ _ _ _ _ _ _ _ _ _ _ _ _ _ _ _ _ _ _ _ _ _ _ _ _ _ _ _ _ _ _ _ _ _, HFIN.out _ _ hown61, hB61⟩
        · rintro a' W4 ⟨v6, ⟨u', rfl⟩, hown4, hb4⟩
          obtain ⟨ad6, cc6, rfl⟩ := row_any hown4
          have hYl := rinsP_len X c
          have H4 := Lib.hid (And.intro (show Below w.heap.size w W4 from below_back (below_back H1.out.2.2 HE.out.2.1) hb4) hown4)
          clear hb4 hown4 HE b0 b1 b2 b3 hs0 hk0 hk1 HFIN hk
          obtain ⟨Y, hYe⟩ : ∃ Y, rinsP X c = Y := ⟨_, rfl⟩
          rw [hYe] at H4 hYl ⊢
          have HYE := Lib.hid hYe
          clear hYe
          have hY : Y.length ≤ 4001 := by omega
          clear hYl hX H1
          go_wp2
          go_loopw [8, 7] (fun i u wr => ∃ j : Nat, j ≤ Y.length ∧ i = .int .i64 j ∧ Hid (wr.ownsRow W4.heap.size 91 4 u (rjoinP (Y.take j)).length (pflat (rjoinP (Y.take j)))) ∧ Hid (Below W4.heap.size W4 wr)) (fun i _ _ => Y.length - (RowKit.intOf i).toNat)
          case atStart => exact ⟨0, Nat.zero_le _, rfl, Lib.hid (World.ownsRow_nil _ _ _ _), Lib.hid (Below.refl _ _)⟩
          case round =>
            obtain ⟨j, hk, rfl, hown, hB⟩ := hrel
            have hlr : (Y.length : Int) ≤ 4001 := by omega
            by_cases hlt : j < Y.length
            · obtain ⟨x, hx⟩ : ∃ x, Y[j]? = some x := ⟨_, List.getElem?_eq_getElem hlt⟩
              have hR := pw_own_below H4.out.2 hB.out
              obtain ⟨g, rfl⟩ := row_some2 hR (by omega)
              obtain ⟨p0, p1, p2, p3⟩ := row_pc hR hx
              have hk0 : (0 : Int) ≤ (j : Int) := by omega
              have hk1 : (j : Int) < (Y.length : Int) := by omega
              have HJ := Lib.hid (And.intro (rjoinP_snoc hx) (And.intro hlt (show (rjoinP (Y.take j)).length ≤ 4001 by have := rjoinP_len (Y.take j); rw [List.length_take] at this; omega)))
              clear hx hlt hR
              generalize rjoinP (Y.take j) = out at hown HJ
              obtain ⟨ado, co, rfl⟩ := row_any hown.out
              obtain ⟨N, hN⟩ : ∃ N, out.length = N := ⟨_, rfl⟩
              rw [hN] at hown ⊢
              have HN := Lib.hid hN
              clear hN
              go_wp2
              refine abs_w (fun W2 => W2.heap[wr.heap.size]? = some (.cells x.cells.toArray 91 (0, 0)) ∧ Below wr.heap.size wr W2) ⟨blk_new _ _, below_alloc (Below.refl _ _) _⟩ ?_
              rintro W2 ⟨hx2, hb2⟩
              obtain ⟨b9, hb9⟩ : ∃ b9, wr.heap.size = b9 := ⟨_, rfl⟩
              rw [hb9] at hx2 ⊢
              have H2 := Lib.hid (And.intro (pw_own_below hown.out hb2) (And.intro (below_back hB.out hb2) hx2))
              obtain ⟨b, hb⟩ : ∃ b, b = (match out.getLast? with | some z => z.own == x.own && z.hi == x.lo && z.ex == x.ex | none => false) := ⟨_, rfl⟩
              have r0 : W2.cell? ⟨b9, 0, none⟩ = some (.int .i64 x.own) := blk_cell hx2 0
              have r1 : W2.cell? ⟨b9, 1, none⟩ = some (.int .i64 x.lo) := blk_cell hx2 1
              have r3 : W2.cell? ⟨b9, 3, none⟩ = some (.bool x.ex) := blk_cell hx2 3
              clear p0 p1 p2 p3 hx2 hb2 hb9
              refine region_p (fun a a' w' => (∃ u : Nat → Value, a' = { tmps := #[u' 0, .agg #[.int .i64 c.own, .int .i64 c.lo, .int .i64 c.hi, .bool c.ex], u' 2, .pointer (some ⟨w.heap.size, 0, none⟩), u' 4, u' 5, .slice (some ⟨g, 0, none⟩) Y.length cc6, .slice ado N co, .int .i64 j, .pointer (some ⟨b9, 0, none⟩), .int .i64 N, u' 11, u' 12, u' 13, u' 14, u' 15, u' 16, u' 17, u' 18, u' 19, u' 20, u' 21, u' 22, u' 23, u' 24, u' 25, u' 26, u' 27, u' 28, u' 29, u' 30, u' 31, u' 32, u' 33, u' 34, u' 35, u' 36, u' 37, u' 38, u' 39, u' 40, u' 41, u' 42, u' 43, u' 44, u' 45, u' 46, u' 47, u' 48, u' 49, u' 50, u' 51, u' 52, u' 53, u' 54, u' 55, u' 56, u' 57, u' 58, u' 59, u' 60, u' 61, .int .i64 j, .slice (some ⟨g, 0, none⟩) Y.length cc6, .int .i64 Y.length, .bool true, u66, u67, .slice (some ⟨g, 0, none⟩) Y.length cc6, .int .i64 j, .pointer (some ⟨g, j * 4, none⟩), pcV x, .slice ado N co, .int .i64 N, u 74, u 75, u 76, u 77, u 78, u 79, u 80, u 81, u 82, u 83, u 84, u 85, u 86, u 87, u 88, u 89, u 90, u 91, u 92, u 93, u 94, u 95, u 96, u 97, u 98, u 99, u 100, u 101, u 102, u 103, u 104, u 105, u 106, u 107, .bool b, u109, u110, u111, u112, u113, u114, u115, u116, u117, u118, u119, u' 120], defers := [] }) ∧ Below W2.heap.size W2 w') ?_ ?_
              · rcases List.eq_nil_or_concat out with rfl | ⟨A, z, rfl⟩
                · obtain rfl : N = 0 := by have := HN.out; simpa using this.symm
                  obtain rfl : b = false := by rw [hb]; rfl
                  clear hb hk0 hk1
                  go_quiet (fail)
                  exact ⟨rfl, frB _ _ _ _ _ _ _ _ _ _ _ _ _ _ _ _ _ _ _ _ _ _ _ _ _ _ _ _ _ _ _ _ _ _ _ _ _ _ _ _ _ _ _ _ _ _ _ _ _ _ _ _ _ _ _ _ _ _ _ _ _ _ _ _ _ _ _ _ _ _ _ _ _ _ _ _ _ _ _ _ _ _ _ _ _ _ _ _ _ _ _ _ _ _ _ _ _ _ _ _ _ _ _ _ _ _ _ _ _ _ _ _ _ _ _ _ _ _ _ _ _ _, pw_below_drewN (Below.refl _ _) _⟩
                · rw [List.concat_eq_append] at hb HN H2 HJ
                  obtain rfl : N = A.length + 1 := by have := HN.out; simpa using this.symm
                  rw [List.getLast?_append] at hb
                  simp only [List.getLast?_singleton, Option.some_or] at hb
                  obtain ⟨g3, rfl⟩ := row_some2 H2.out.1 (by omega)
                  obtain ⟨q0, q1, q2, q3⟩ := row_pc (l := A ++ [z]) H2.out.1 (k := A.length) (x := z) (by simp)
                  have hz0 : (0 : Int) ≤ (A.length : Int) := by omega
                  have hz1 : (A.length : Int) < (A.length : Int) + 1 := by omega
                  have hz2 : decide ((0 : Int) < (A.length : Int) + 1) = true := decide_eq_true (by omega)
                  have hzw : IntKind.i64.wrap (A.length : Int) = (A.length : Int) := IntWalk.i64_in _ (by have h1 := HJ.out.2.2; rw [List.length_append, List.length_singleton] at h1; omega)
                  have HB := Lib.hid hb
                  clear hb hk0 hk1
                  cases d1 : (z.own == x.own)
                  · obtain rfl : b = false := by rw [HB.out, d1]; rfl
                    clear HB
                    go_quiet (fail)
                    exact ⟨rfl, frB _ _ _ _ _ _ _ _ _ _ _ _ _ _ _ _ _ _ _ _ _ _ _ _ _ _ _ _ _ _ _ _ _ _ _ _ _ _ _ _ _ _ _ _ _ _ _ _ _ _ _ _ _ _ _ _ _ _ _ _ _ _ _ _ _ _ _ _ _ _ _ _ _ _ _ _ _ _ _ _ _ _ _ _ _ _ _ _ _ _ _ _ _ _ _ _ _ _ _ _ _ _ _ _ _ _ _ _ _ _ _ _ _ _ _ _ _ _ _ _ _ _, pw_below_drewN (Below.refl _ _) _⟩
                  · cases d2 : (z.hi == x.lo)
                    · obtain rfl : b = false := by rw [HB.out, d1, d2]; rfl
                      clear HB
                      go_quiet (fail)
                      exact ⟨rfl, frB _ _ _ _ _ _ _ _ _ _ _ _ _ _ _ _ _ _ _ _ _ _ _ _ _ _ _ _ _ _ _ _ _ _ _ _ _ _ _ _ _ _ _ _ _ _ _ _ _ _ _ _ _ _ _ _ _ _ _ _ _ _ _ _ _ _ _ _ _ _ _ _ _ _ _ _ _ _ _ _ _ _ _ _ _ _ _ _ _ _ _ _ _ _ _ _ _ _ _ _ _ _ _ _ _ _ _ _ _ _ _ _ _ _ _ _ _ _ _ _ _ _, pw_below_drewN (Below.refl _ _) _⟩
                    · cases d3 : (z.ex == x.ex)
                      · obtain rfl : b = false := by rw [HB.out, d1, d2, d3]; rfl
                        clear HB
                        go_quiet (fail)
                        exact ⟨rfl, frB _ _ _ _ _ _ _ _ _ _ _ _ _ _ _ _ _ _ _ _ _ _ _ _ _ _ _ _ _ _ _ _ _ _ _ _ _ _ _ _ _ _ _ _ _ _ _ _ _ _ _ _ _ _ _ _ _ _ _ _ _ _ _ _ _ _ _ _ _ _ _ _ _ _ _ _ _ _ _ _ _ _ _ _ _ _ _ _ _ _ _ _ _ _ _ _ _ _ _ _ _ _ _ _ _ _ _ _ _ _ _ _ _ _ _ _ _ _ _ _ _ _, pw_below_drewN (Below.refl _ _) _⟩
                      · obtain rfl : b = true := by rw [HB.out, d1, d2, d3]; rfl
                        clear HB
                        go_quiet (fail)
                        exact ⟨rfl, frB _ _ _ _ _ _ _ _ _ _ _ _ _ _ _ _ _ _ _ _ _ _ _ _ _ _ _ _ _ _ _ _ _ _ _ _ _ _ _ _ _ _ _ _ _ _ _ _ _ _ _ _ _ _ _ _ _ _ _ _ _ _ _ _ _ _ _ _ _ _ _ _ _ _ _ _ _ _ _ _ _ _ _ _ _ _ _ _ _ _ _ _ _ _ _ _ _ _ _ _ _ _ _ _ _ _ _ _ _ _ _ _ _ _ _ _ _ _ _ _ _ _, pw_below_drewN (Below.refl _ _) _⟩
              · rintro a' W3 ⟨⟨uu, rfl⟩, hb3⟩
                have H3 := Lib.hid (And.intro (pw_own_below H2.out.1 hb3) (And.intro (below_back H2.out.2.1 hb3) (blk_below H2.out.2.2 hb3)))
                have hx3 := H3.out.2.2
                clear hb3 r0 r1 r3
                have x0 : W3.cell? ⟨b9, 0, none⟩ = some (.int .i64 x.own) := blk_cell hx3 0
                have x1 : W3.cell? ⟨b9, 1, none⟩ = some (.int .i64 x.lo) := blk_cell hx3 1
                have x2 : W3.cell? ⟨b9, 2, none⟩ = some (.int .i64 x.hi) := blk_cell hx3 2
                have x3 : W3.cell? ⟨b9, 3, none⟩ = some (.bool x.ex) := blk_cell hx3 3
                clear hx3 hk0 hk1
                cases b
                · have HF := Lib.hid (HJ.out.1.trans (rjoin_no hb))
                  clear hb
                  go_wp2_with (at_builtin; refine app_pc rfl (.tmp 116) (.tmp 118) rfl W4 W3 (.slice ado N co) out rfl (by rw [HN.out]; exact H3.out.1) H3.out.2.1 (by have := HJ.out.2.2; omega) (below_alloc (Below.refl _ _) _) _ _ x rfl (blk_new _ _) ?_; intro v' w6 hown6 hB6 hk6)
                  have hN := Lib.hid (show w6.ownsRow W4.heap.size 91 4 v' (rjoinP (Y.take (j + 1))).length (pflat (rjoinP (Y.take (j + 1)))) by rw [HF.out]; exact hown6)
                  have hB7 := Lib.hid hB6
                  clear hown6 hB6 hk6
                  go_roundw
                  case rel => exact ⟨j + 1, by have := HJ.out.2.1; omega, by go_num, hN, hB7⟩
                  case measure => have := HJ.out.2.1; simp [RowKit.intOf]; omega
                · obtain ⟨A, z, rfl, hf⟩ := rjoin_yes hb
                  have HF := Lib.hid (HJ.out.1.trans hf)
                  obtain rfl : N = A.length + 1 := by have := HN.out; simpa using this.symm
                  obtain ⟨g3, rfl⟩ := row_some2 H3.out.1 (by omega)
                  obtain ⟨q0, q1, q2, q3⟩ := row_pc (l := A ++ [z]) H3.out.1 (k := A.length) (x := z) (by simp)
                  have f2 : W3.frozen? ⟨g3, A.length * 4 + 2, none⟩ = false := own_frozen H3.out.1 _
                  have hz0 : (0 : Int) ≤ (A.length : Int) := by omega
                  have hz1 : (A.length : Int) < (A.length : Int) + 1 := by omega
                  have hzw : IntKind.i64.wrap (A.length : Int) = (A.length : Int) := IntWalk.i64_in _ (by have h1 := HJ.out.2.2; rw [List.length_append, List.length_singleton] at h1; omega)
                  clear hb hf
                  go_wp2
                  have hN := Lib.hid (show (W3.setCell ⟨g3, A.length * 4 + 2, none⟩ (.int .i64 x.hi)).ownsRow W4.heap.size 91 4 (.slice (some ⟨g3, 0, none⟩) (A.length + 1) co) (rjoinP (Y.take (j + 1))).length (pflat (rjoinP (Y.take (j + 1)))) by
                    rw [HF.out, List.length_append, ← pflat_set A z x.hi]
                    exact own_set H3.out.1 _ _)
                  have hB7 := Lib.hid (show Below W4.heap.size W4 (W3.setCell ⟨g3, A.length * 4 + 2, none⟩ (.int .i64 x.hi)) from ((Keeps.of_below H3.out.2.1 (fun b => W4.heap.size ≤ b)).set _ _ (.inl (H3.out.1.lt g3 rfl).1)).below (Nat.le_refl _) (fun _ h => h))
                  go_roundw
                  case rel => exact ⟨j + 1, by have := HJ.out.2.1; omega, by go_num, hN, hB7⟩
                  case measure => have := HJ.out.2.1; simp [RowKit.intOf]; omega
            · obtain rfl : j = Y.length := by omega
              rw [List.take_length] at hown
              go_wp2
              go_ret
              exact ⟨_, rfl, by rw [HYE.out]; exact own_base hown.out H4.out.1.size, below_back H4.out.1 hB.out⟩
      · obtain ⟨x, hx, hr⟩ : ∃ x, X[k]? = some x ∧ rltB c x = true := by
          cases hx : X[k]? with
          | none => rw [hx] at hb; cases hb
          | some x => rw [hx] at hb; exact ⟨x, rfl, hb.symm⟩
        have hlt := (List.getElem?_eq_some_iff.1 hx).1
        have HN := Lib.hid (And.intro hlt (show k + 1 ≤ rat X c from idxI_step hI.out hx (by rw [hr]; rfl)))
        have HB3 := Lib.hid hB3
        clear hx hr hlt hb hrow hbx b0 b1 hB3 hb3
        go_wp2
        go_roundw
        case rel => exact ⟨k + 1, by have := HN.out.1; omega, by go_num, Lib.hid HN.out.2, HB3⟩
        case measure => have := HN.out.1; simp [RowKit.intOf]; omega
end
section
set_option linter.unusedVariables false
set_option linter.unusedSimpArgs false
open Go.RowKit Go.Maps Go.Sort Go.Lib Go.Shelf Go.Proofs.YtoolflmaaooplaaGreatW.PrintWords Go.Proofs.YtoolflmaaooplaaGreatW.PrintLast Go.Proofs.YtoolflmaaooplaaGreatW.PrintMore FLib

def rgrB (P : List Pc) (x : Lk) : Bool := decide (idxI (fun s => rconfI s (rofI x)) P < 0) && decide ((rwithP P (rofI x)).length ≤ 200)
def rgrT (P : List Pc) (x : Lk) : List Pc := rwithP P (rofI x)
def rdelF : List Pc → List Int → List Lk → (List Pc × List Int) × List Lk
  | P, out, [] => ((P, out), [])
  | P, out, x :: Q => if rgrB P x then rdelF (rgrT P x) (out ++ [x.own]) Q else ((rdelF P out Q).1, x :: (rdelF P out Q).2)
theorem rdelF_snoc (Q : List Lk) (x : Lk) : ∀ (P : List Pc) (out : List Int), rdelF P out (Q ++ [x]) =
    if rgrB (rdelF P out Q).1.1 x then ((rgrT (rdelF P out Q).1.1 x, (rdelF P out Q).1.2 ++ [x.own]), (rdelF P out Q).2) else ((rdelF P out Q).1, (rdelF P out Q).2 ++ [x]) := by
  induction Q with
  | nil => intro P out; by_cases h : rgrB P x = true <;> simp [rdelF, h]
  | cons y Q ih =>
    intro P out
    rw [List.cons_append]
    by_cases hy : rgrB P y = true
    · simp only [rdelF, if_pos hy]
      exact ih _ _
    · simp only [rdelF, if_neg hy, ih]
      split <;> rfl
theorem rdelF_le (P : List Pc) (out : List Int) (Q : List Lk) : (rdelF P out Q).2.length ≤ Q.length := by
  induction Q generalizing P out with
  | nil => exact Nat.le_refl _
  | cons y Q ih =>
    unfold rdelF
    split
    · have := ih (rgrT P y) (out ++ [y.own]); rw [List.length_cons]; omega
    · have := ih P out; simp only [List.length_cons]; omega
theorem rdelF_len (Q : List Lk) : ∀ (P : List Pc) (out : List Int), (rdelF P out Q).1.2.length + (rdelF P out Q).2.length = out.length + Q.length := by
  induction Q with
  | nil => intro P out; rfl
  | cons y Q ih =>
    intro P out
    unfold rdelF
    split
    · have := ih (rgrT P y) (out ++ [y.own]); rw [List.length_append, List.length_singleton] at this; rw [List.length_cons]; omega
    · have := ih P out; simp only [List.length_cons]; omega
theorem rdelF_ok (Q : List Lk) : ∀ (P : List Pc) (out : List Int), P.length ≤ 200 → QOk Q → (rdelF P out Q).1.1.length ≤ 200 ∧ QOk (rdelF P out Q).2 := by
  induction Q with
  | nil => intro P out h hq; exact ⟨h, hq⟩
  | cons y Q ih =>
    intro P out h hq
    have hq2 : QOk Q := fun x hx => hq x (List.mem_cons_of_mem _ hx)
    unfold rdelF
    by_cases hy : rgrB P y = true
    · rw [if_pos hy]
      refine ih _ _ ?_ hq2
      unfold rgrB at hy
      simp only [Bool.and_eq_true, decide_eq_true_eq] at hy
      exact hy.2
    · rw [if_neg hy]
      have := ih P out h hq2
      refine ⟨this.1, fun x hx => ?_⟩
      rcases List.mem_cons.1 hx with rfl | hx
      · exact hq _ (List.mem_cons_self ..)
      · exact this.2 x hx
def rscanF : Nat → List Pc → List Int → List Lk → (List Pc × List Int) × List Lk
  | 0, P, out, Q => ((P, out), Q)
  | n + 1, P, out, Q => if (rdelF P out Q).2.length < Q.length then rscanF n (rdelF P out Q).1.1 (rdelF P out Q).1.2 (rdelF P out Q).2 else rdelF P out Q
theorem rscanF_fuel (k : Nat) : ∀ (n : Nat) (P : List Pc) (out : List Int) (Q : List Lk), Q.length ≤ k → Q.length < n → rscanF n P out Q = rscanF (Q.length + 1) P out Q := by
  induction k with
  | zero =>
    intro n P out Q hk hn
    obtain ⟨m, rfl⟩ : ∃ m, n = m + 1 := ⟨n - 1, by omega⟩
    unfold rscanF
    rw [if_neg (by omega), if_neg (by omega)]
  | succ k ih =>
    intro n P out Q hk hn
    obtain ⟨m, rfl⟩ : ∃ m, n = m + 1 := ⟨n - 1, by omega⟩
    unfold rscanF
    by_cases h : (rdelF P out Q).2.length < Q.length
    · rw [if_pos h, if_pos h, ih m _ _ _ (by omega) (by omega), ih Q.length _ _ _ (by omega) (by omega)]
    · rw [if_neg h, if_neg h]
/-- One pass, then the rest of the scan. -/
theorem rscanF_pass (P : List Pc) (out : List Int) (Q : List Lk) : rscanF (Q.length + 1) P out Q = if (rdelF P out Q).2.length < Q.length then rscanF ((rdelF P out Q).2.length + 1) (rdelF P out Q).1.1 (rdelF P out Q).1.2 (rdelF P out Q).2 else (((rdelF P out Q).1.1, (rdelF P out Q).1.2), (rdelF P out Q).2) := by
  rw [rscanF]
  by_cases h : (rdelF P out Q).2.length < Q.length
  · rw [if_pos h, if_pos h, rscanF_fuel _ Q.length _ _ _ (Nat.le_refl _) h]
  · rw [if_neg h, if_neg h]

theorem row_ne {w : World} {base base' e e' sz sz' n n' : Nat} {v v' : Value} {xs xs' : List Value} (h : w.ownsRow base e sz v n xs) (h' : w.ownsRow base' e' sz' v' n' xs') (he : e ≠ e') {k : Nat} (hk : v.ownBlock = some k) : v'.ownBlock ≠ some k := by
  intro hk'
  obtain ⟨cs, hc⟩ := own_ty h hk
  obtain ⟨cs', hc'⟩ := own_ty h' hk'
  rw [hc] at hc'
  cases hc'
  exact he rfl
theorem row_hdr {w : World} {base e sz n : Nat} {v : Value} {xs : List Value} (h : w.ownsRow base e sz v n xs) {q t : Nat} {cs : Array Value} (hq : w.heap[q]? = some (.cells cs t (0, 0))) (he : e ≠ t) : v.ownBlock ≠ some q := by
  intro hk
  obtain ⟨cs', hc⟩ := own_ty h hk
  rw [hc] at hq
  cases hq
  exact he rfl
theorem RT.keep {W W' : World} {q : Nat} {gv qv : Value} {P : List Pc} {Q : List Lk} {F : Nat → Prop} (h : RT W q gv qv P Q) (hk : Keeps W W' F) (hF : ∀ k, F k → k ≠ q ∧ gv.ownBlock ≠ some k ∧ qv.ownBlock ≠ some k) : RT W' q gv qv P Q :=
  ⟨hk.blk h.hdr (fun hf => (hF _ hf).1 rfl), own_move h.gr (fun k hk' => hk.block k (row_lt h.gr hk') (fun hf => (hF _ hf).2.1 hk')), own_move h.qr (fun k hk' => hk.block k (row_lt h.qr hk') (fun hf => (hF _ hf).2.2 hk'))⟩
theorem RT.set0 {W : World} {q : Nat} {gv qv gv' : Value} {P P' : List Pc} {Q : List Lk} (h : RT W q gv qv P Q) (hr : W.ownsRow 0 91 4 gv' P'.length (pflat P')) : RT (W.setCell ⟨q, 0, none⟩ gv') q gv' qv P' Q :=
  ⟨blk_put h.hdr 0 gv' rfl, own_move hr (fun k hk => Below.heap_setCell _ _ _ _ (fun e => row_hdr hr h.hdr (by omega) (hk.trans (congrArg some e)))), own_move h.qr (fun k hk => Below.heap_setCell _ _ _ _ (fun e => row_hdr h.qr h.hdr (by omega) (hk.trans (congrArg some e))))⟩
theorem RT.set1 {W : World} {q : Nat} {gv qv qv' : Value} {P : List Pc} {Q Q' : List Lk} (h : RT W q gv qv P Q) (hr : W.ownsRow 0 63 4 qv' Q'.length (lflat Q')) : RT (W.setCell ⟨q, 1, none⟩ qv') q gv qv' P Q' :=
  ⟨blk_put h.hdr 1 qv' rfl, own_move h.gr (fun k hk => Below.heap_setCell _ _ _ _ (fun e => row_hdr h.gr h.hdr (by omega) (hk.trans (congrArg some e)))), own_move hr (fun k hk => Below.heap_setCell _ _ _ _ (fun e => row_hdr hr h.hdr (by omega) (hk.trans (congrArg some e))))⟩
/-- A row that no store at q and no append elsewhere touches. -/
theorem row_far {W : World} {base e sz n q t : Nat} {v u : Value} {xs : List Value} {cs : Array Value} (h : W.ownsRow base e sz v n xs) (hq : W.heap[q]? = some (.cells cs t (0, 0))) (he : e ≠ t) (i : Nat) : (W.setCell ⟨q, i, none⟩ u).ownsRow base e sz v n xs :=
  own_move h (fun k hk => Below.heap_setCell _ _ _ _ (fun e2 => row_hdr h hq he (hk.trans (congrArg some e2))))
theorem row_grown {W W' : World} {base e sz n : Nat} {v : Value} {xs : List Value} {row : Option Nat} (h : W.ownsRow base e sz v n xs) (hg : W.grownBy W' row) (hne : ∀ k, v.ownBlock = some k → row ≠ some k) : W'.ownsRow base e sz v n xs :=
  own_move h (fun k hk => hg.block k (row_lt h hk) (fun e => hne k hk e.symm))

/-- append of one reference's lock to a row of the call's own -/
theorem app_rl {ops : Array Oper} {rest : List Oper} {o : Oper} {a : Act} {Q : Exit → Act → World → Prop} {w : World} (hgd : o.guard = none) (s x : Operand) (ho : o.op = .call { callee := .builtin .append, args := #[s, x], argTypes := #[60, 60] })
    (base : Nat) (v : Value) (L : List Lk) (hs : a.eval s = v) (hown : w.ownsRow base 63 4 v L.length (lflat L)) (hl : L.length ≤ 1000000) (hbase : base ≤ w.heap.size)
    (b c : Nat) (p : Lk) (hx : a.eval x = .slice (some ⟨b, 0, none⟩) 1 c) (hb : w.heap[b]? = some (.cells p.cells.toArray 63 (0, 0)))
    (h : ∀ v' w', w'.ownsRow base 63 4 v' (L ++ [p]).length (lflat (L ++ [p])) → w.grownBy w' v.ownBlock → wpList Tryz.prog ops Q rest (a.put o.dst v') w') : wpList Tryz.prog ops Q (o :: rest) a w := by
  obtain ⟨i, hi, hz, hs1, hb8⟩ := info_parts info85
  refine wpList_append_own w hgd s x 60 ho base 63 i _ 4 32 Tryz.underlying60 hi hz hs1 hb8 rfl (by decide) v L.length (lflat L) hs hown ⟨b, 0, none⟩ 1 c p.cells hx rfl (fun j u hu => cells_at hb j u hu) (fun u hu => ?_) (by unfold maxLen; omega) (by omega) hbase (fun v' w' h1 h2 _ => h v' w' ?_ h2)
  · simp only [Lk.cells, List.mem_cons, List.not_mem_nil, or_false] at hu
    rcases hu with rfl | rfl | rfl | rfl <;> rfl
  · rw [lflat_snoc, List.length_append]
    exact h1
/-- append of one number to a row of the call's own -/
theorem app_int {ops : Array Oper} {rest : List Oper} {o : Oper} {a : Act} {Q : Exit → Act → World → Prop} {w : World} (hgd : o.guard = none) (s x : Operand) (ho : o.op = .call { callee := .builtin .append, args := #[s, x], argTypes := #[35, 35] })
    (base : Nat) (v : Value) (L : List Int) (hs : a.eval s = v) (hown : w.ownsRow base 3 1 v L.length (L.map encZ)) (hl : L.length ≤ 1000000) (hbase : base ≤ w.heap.size)
    (b c : Nat) (n : Int) (hx : a.eval x = .slice (some ⟨b, 0, none⟩) 1 c) (hb : w.heap[b]? = some (.cells #[.int .i64 n] 3 (0, 0)))
    (h : ∀ v' w', w'.ownsRow base 3 1 v' (L ++ [n]).length ((L ++ [n]).map encZ) → w.grownBy w' v.ownBlock → wpList Tryz.prog ops Q rest (a.put o.dst v') w') : wpList Tryz.prog ops Q (o :: rest) a w := by
  obtain ⟨i, hi, hz, hs1, hb8⟩ := info_parts3
  refine wpList_append_own w hgd s x 35 ho base 3 i _ 1 8 Tryz.underlying35 hi hz hs1 hb8 rfl (by decide) v L.length (L.map encZ) hs hown ⟨b, 0, none⟩ 1 c [.int .i64 n] hx rfl (fun j u hu => cells_at (cs := [.int .i64 n]) hb j u hu) (fun u hu => ?_) (by unfold maxLen; omega) (by omega) hbase (fun v' w' h1 h2 _ => h v' w' ?_ h2)
  · rw [List.mem_singleton.1 hu]; rfl
  · rw [List.map_append, List.length_append]
    exact h1
end
section
set_option linter.unusedVariables false
set_option linter.unusedSimpArgs false
open Go.RowKit Go.Maps Go.Sort Go.Lib Go.Shelf Go.Proofs.YtoolflmaaooplaaGreatW.PrintWords Go.Proofs.YtoolflmaaooplaaGreatW.PrintLast Go.Proofs.YtoolflmaaooplaaGreatW.PrintMore FLib
attribute [local go_sem] below_alloc_T below_drew_T below_drewN_T

def mB : Value → Nat
  | .bool true => 1
  | _ => 0
/-- What holds between two passes. -/
structure RSI (w : World) (q : Nat) (R : (List Pc × List Int) × List Lk) (b : Bool) (P : List Pc) (out : List Int) (Q : List Lk) (gv qv uo : Value) (W : World) : Prop where
  rt : RT W q gv qv P Q
  row : W.ownsRow w.heap.size 3 1 uo out.length (out.map encZ)
  keeps : Keeps w W (fun k => k = q)
  okq : QOk Q
  lenp : P.length ≤ 200
  lenq : out.length + Q.length ≤ 200
  ans : R = if b then rscanF (Q.length + 1) P out Q else ((P, out), Q)
  ownq : b = false → ∀ k, qv.ownBlock = some k → w.heap.size ≤ k
/-- What holds between two locks of a pass, which began in Wp. -/
structure RIn (w Wp : World) (q : Nat) (qv : Value) (D : (List Pc × List Int) × List Lk) (Q : List Lk) (gv ur uo : Value) (W : World) : Prop where
  rt : RT W q gv qv D.1.1 Q
  rest : W.ownsRow Wp.heap.size 63 4 ur D.2.length (lflat D.2)
  row : W.ownsRow w.heap.size 3 1 uo D.1.2.length (D.1.2.map encZ)
  keeps : Keeps w W (fun k => k = q)
  size : Wp.heap.size ≤ W.heap.size
theorem RIn.below {w Wp : World} {q : Nat} {qv : Value} {D : (List Pc × List Int) × List Lk} {Q : List Lk} {gv ur uo : Value} {W W' : World} (h : RIn w Wp q qv D Q gv ur uo W) (hb : Below W.heap.size W W') : RIn w Wp q qv D Q gv ur uo W' :=
  ⟨h.rt.below hb, pw_own_below h.rest hb, pw_own_below h.row hb, h.keeps.trans (Keeps.of_below hb (fun _ => False)) (fun _ h => h.elim), Nat.le_trans h.size hb.size⟩
/-- A lock is granted: the table's cell, then the answer's row. -/
theorem RIn.set {w Wp : World} {q : Nat} {qv : Value} {P P' : List Pc} {out : List Int} {rest : List Lk} {Q : List Lk} {gv gv' ur uo : Value} {W : World} (h : RIn w Wp q qv ((P, out), rest) Q gv ur uo W) (hr : W.ownsRow 0 91 4 gv' P'.length (pflat P')) :
    RIn w Wp q qv ((P', out), rest) Q gv' ur uo (W.setCell ⟨q, 0, none⟩ gv') :=
  ⟨h.rt.set0 hr, row_far h.rest h.rt.hdr (by omega) 0, row_far h.row h.rt.hdr (by omega) 0, h.keeps.set _ _ (.inl rfl), by simpa [World.setCell] using h.size⟩
theorem RIn.out {w Wp : World} {q : Nat} {qv : Value} {P : List Pc} {out out' : List Int} {rest : List Lk} {Q : List Lk} {gv ur uo uo' : Value} {W W' : World} (h : RIn w Wp q qv ((P, out), rest) Q gv ur uo W) (hg : W.grownBy W' uo.ownBlock) (hr : W'.ownsRow w.heap.size 3 1 uo' out'.length (out'.map encZ)) :
    RIn w Wp q qv ((P, out'), rest) Q gv ur uo' W' := by
  have n1 : ∀ k, uo.ownBlock = some k → k ≠ q ∧ gv.ownBlock ≠ some k ∧ qv.ownBlock ≠ some k := fun k hk => ⟨fun e => row_hdr h.row h.rt.hdr (by omega) (hk.trans (congrArg some e)), row_ne h.row h.rt.gr (by omega) hk, row_ne h.row h.rt.qr (by omega) hk⟩
  have hk : Keeps W W' (fun k => uo.ownBlock = some k) := (Keeps.refl W _).grown hg (fun k hk => .inl hk)
  exact ⟨h.rt.keep hk n1, row_grown h.rest hg (fun k hk hk' => row_ne h.rest h.row (by omega) hk hk'), hr, h.keeps.trans hk (fun i hi => .inr (h.row.lt i hi).1), Nat.le_trans h.size hg.size⟩
theorem RIn.keep {w Wp : World} {q : Nat} {qv : Value} {P : List Pc} {out : List Int} {rest rest' : List Lk} {Q : List Lk} {gv ur ur' uo : Value} {W W' : World} (h : RIn w Wp q qv ((P, out), rest) Q gv ur uo W) (hs : ∀ k, qv.ownBlock = some k → k < Wp.heap.size) (hz : w.heap.size ≤ Wp.heap.size) (hg : W.grownBy W' ur.ownBlock) (hr : W'.ownsRow Wp.heap.size 63 4 ur' rest'.length (lflat rest')) :
    RIn w Wp q qv ((P, out), rest') Q gv ur' uo W' := by
  have n1 : ∀ k, ur.ownBlock = some k → k ≠ q ∧ gv.ownBlock ≠ some k ∧ qv.ownBlock ≠ some k := fun k hk => ⟨fun e => row_hdr h.rest h.rt.hdr (by omega) (hk.trans (congrArg some e)), row_ne h.rest h.rt.gr (by omega) hk, fun e => by have := hs k e; have := (h.rest.lt k hk).1; omega⟩
  have hk : Keeps W W' (fun k => ur.ownBlock = some k) := (Keeps.refl W _).grown hg (fun k hk => .inl hk)
  exact ⟨h.rt.keep hk n1, hr, row_grown h.row hg (fun k hk hk' => row_ne h.row h.rest (by omega) hk hk'), h.keeps.trans hk (fun i hi => .inr (by have := (h.rest.lt i hi).1; omega)), Nat.le_trans h.size hg.size⟩
set_option maxRecDepth 100000 in
set_option maxHeartbeats 2000000 in
theorem rscan_any (q : Nat) (gv qv : Value) (P : List Pc) (Q : List Lk) (hP : P.length ≤ 200) (hQ : QOk Q) (hq : Q.length ≤ 200) (w : World) (h : RT w q gv qv P Q) :
    Calls Tryz.prog 55 #[.pointer (some ⟨q, 0, none⟩)] w fun e w' => ∃ u gv' qv', e = .returned u ∧ RT w' q gv' qv' (rscanF (Q.length + 1) P [] Q).1.1 (rscanF (Q.length + 1) P [] Q).2 ∧
      w'.ownsRow w.heap.size 3 1 u (rscanF (Q.length + 1) P [] Q).1.2.length ((rscanF (Q.length + 1) P [] Q).1.2.map encZ) ∧ (∀ k, qv'.ownBlock = some k → w.heap.size ≤ k) ∧ Keeps w w' (fun k => k = q) := by
  obtain ⟨R, hR⟩ : ∃ R, rscanF (Q.length + 1) P [] Q = R := ⟨_, rfl⟩
  rw [hR]
  have HS := Lib.hid (show RSI w q R true P [] Q gv qv (.slice none 0 0) w from ⟨h, World.ownsRow_nil _ _ _ _, Keeps.refl _ _, hQ, hP, by simpa using hq, by rw [if_pos rfl, hR], by simp⟩)
  clear h hP hQ hq hR
  go_enter Tryz.func55, Tryz.ntmps55
  go_wp2
  go_loopw [4, 3] (fun ag uo wr => ∃ (b : Bool) (P1 : List Pc) (out : List Int) (Q1 : List Lk) (gv1 qv1 : Value), ag = .bool b ∧ Hid (RSI w q R b P1 out Q1 gv1 qv1 uo wr)) (fun ag _ wr => mB ag * (mLen (wr.cell? ⟨q, 1, none⟩) + 1))
  case atStart => exact ⟨true, P, [], Q, gv, qv, rfl, HS⟩
  case round =>
    obtain ⟨b, P1, out, Q1, gv1, qv1, rfl, hI⟩ := hrel
    cases b
    · have HI := Lib.hid hI.out
      clear hI
      go_wp2
      go_ret
      have he := HI.out.ans
      simp only [Bool.false_eq_true, if_false] at he
      rw [he]
      exact ⟨_, gv1, qv1, rfl, HI.out.rt, HI.out.row, HI.out.ownq rfl, HI.out.keeps⟩
    · obtain ⟨qa, qc, rfl⟩ := row_any hI.out.rt.qr
      have HI := Lib.hid hI.out
      have HM := Lib.hid (show mB (.bool true) * (mLen (wr.cell? ⟨q, 1, none⟩) + 1) = Q1.length + 1 by
        rw [blk_cell hI.out.rt.hdr 1]
        simp [mB, mLen])
      clear hI
      obtain ⟨Wp, hWp⟩ : ∃ Wp, Wp = wr := ⟨_, rfl⟩
      subst hWp
      go_wp2
      go_loopw [6, 5, 3, 4] (fun i ur uo ag wi => ∃ (k : Nat) (gv2 : Value), k ≤ Q1.length ∧ i = .int .i64 k ∧ ag = .bool (decide ((rdelF P1 out (Q1.take k)).2.length < k)) ∧ Hid (RIn w Wp q (.slice qa Q1.length qc) (rdelF P1 out (Q1.take k)) Q1 gv2 ur uo wi)) (fun i _ _ _ _ => Q1.length - (RowKit.intOf i).toNat)
      case atStart => exact ⟨0, gv1, Nat.zero_le _, rfl, by simp [rdelF], Lib.hid ⟨HI.out.rt, World.ownsRow_nil _ _ _ _, HI.out.row, HI.out.keeps, Nat.le_refl _⟩⟩
      case round =>
        obtain ⟨k, gv2, hk, rfl, rfl, hN⟩ := hrel
        have hlr : (Q1.length : Int) ≤ 200 := by have := HI.out.lenq; omega
        by_cases hlt : k < Q1.length
        · obtain ⟨x, hx⟩ : ∃ x, Q1[k]? = some x := ⟨_, List.getElem?_eq_getElem hlt⟩
          have hD := rdelF_snoc (Q1.take k) x P1 out
          have htk : Q1.take (k + 1) = Q1.take k ++ [x] := by rw [List.take_add_one, hx]; rfl
          rw [← htk] at hD
          have hok := rdelF_ok (Q1.take k) P1 out HI.out.lenp (fun y hy => HI.out.okq y (List.mem_of_mem_take hy))
          have hll := rdelF_len (Q1.take k) P1 out
          have hxo := HI.out.okq x (List.mem_of_getElem? hx)
          have hrl := rdelF_le P1 out (Q1.take k)
          rw [List.length_take, Nat.min_eq_left hk] at hll hrl
          have hl2 := HI.out.lenq
          obtain ⟨⟨⟨P2, out2⟩, rest2⟩, hDe⟩ : ∃ D, rdelF P1 out (Q1.take k) = D := ⟨_, rfl⟩
          rw [hDe] at hN hD hok hll hrl ⊢
          have h1 : wr.cell? ⟨q, 1, none⟩ = some (.slice qa Q1.length qc) := blk_cell hN.out.rt.hdr 1
          obtain ⟨g, rfl⟩ := row_some2 hN.out.rt.qr (by omega)
          obtain ⟨p0, p1, p2, p3⟩ := row_lk' hN.out.rt.qr hx
          have hk0 : (0 : Int) ≤ (k : Int) := by omega
          have hk1 : (k : Int) < (Q1.length : Int) := by omega
          have HD := Lib.hid (And.intro hD (And.intro hok (And.intro hll (And.intro hlt (And.intro hl2 (And.intro hx hrl))))))
          have HOF := Lib.hid (fun w => rof_any x hxo.1 w)
          obtain ⟨c, hc⟩ : ∃ c, rofI x = c := ⟨_, rfl⟩
          rw [hc] at HOF
          have hco : c.own = x.own := by rw [← hc]; rfl
          have HC := Lib.hid (And.intro hc hco)
          have HWI := Lib.hid (fun v w h => rwith_any v P2 (by have := hok.1; simp only at this; omega) c w h)
          have HFI := Lib.hid (fun gv w h => first_any q gv (.slice (some ⟨g, 0, none⟩) Q1.length qc) P2 Q1 (by have := hok.1; simp only at this; omega) c w h)
          clear hD htk hok hll hxo hl2 hx hlt hDe hc hco hrl
          simp only [pcV, lkV] at HOF HWI HFI
          go_wp2_with fail
          refine (HOF.out _).mono ?_
          rintro e w3 ⟨rfl, hb3⟩
          have hN3 := hN.out.below hb3
          clear p0 p1 p2 p3 h1 hb3 hN
          go_wp2
          refine abs_w (fun W2 => W2.heap[w3.heap.size]? = some (.cells #[.int .i64 c.own, .int .i64 c.lo, .int .i64 c.hi, .bool c.ex] 91 (0, 0)) ∧ RIn w Wp q (.slice (some ⟨g, 0, none⟩) Q1.length qc) ((P2, out2), rest2) Q1 gv2 u5 u3 W2) ⟨blk_new _ _, hN3.below (below_alloc (Below.refl _ _) _)⟩ ?_
          rintro W2 ⟨hx2, hN2⟩
          obtain ⟨b7, hb7⟩ : ∃ b7, w3.heap.size = b7 := ⟨_, rfl⟩
          rw [hb7] at hx2 ⊢
          obtain ⟨P3, hP3⟩ : ∃ P3, rwithP P2 c = P3 := ⟨_, rfl⟩
          rw [hP3] at HWI
          have HP3 := Lib.hid hP3
          have y0 := later_cell (v := gv2) (blk_cell hN2.rt.hdr 0)
          have b0 := later_cell (v := .int .i64 c.own) (blk_cell hx2 0)
          have b1 := later_cell (v := .int .i64 c.lo) (blk_cell hx2 1)
          have b2 := later_cell (v := .int .i64 c.hi) (blk_cell hx2 2)
          have b3 := later_cell (v := .bool c.ex) (blk_cell hx2 3)
          have hs0 : Below W2.heap.size W2 W2 := Below.refl _ _
          have H2 := Lib.hid (And.intro hx2 hN2)
          clear hx2 hN2 hN3 hb7 hP3
          go_region_held3 (fun w' => Below W2.heap.size W2 w') (first | assumption | exact below_drew (by assumption))
            (first | (go_at_call 54; refine (HWI.out _ _ (pw_own_below H2.out.2.rt.gr (by first | assumption | exact below_drew (by assumption)))).mono ?_; rintro e w4 ⟨u8, rfl, hrow4, hb4⟩; have hB4 := below_step (by first | assumption | exact below_drew (by assumption)) hb4; clear hb4))
          obtain ⟨na, nc, rfl⟩ := row_any hrow4
          obtain ⟨N3, hN3⟩ : ∃ N, P3.length = N := ⟨_, rfl⟩
          have H4 := Lib.hid (And.intro (H2.out.2.below hB4) (And.intro (own_base hrow4 (Nat.zero_le _)) (blk_below H2.out.1 hB4)))
          rw [hN3]
          have HN3 := Lib.hid hN3
          clear b0 b1 b2 b3 y0 hs0 hrow4 hB4 hN3
          have hx4 := H4.out.2.2
          have b0 : w4.cell? ⟨b7, 0, none⟩ = some (.int .i64 c.own) := blk_cell hx4 0
          have b1 : w4.cell? ⟨b7, 1, none⟩ = some (.int .i64 c.lo) := blk_cell hx4 1
          have b2 : w4.cell? ⟨b7, 2, none⟩ = some (.int .i64 c.hi) := blk_cell hx4 2
          have b3 : w4.cell? ⟨b7, 3, none⟩ = some (.bool c.ex) := blk_cell hx4 3
          clear hx4
          go_wp2_with fail
          refine (HFI.out gv2 _ H4.out.1.rt).mono ?_
          rintro e w5 ⟨rfl, hb5⟩
          obtain ⟨n5, hn5⟩ : ∃ n, idxI (fun s => rconfI s c) P2 = n := ⟨_, rfl⟩
          rw [hn5]
          have H5 := Lib.hid (And.intro (H4.out.1.below hb5) (And.intro (pw_own_below H4.out.2.1 hb5) (blk_below H4.out.2.2 hb5)))
          have HS5 := Lib.hid (show ∀ k, (Value.slice (some ⟨g, 0, none⟩) Q1.length qc).ownBlock = some k → k < Wp.heap.size from fun k hk => row_lt HI.out.rt.qr hk)
          obtain ⟨gb, hgb⟩ : ∃ b, rgrB P2 x = b := ⟨_, rfl⟩
          have HGB := Lib.hid (show gb = (decide (n5 < 0) && decide (N3 ≤ 200)) by rw [← hgb]; unfold rgrB; rw [HC.out.1, hn5, HP3.out, HN3.out])
          have hxr := HD.out.2.2.2.2.2.1
          have z1 : w5.cell? ⟨q, 1, none⟩ = some (.slice (some ⟨g, 0, none⟩) Q1.length qc) := blk_cell H5.out.1.rt.hdr 1
          have z0 : w5.cell? ⟨q, 0, none⟩ = some gv2 := blk_cell H5.out.1.rt.hdr 0
          have zf : w5.frozen? ⟨q, 0, none⟩ = false := blk_frozen H5.out.1.rt.hdr 0
          obtain ⟨p0, p1, p2, p3⟩ := row_lk' H5.out.1.rt.qr hxr
          clear b0 b1 b2 b3 hb5 hn5 hxr
          cases d1 : decide (n5 < 0)
          · have HG := Lib.hid (show rgrB P2 x = false by rw [hgb, HGB.out, d1]; rfl)
            clear hgb
            go_wp2_with (at_builtin; refine app_rl rfl (.tmp 51) (.tmp 59) rfl Wp.heap.size u5 rest2 rfl (H5.out.1.below (below_alloc (Below.refl _ _) _)).rest (by have := HD.out.2.2.2.2.2.2; have := HD.out.2.2.2.2.1; have := HD.out.2.2.2.1; omega) (H5.out.1.below (below_alloc (Below.refl _ _) _)).size _ _ x rfl (blk_new _ _) ?_; intro v' w6 hown6 hg6)
            have hn6 := (H5.out.1.below (below_alloc (Below.refl _ _) _)).keep HS5.out HI.out.keeps.size hg6 hown6
            have hd := HD.out.1
            rw [if_neg (by rw [HG.out]; simp)] at hd
            have H6 := Lib.hid (And.intro hd hn6)
            clear hown6 hg6 hn6 hd
            go_roundw
            case rel => exact ⟨k + 1, gv2, by have := HD.out.2.2.2.1; omega, by go_num, by rw [H6.out.1, List.length_append, List.length_singleton, show decide (rest2.length + 1 < k + 1) = decide (rest2.length < k) by simp], Lib.hid (by rw [H6.out.1]; exact H6.out.2)⟩
            case measure => have := HD.out.2.2.2.1; simp [RowKit.intOf]; omega
          · cases d2 : decide ((N3 : Int) ≤ 200)
            · have HG := Lib.hid (show rgrB P2 x = false by rw [hgb, HGB.out, show decide (N3 ≤ 200) = false from decide_eq_false (by have := of_decide_eq_false d2; omega)]; simp)
              clear hgb
              go_wp2_with (at_builtin; refine app_rl rfl (.tmp 51) (.tmp 59) rfl Wp.heap.size u5 rest2 rfl (H5.out.1.below (below_alloc (Below.refl _ _) _)).rest (by have := HD.out.2.2.2.2.2.2; have := HD.out.2.2.2.2.1; have := HD.out.2.2.2.1; omega) (H5.out.1.below (below_alloc (Below.refl _ _) _)).size _ _ x rfl (blk_new _ _) ?_; intro v' w6 hown6 hg6)
              have hn6 := (H5.out.1.below (below_alloc (Below.refl _ _) _)).keep HS5.out HI.out.keeps.size hg6 hown6
              have hd := HD.out.1
              rw [if_neg (by rw [HG.out]; simp)] at hd
              have H6 := Lib.hid (And.intro hd hn6)
              clear hown6 hg6 hn6 hd
              go_roundw
              case rel => exact ⟨k + 1, gv2, by have := HD.out.2.2.2.1; omega, by go_num, by rw [H6.out.1, List.length_append, List.length_singleton, show decide (rest2.length + 1 < k + 1) = decide (rest2.length < k) by simp], Lib.hid (by rw [H6.out.1]; exact H6.out.2)⟩
              case measure => have := HD.out.2.2.2.1; simp [RowKit.intOf]; omega
            · have HG := Lib.hid (show rgrB P2 x = true by rw [hgb, HGB.out, d1, show decide (N3 ≤ 200) = true from decide_eq_true (by have := of_decide_eq_true d2; omega)]; rfl)
              have HLO := Lib.hid (show out2.length ≤ 200 by have h1 := HD.out.2.2.1; have h2 := HD.out.2.2.2.2.1; have h3 := HD.out.2.2.2.1; omega)
              have HW5 := Lib.hid (show RIn w Wp q (.slice (some ⟨g, 0, none⟩) Q1.length qc) ((P3, out2), rest2) Q1 (.slice na N3 nc) u5 u3 (w5.setCell ⟨q, 0, none⟩ (.slice na N3 nc)) by rw [← HN3.out]; exact H5.out.1.set H5.out.2.1)
              have hx6 : (w5.setCell ⟨q, 0, none⟩ (.slice na N3 nc)).heap[b7]? = some (.cells #[.int .i64 c.own, .int .i64 c.lo, .int .i64 c.hi, .bool c.ex] 91 (0, 0)) := blk_far H5.out.2.2 (p := ⟨q, 0, none⟩) (ty_ne H5.out.2.2 H5.out.1.rt.hdr (by omega)) _
              have b0 : (w5.setCell ⟨q, 0, none⟩ (.slice na N3 nc)).cell? ⟨b7, 0, none⟩ = some (.int .i64 c.own) := blk_cell hx6 0
              have HBN := Lib.hid (show ((w5.setCell ⟨q, 0, none⟩ (.slice na N3 nc)).alloc (.cells #[.int .i64 c.own] 3)).heap[w5.heap.size]? = some (.cells #[.int .i64 c.own] 3 (0, 0)) by
                have h := blk_new (w5.setCell ⟨q, 0, none⟩ (.slice na N3 nc)) (.cells #[.int .i64 c.own] 3)
                rwa [show (w5.setCell ⟨q, 0, none⟩ (.slice na N3 nc)).heap.size = w5.heap.size by simp [World.setCell]] at h)
              clear hgb hx6 p0 p1 p2 p3 z1
              go_wp2_with (at_builtin; refine app_int rfl (.tmp 46) (.tmp 49) rfl w.heap.size u3 out2 rfl (HW5.out.below (below_alloc (Below.refl _ _) _)).row (Nat.le_trans HLO.out (by omega)) (HW5.out.below (below_alloc (Below.refl _ _) _)).keeps.size _ _ c.own rfl HBN.out ?_; intro v' w6 hown6 hg6)
              have hn6 := (HW5.out.below (below_alloc (Below.refl _ _) _)).out hg6 hown6
              have hd := HD.out.1
              rw [if_pos (by rw [HG.out]), ← HC.out.2] at hd
              have H6 := Lib.hid (And.intro hd hn6)
              clear hown6 hg6 hn6 hd
              go_roundw
              case rel => exact ⟨k + 1, _, by have := HD.out.2.2.2.1; omega, by go_num, by rw [H6.out.1]; have := HD.out.2.2.2.2.2.2; simp; omega, Lib.hid (by rw [H6.out.1]; unfold rgrT; rw [HC.out.1, HP3.out]; exact H6.out.2)⟩
              case measure => have := HD.out.2.2.2.1; simp [RowKit.intOf]; omega
        · obtain rfl : k = Q1.length := by omega
          rw [List.take_length] at hN ⊢
          obtain ⟨ra, rc, rfl⟩ := row_any hN.out.rest
          have h1 : wr.cell? ⟨q, 1, none⟩ = some (.slice qa Q1.length qc) := blk_cell hN.out.rt.hdr 1
          have h2 : wr.frozen? ⟨q, 1, none⟩ = false := blk_frozen hN.out.rt.hdr 1
          obtain ⟨b2, hb2⟩ : ∃ b2, decide ((rdelF P1 out Q1).2.length < Q1.length) = b2 := ⟨_, rfl⟩
          rw [hb2]
          have HB2 := Lib.hid hb2
          clear hb2 hlt
          go_wp2
          go_roundw
          case rel =>
            have hn := hN.out
            have hi := HI.out
            have hok := rdelF_ok Q1 P1 out hi.lenp hi.okq
            have hll := rdelF_len Q1 P1 out
            refine ⟨b2, (rdelF P1 out Q1).1.1, (rdelF P1 out Q1).1.2, (rdelF P1 out Q1).2, gv2, _, rfl, Lib.hid ⟨hn.rt.set1 (own_base hn.rest (Nat.zero_le _)), row_far hn.row hn.rt.hdr (by omega) 1, hn.keeps.set _ _ (.inl rfl), hok.2, hok.1, by have := hi.lenq; omega, ?_, fun _ k hk => Nat.le_trans hi.keeps.size (hn.rest.lt k hk).1⟩⟩
            rw [hi.ans, if_pos rfl, rscanF_pass, ← HB2.out]
            simp only [decide_eq_true_eq]
          case measure =>
            have hn := hN.out
            rw [HM.out]
            have hc := blk_cell (hn.rt.set1 (own_base hn.rest (Nat.zero_le _))).hdr 1
            show mB (.bool b2) * (mLen (World.cell? _ ⟨q, 1, none⟩) + 1) < Q1.length + 1
            rw [hc]
            cases b2
            · simp [mB]
            · have := of_decide_eq_true HB2.out
              simp [mB, mLen]; omega
end
end Go.Proofs.YtoolflmaaooplaaGreat
