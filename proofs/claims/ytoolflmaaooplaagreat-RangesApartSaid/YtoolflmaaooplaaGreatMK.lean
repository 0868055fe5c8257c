/- Ranges: the reference: its methods. -/
import Derived.Test.YtoolflmaaooplaaGreatMJ
import Derived.Deep.RegionLaw
namespace Go.Proofs.YtoolflmaaooplaaGreat
section
set_option linter.unusedVariables false
set_option linter.unusedSimpArgs false
open Go.RowKit Go.Maps Go.Sort Go.Lib Go.Shelf Go.Proofs.YtoolflmaaooplaaGreatW.PrintWords Go.Proofs.YtoolflmaaooplaaGreatW.PrintLast Go.Proofs.YtoolflmaaooplaaGreatW.PrintMore FLib

def rqAt (Q : List Lk) (o : Int) : Option Lk := Q[Q.findIdx (fun l => l.own == o)]?
/-- The conflicts of one piece, in turn: none, where the one who asks is among them. -/
def rinn (Q : List Lk) (o0 : Int) (c : Pc) : List Pc → List Int → List Lk → Option (List Int × List Lk)
  | [], s, t => some (s, t)
  | g :: P, s, t => if rconfI g c = false then rinn Q o0 c P s t else if g.own = o0 then none else if g.own ∈ s then rinn Q o0 c P s t else rinn Q o0 c P (s ++ [g.own]) (t ++ (rqAt Q g.own).toList)
def rsrch (P : List Pc) (Q : List Lk) (o0 : Int) : Nat → List Int → List Lk → Bool
  | 0, _, _ => false
  | _ + 1, _, [] => false
  | n + 1, s, l :: t => match rinn Q o0 (rofI l) P s t with
    | none => true
    | some (s', t') => rsrch P Q o0 n s' t'
def rreach (P : List Pc) (Q : List Lk) (l : Lk) : Bool := rsrch P Q l.own 401 [] [l]
theorem rsrch_nil (P : List Pc) (Q : List Lk) (o0 : Int) (n : Nat) (s : List Int) : rsrch P Q o0 n s [] = false := by cases n <;> rfl
/-- Those seen are owners of pieces, each once. -/
def SeenOk (P : List Pc) (s : List Int) : Prop := s.Nodup ∧ ∀ o ∈ s, o ∈ P.map (·.own)
theorem SeenOk.len {P : List Pc} {s : List Int} (h : SeenOk P s) : s.length ≤ P.length := by
  have key : ∀ (s L : List Int), s.Nodup → (∀ o ∈ s, o ∈ L) → s.length ≤ L.length := by
    intro s
    induction s with
    | nil => intro L _ _; exact Nat.zero_le _
    | cons a s ih =>
      intro L hn hm
      have ha := hm a (List.mem_cons_self ..)
      have h1 := ih (L.erase a) (List.nodup_cons.1 hn).2 (fun o ho => (List.mem_erase_of_ne (a := o) (b := a) (fun e => (List.nodup_cons.1 hn).1 (by rw [← e]; exact ho))).2 (hm o (List.mem_cons_of_mem _ ho)))
      rw [List.length_erase_of_mem ha] at h1
      have := List.length_pos_of_mem ha
      rw [List.length_cons]; omega
  have := key s _ h.1 h.2
  simpa using this
theorem SeenOk.snoc {P : List Pc} {s : List Int} (h : SeenOk P s) {g : Pc} (hg : g ∈ P) (hn : ¬ g.own ∈ s) : SeenOk P (s ++ [g.own]) :=
  ⟨List.nodup_append.2 ⟨h.1, List.nodup_cons.2 ⟨by simp, List.nodup_nil⟩, fun a ha b hb => by rw [List.mem_singleton.1 hb]; exact fun e => hn (e ▸ ha)⟩, fun o ho => by
    rcases List.mem_append.1 ho with ho | ho
    · exact h.2 o ho
    · rw [List.mem_singleton.1 ho]; exact List.mem_map.2 ⟨g, hg, rfl⟩⟩

/-- A row of the reference's locks that begins at any place of its block. -/
structure TRow4 (W : World) (g off c : Nat) (xs : List Lk) : Prop where
  le : xs.length ≤ c
  blk : ∃ arr, W.heap[g]? = some (.cells arr 63 (0, 0)) ∧ off + c * 4 ≤ arr.size ∧ ∀ i x, xs[i]? = some x → ∀ j, j < 4 → arr[off + i * 4 + j]? = x.cells[j]?
theorem TRow4.lt {W : World} {g off c : Nat} {xs : List Lk} (h : TRow4 W g off c xs) : g < W.heap.size := by
  obtain ⟨arr, h1, -⟩ := h.blk
  exact blk_lt h1
theorem TRow4.move {W W' : World} {g off c : Nat} {xs : List Lk} (h : TRow4 W g off c xs) (e : W'.heap[g]? = W.heap[g]?) : TRow4 W' g off c xs := by
  obtain ⟨arr, h1, h2⟩ := h.blk
  exact ⟨h.le, arr, e.trans h1, h2⟩
theorem TRow4.below {W W' : World} {g off c : Nat} {xs : List Lk} (h : TRow4 W g off c xs) (hb : Below W.heap.size W W') : TRow4 W' g off c xs := h.move (hb.block g h.lt)
theorem TRow4.cell {W : World} {g off c : Nat} {xs : List Lk} (h : TRow4 W g off c xs) {i : Nat} {x : Lk} (hx : xs[i]? = some x) : W.cell? ⟨g, off + i * 4, none⟩ = some (.int .i64 x.own) ∧ W.cell? ⟨g, off + i * 4 + 1, none⟩ = some (.int .i64 x.st) ∧ W.cell? ⟨g, off + i * 4 + 2, none⟩ = some (.int .i64 x.len) ∧ W.cell? ⟨g, off + i * 4 + 3, none⟩ = some (.bool x.ex) := by
  obtain ⟨arr, h1, h2, h3⟩ := h.blk
  exact ⟨by rw [blk_cell h1]; exact h3 i x hx 0 (by omega), by rw [blk_cell h1]; exact h3 i x hx 1 (by omega), by rw [blk_cell h1]; exact h3 i x hx 2 (by omega), by rw [blk_cell h1]; exact h3 i x hx 3 (by omega)⟩
/-- todo[1:] -/
theorem TRow4.tail {W : World} {g off c : Nat} {x : Lk} {xs : List Lk} (h : TRow4 W g off c (x :: xs)) : TRow4 W g (if c = 1 then off else off + 4) (c - 1) xs := by
  obtain ⟨arr, h1, h2, h3⟩ := h.blk
  have hl := h.le
  rw [List.length_cons] at hl
  refine ⟨by omega, arr, h1, ?_, fun i y hy j hj => ?_⟩
  · split <;> omega
  · have hi := (List.getElem?_eq_some_iff.1 hy).1
    rw [if_neg (by omega)]
    have := h3 (i + 1) y (by simpa using hy) j hj
    rw [← this]
    congr 1; omega
set_option maxRecDepth 100000 in
/-- append(todo, x) -/
theorem TRow4.app {W : World} {g off c : Nat} {xs : List Lk} (h : TRow4 W g off c xs) (hn : xs.length ≤ 1000000) {b : Nat} {x : Lk} (hx : W.heap[b]? = some (.cells x.cells.toArray 63 (0, 0))) (ty : TypeId) (cc : Nat) :
    ∃ g' off' c' w', (Builtin.append_ #[60, 60] ty #[.slice (some ⟨g, off, none⟩) xs.length c, .slice (some ⟨b, 0, none⟩) 1 cc]).run Tryz.prog W = .ok (.slice (some ⟨g', off', none⟩) (xs.length + 1) c') w' ∧
      TRow4 w' g' off' c' (xs ++ [x]) ∧ Keeps W w' (fun k => k = g) ∧ (g' = g ∨ g' = W.heap.size) := by
  obtain ⟨i, hi, hz, hs1, hb8⟩ := info_parts info85
  obtain ⟨arr, h1, h2, h3⟩ := h.blk
  have hl := h.le
  have hx4 : ∀ u ∈ x.cells, u.oneCell' = true := fun u hu => by
    simp only [Lk.cells, List.mem_cons, List.not_mem_nil, or_false] at hu
    rcases hu with rfl | rfl | rfl | rfl <;> rfl
  have hS : Src Tryz.prog i.size 60 (.slice (some ⟨b, 0, none⟩) 1 cc) 1 x.cells W := Src.ofSlice W (e' := 63) Tryz.underlying60 ⟨b, 0, none⟩ 1 cc x.cells (by rw [hs1]; rfl) (fun j u hu => cells_at hx j u hu) hx4
  by_cases hroom : xs.length + 1 ≤ c
  · refine ⟨g, off, c, _, run_append_room_src W 60 60 ty 63 i Tryz.underlying60 hi g off xs.length c _ 1 _ hS hroom (fun j hj => ?_) (fun j hj => ?_), ?_, keeps_sets W g _ _, .inl rfl⟩
    · have hj0 : j < 4 := by simpa [Lk.cells] using hj
      rw [hs1, blk_cell h1, Array.getElem?_eq_getElem (by omega)]
      rfl
    · exact blk_frozen h1 _
    · rw [hs1]
      have key : ∀ (vs : List Value) (W1 : World) (o : Nat) (ar : Array Value), W1.heap[g]? = some (.cells ar 63 (0, 0)) → o + vs.length ≤ ar.size → ∃ ar', (W1.setCells g o vs).heap[g]? = some (.cells ar' 63 (0, 0)) ∧ ar'.size = ar.size ∧ ∀ k, ar'[k]? = if o ≤ k ∧ k < o + vs.length then vs[k - o]? else ar[k]? := by
        intro vs
        induction vs with
        | nil => intro W1 o ar ha _; exact ⟨ar, ha, rfl, fun k => by rw [if_neg (by simp)]⟩
        | cons v vs ih =>
          intro W1 o ar ha hle
          rw [List.length_cons] at hle
          have hp := blk_put (cs' := ar.setIfInBounds o v) ha o v rfl
          obtain ⟨ar', ha', hs', hg'⟩ := ih _ (o + 1) _ hp (by simp; omega)
          refine ⟨ar', ha', by rw [hs']; simp, fun k => ?_⟩
          rw [hg', List.length_cons]
          by_cases hk : k = o
          · subst hk
            rw [if_neg (by omega), if_pos (by omega), Nat.sub_self, Array.getElem?_setIfInBounds_self_of_lt (by omega)]
            rfl
          · rw [Array.getElem?_setIfInBounds_ne (by omega)]
            by_cases hc : o + 1 ≤ k ∧ k < o + 1 + vs.length
            · rw [if_pos hc, if_pos (by omega), show k - o = (k - (o + 1)) + 1 by omega]
              rfl
            · rw [if_neg hc, if_neg (by omega)]
      obtain ⟨ar', ha', hs', hg'⟩ := key x.cells W (off + xs.length * 4) arr h1 (by simp [Lk.cells]; omega)
      have hxl : x.cells.length = 4 := rfl
      refine ⟨by simpa using hroom, ar', ha', by rw [hs']; exact h2, fun k y hy j hj => ?_⟩
      rw [hg', hxl]
      by_cases hk : k < xs.length
      · rw [List.getElem?_append_left hk] at hy
        rw [if_neg (by omega)]
        exact h3 k y hy j hj
      · have hlt := (List.getElem?_eq_some_iff.1 hy).1
        rw [List.length_append, List.length_singleton] at hlt
        have hke : k = xs.length := by omega
        rw [hke, List.getElem?_append_right (Nat.le_refl _), Nat.sub_self] at hy
        have hxy : x = y := by simpa using hy
        rw [hke, if_pos (by omega), ← hxy]
        congr 1; omega
  · have hold : (Builtin.firstCells i.size xs.length (.slice (some ⟨g, off, none⟩) xs.length c)).run Tryz.prog W.drew = .ok (lflat xs).toArray W.drew :=
      run_firstCells_some W.drew i.size xs.length ⟨g, off, none⟩ xs.length c (lflat xs) (by rw [hs1, lflat_len]) (fun j u hu => by
        obtain ⟨a, b, hb, rfl⟩ : ∃ a b, b < 4 ∧ j = a * 4 + b := ⟨j / 4, j % 4, by omega, by omega⟩
        rw [lflat_get _ _ _ hb] at hu
        cases hxa : xs[a]? with
        | none => rw [hxa] at hu; cases hu
        | some y =>
          rw [hxa] at hu
          have hu2 : y.cells[b]? = some u := hu
          rw [addmk, ← Nat.add_assoc, show W.drew.cell? ⟨g, off + a * 4 + b, none⟩ = W.cell? ⟨g, off + a * 4 + b, none⟩ from rfl, blk_cell h1, h3 a y hxa b hb]
          exact hu2)
    have hge := grownCap_ge W (xs.length + 1) c 63
    refine ⟨W.heap.size, 0, _, _, run_append_grow_src W 60 60 ty 63 i (.agg #[.int .i64 0, .int .i64 0, .int .i64 0, .bool false]) Tryz.underlying60 hi hz (some ⟨g, off, none⟩) xs.length c _ hold _ 1 _ hS (by omega) (by omega) (growslice_fits (by omega) (by rw [hb8]; omega)), ?_, ?_, .inr rfl⟩
    · refine ⟨by simpa using hge, _, by simpa using blk_new W.drew _, ?_, fun k y hy j hj => ?_⟩
      · have e1 : (Value.agg #[.int .i64 0, .int .i64 0, .int .i64 0, .bool false]).cells.size = 4 := rfl
        rw [Array.size_append, size_zeroCells, e1]
        simp only [List.size_toArray, List.length_append, lflat_len, show x.cells.length = 4 from rfl]
        omega
      · have hlt := (List.getElem?_eq_some_iff.1 hy).1
        rw [Nat.zero_add]
        have e : lflat xs ++ x.cells = lflat (xs ++ [x]) := (lflat_snoc xs x).symm
        rw [e, Array.getElem?_append_left (by simp only [List.size_toArray, lflat_len]; omega), List.getElem?_toArray, lflat_get _ _ _ hj, hy]
        rfl
    · exact Keeps.of_below (below_alloc (pw_below_drewN (Below.refl _ _) 1) _) _
end
section
set_option linter.unusedVariables false
set_option linter.unusedSimpArgs false
open Go.RowKit Go.Maps Go.Sort Go.Lib Go.Shelf Go.Proofs.YtoolflmaaooplaaGreatW.PrintWords Go.Proofs.YtoolflmaaooplaaGreatW.PrintLast Go.Proofs.YtoolflmaaooplaaGreatW.PrintMore FLib
attribute [local go_sem] below_alloc_T below_drew_T below_drewN_T

/-- What lies in memory during the search. -/
structure RCI (w : World) (l : Lk) (g off c : Nat) (us : Value) (seen : List Int) (todo : List Lk) (W : World) : Prop where
  below : Below w.heap.size w W
  lb : W.heap[w.heap.size]? = some (.cells l.cells.toArray 63 (0, 0))
  row : W.ownsRow w.heap.size 3 1 us seen.length (seen.map encZ)
  tr : TRow4 W g off c todo
  gt : w.heap.size < g
section
variable {w W W' : World} {l : Lk} {g off c : Nat} {us : Value} {seen : List Int} {todo : List Lk}
theorem RCI.below' (h : RCI w l g off c us seen todo W) (hb : Below W.heap.size W W') : RCI w l g off c us seen todo W' :=
  ⟨below_back h.below hb, blk_below h.lb hb, pw_own_below h.row hb, h.tr.below hb, h.gt⟩
theorem blk_ty {base e sz n b t : Nat} {v : Value} {xs : List Value} {cs : Array Value} (h : W.ownsRow base e sz v n xs) (hg : W.grownBy W' v.ownBlock) (hb : W.heap[b]? = some (.cells cs t (0, 0))) (ht : t ≠ e) : W'.heap[b]? = some (.cells cs t (0, 0)) :=
  (hg.block b (blk_lt hb) (fun e2 => row_hdr h hb (fun e3 => ht e3.symm) e2.symm)).trans hb
theorem RCI.see (h : RCI w l g off c us seen todo W) {us' : Value} {seen' : List Int} (hg : W.grownBy W' us.ownBlock) (hr : W'.ownsRow w.heap.size 3 1 us' seen'.length (seen'.map encZ)) : RCI w l g off c us' seen' todo W' := by
  obtain ⟨arr, h1, -⟩ := h.tr.blk
  exact ⟨h.below.grown hg h.below.size (fun i hi => (h.row.lt i hi).1), blk_ty h.row hg h.lb (by omega), hr, h.tr.move ((blk_ty h.row hg h1 (by omega)).trans h1.symm), h.gt⟩
theorem RCI.push (h : RCI w l g off c us seen todo W) {g' off' c' : Nat} {todo' : List Lk} (hk : Keeps W W' (fun k => k = g)) (ht : TRow4 W' g' off' c' todo') (hg : g' = g ∨ g' = W.heap.size) : RCI w l g' off' c' us seen todo' W' := by
  obtain ⟨arr, h1, -⟩ := h.tr.blk
  have hgt := h.gt
  have hs := h.below.size
  exact ⟨((Keeps.of_below h.below (fun _ => False)).trans hk (fun i hi => .inr (by omega))).below (Nat.le_refl _) (fun _ h => h.elim), hk.blk h.lb (by omega), own_move h.row (fun k hk' => hk.block k (row_lt h.row hk') (fun e => row_hdr h.row h1 (by omega) (hk'.trans (congrArg some e)))), ht, by
    rcases hg with rfl | rfl
    · exact hgt
    · have := blk_lt h.lb; exact this⟩
end
theorem mem_take_next {s : List Int} {j : Nat} {so o : Int} (h : s[j]? = some so) : decide (o ∈ s.take (j + 1)) = (decide (o ∈ s.take j) || (so == o)) := by
  rw [List.take_add_one, h]
  simp only [Option.toList_some, List.mem_append, List.mem_singleton, Bool.decide_or]
  congr 1
  by_cases he : so = o
  · subst he; simp
  · have h2 : ¬ o = so := fun e => he e.symm
    rw [decide_eq_false h2]
    simp [he]
theorem wpList_run {P : Program} {ops : Array Oper} {rest : List Oper} {o : Oper} {a : Act} {w w' : World} {Q : Exit → Act → World → Prop} {v : Value} (hgd : o.guard = none) (s x : Operand) (t : TypeId)
    (ho : o.op = .call { callee := .builtin .append, args := #[s, x], argTypes := #[t, t] }) (u y : Value) (hs : a.eval s = u) (hx : a.eval x = y) (hr : (Builtin.append_ #[t, t] o.type #[u, y]).run P w = .ok v w') (h : wpList P ops Q rest (a.put o.dst v) w') : wpList P ops Q (o :: rest) a w := by
  refine wpList_plain hgd fun K hK => ?_
  unfold Oper.wp
  simp [execOp, ho, resolve, invoke, builtin, hs, hx, hr, Result.andThen]
  exact hK _ _ h
set_option maxRecDepth 100000 in
set_option maxHeartbeats 2000000 in
theorem rreach_any (q : Nat) (gv qv : Value) (P : List Pc) (Q : List Lk) (hP : P.length ≤ 200) (hQ : QOk Q) (hq : Q.length ≤ 200) (l : Lk) (hl : okL l.own l.st l.len = true) (w : World) (h : RT w q gv qv P Q) :
    Calls Tryz.prog 56 #[.pointer (some ⟨q, 0, none⟩), lkV l] w fun e w' => e = .returned (.bool (rreach P Q l)) ∧ Below w.heap.size w w' := by
  have HT := Lib.hid h
  have HP := Lib.hid (And.intro hP (And.intro hQ hq))
  have HRW := Lib.hid (fun o w h => rwaits_any q gv qv P Q (by omega) o w h)
  obtain ⟨R, hR⟩ : ∃ R, rreach P Q l = R := ⟨_, rfl⟩
  have HR := Lib.hid (show rsrch P Q l.own 401 [] [l] = R from hR)
  rw [hR]
  have HL := Lib.hid hl
  have hb0 := below_alloc (Below.refl w.heap.size w) (.cells l.cells.toArray 63)
  have hb1 := below_alloc (below_alloc hb0 (.cells #[] 3)) (.cells l.cells.toArray 63)
  have HB := Lib.hid (show RCI w l (w.heap.size + 1 + 1) 0 1 (.slice (some ⟨w.heap.size + 1, 0, none⟩) 0 0) [] [l] (((w.alloc (.cells l.cells.toArray 63)).alloc (.cells #[] 3)).alloc (.cells l.cells.toArray 63)) from
    ⟨hb1, blk_alloc (blk_alloc (blk_new w _) _) _, ⟨rfl, .inr ⟨w.heap.size + 1, 0, #[], rfl, by omega, blk_alloc (blk_new2 w _ _) _, Nat.le_refl _, by simp, by simp, by simp⟩⟩, ⟨Nat.le_refl _, l.cells.toArray, by simpa using blk_new ((w.alloc (.cells l.cells.toArray 63)).alloc (.cells #[] 3)) (.cells l.cells.toArray 63), Nat.le_refl _, fun i x hx j hj => by
      cases i with
      | zero => have : l = x := by simpa using hx
                subst this; simp
      | succ i => simp at hx⟩, by omega⟩)
  clear h hP hQ hq hR hl hb0 hb1
  obtain ⟨qa, qc, rfl⟩ := row_any HT.out.qr
  obtain ⟨ga, gc, rfl⟩ := row_any HT.out.gr
  simp only [lkV, Lk.cells] at HB ⊢
  go_enter Tryz.func56, Tryz.ntmps56
  go_wp2
  go_loopw [5, 6] (fun us ut wr => ∃ (n : Nat) (seen : List Int) (todo : List Lk) (g off c : Nat), ut = .slice (some ⟨g, off, none⟩) todo.length c ∧ Hid (RCI w l g off c us seen todo wr) ∧
      Hid (SeenOk P seen ∧ (∀ x ∈ todo, okL x.own x.st x.len = true) ∧ rsrch P Q l.own n seen todo = R ∧ todo.length + 2 * (200 - seen.length) ≤ n ∧ n ≤ 401)) (fun us ut _ => mLen (some ut) + 2 * (200 - mLen (some us)))
  case atStart => exact ⟨401, [], [l], _, 0, 1, rfl, HB, Lib.hid ⟨⟨List.nodup_nil, by simp⟩, fun x hx => by rw [List.mem_singleton.1 hx]; exact HL.out, HR.out, by simp, Nat.le_refl _⟩⟩
  case round =>
    obtain ⟨n, seen, todo, g, off, c, rfl, hI, hS⟩ := hrel
    obtain ⟨sa, sc, rfl⟩ := row_any hI.out.row
    cases todo with
    | nil =>
      have hr := hS.out.2.2.1
      rw [rsrch_nil] at hr
      have HI := Lib.hid (And.intro hr hI.out)
      clear hI hS hr
      go_wp2
      go_ret
      exact ⟨by rw [← HI.out.1]; rfl, HI.out.2.below⟩
    | cons x t =>
      obtain ⟨p0, p1, p2, p3⟩ := hI.out.tr.cell (i := 0) (x := x) rfl
      simp only [Nat.zero_mul, Nat.add_zero] at p0 p1 p2 p3
      obtain ⟨m, hm⟩ : ∃ m, m = t.length + 1 := ⟨_, rfl⟩
      have hle := hI.out.tr.le
      obtain ⟨off1, hoff⟩ : ∃ o, o = (if c = 1 then off else off + 4) := ⟨_, rfl⟩
      have had : (if c = 1 then some (⟨g, off, none⟩ : Addr) else some ⟨g, off + 4, none⟩) = some ⟨g, off1, none⟩ := by rw [hoff]; split <;> rfl
      have e0 : (x :: t).length = m := by rw [hm]; rfl
      have hm0 : (0 : Int) < (m : Int) := by omega
      have hm1 : (1 : Int) ≤ (m : Int) := by omega
      have hmc : (m : Int) ≤ (c : Int) := by rw [e0] at hle; omega
      rw [e0]
      have HOF := Lib.hid (fun w => rof_any x (hS.out.2.1 x (List.mem_cons_self ..)) w)
      obtain ⟨cc, hcc⟩ : ∃ c, rofI x = c := ⟨_, rfl⟩
      rw [hcc] at HOF
      obtain ⟨n', rfl⟩ : ∃ n', n = n' + 1 := ⟨n - 1, by have := hS.out.2.2.2.1; rw [List.length_cons] at this; omega⟩
      have hans := hS.out.2.2.1
      simp only [rsrch, hcc] at hans
      have HH := Lib.hid (And.intro hans (And.intro hoff (And.intro (show t.length = m - 1 by omega) hS.out)))
      clear hans hoff hcc e0 hm hle hS
      simp only [pcV, lkV] at HOF
      go_wp2_with fail
      refine (HOF.out _).mono ?_
      rintro e w3 ⟨rfl, hb3⟩
      have h3 := hI.out.below' hb3
      clear hI hb3 p0 p1 p2 p3
      go_wp2
      refine abs_w (fun W2 => W2.heap[w3.heap.size]? = some (.cells #[.int .i64 cc.own, .int .i64 cc.lo, .int .i64 cc.hi, .bool cc.ex] 91 (0, 0)) ∧ RCI w l g off c (.slice sa seen.length sc) seen (x :: t) W2) ⟨blk_new _ _, h3.below' (below_alloc (Below.refl _ _) _)⟩ ?_
      rintro W2 ⟨hx2, h2⟩
      obtain ⟨b7, hb7⟩ : ∃ b7, w3.heap.size = b7 := ⟨_, rfl⟩
      rw [hb7] at hx2 ⊢
      have ht2 := h2.tr.tail
      rw [← HH.out.2.1] at ht2
      have H2 := Lib.hid (And.intro hx2 (show RCI w l g off1 (c - 1) (.slice sa seen.length sc) seen t W2 from ⟨h2.below, h2.lb, h2.row, ht2, h2.gt⟩))
      clear h3 hx2 h2 hb7 ht2 had hm0 hm1 hmc HOF
      go_loopw [8, 5, 6] (fun i us ut wr => ∃ (k : Nat) (seen2 : List Int) (todo2 : List Lk) (g2 off2 c2 : Nat), k ≤ P.length ∧ i = .int .i64 k ∧ ut = .slice (some ⟨g2, off2, none⟩) todo2.length c2 ∧ Hid (RCI w l g2 off2 c2 us seen2 todo2 wr) ∧
        Hid (SeenOk P seen2 ∧ (∀ x ∈ todo2, okL x.own x.st x.len = true) ∧ rinn Q l.own cc P seen t = rinn Q l.own cc (P.drop k) seen2 todo2 ∧ todo2.length + 2 * (200 - seen2.length) ≤ t.length + 2 * (200 - seen.length)) ∧ Hid (wr.heap[b7]? = some (.cells #[.int .i64 cc.own, .int .i64 cc.lo, .int .i64 cc.hi, .bool cc.ex] 91 (0, 0)))) (fun i _ _ _ => P.length - (RowKit.intOf i).toNat)
      case atStart => exact ⟨0, seen, t, g, off1, c - 1, Nat.zero_le _, rfl, by rw [HH.out.2.2.1], Lib.hid H2.out.2, Lib.hid ⟨HH.out.2.2.2.1, fun y hy => HH.out.2.2.2.2.1 y (List.mem_cons_of_mem _ hy), rfl, Nat.le_refl _⟩, Lib.hid H2.out.1⟩
      case round =>
        obtain ⟨k, seen2, todo2, g2, off2, c2, hk, rfl, rfl, hI, hS, hbx⟩ := hrel
        obtain ⟨sa2, sc2, rfl⟩ := row_any hI.out.row
        have hT := HT.out.below hI.out.below
        have hlr : (P.length : Int) ≤ 200 := by have := HP.out.1; omega
        by_cases hlt : k < P.length
        · obtain ⟨gp, hgp⟩ : ∃ x, P[k]? = some x := ⟨_, List.getElem?_eq_getElem hlt⟩
          obtain ⟨gg, rfl⟩ := row_some2 hT.gr (by omega)
          have y0 : wr.cell? ⟨q, 0, none⟩ = some (.slice (some ⟨gg, 0, none⟩) P.length gc) := blk_cell hT.hdr 0
          obtain ⟨p0, p1, p2, p3⟩ := row_pc hT.gr hgp
          have hk0 : (0 : Int) ≤ (k : Int) := by omega
          have hk1 : (k : Int) < (P.length : Int) := by omega
          have hdrop : P.drop k = gp :: P.drop (k + 1) := by
            rw [List.drop_eq_getElem_cons hlt]
            obtain ⟨h1, h2⟩ := List.getElem?_eq_some_iff.1 hgp
            rw [h2]
          have HD := Lib.hid (And.intro hdrop (And.intro hlt (List.mem_of_getElem? hgp)))
          obtain ⟨cf, hcf⟩ : ∃ b, rconfI gp cc = b := ⟨_, rfl⟩
          have HCF := Lib.hid (fun w => rconf_any gp cc w)
          rw [hcf] at HCF
          have HF := Lib.hid hcf
          have b0 := later_cell (v := .int .i64 cc.own) (blk_cell hbx.out 0)
          have b1 := later_cell (v := .int .i64 cc.lo) (blk_cell hbx.out 1)
          have b2 := later_cell (v := .int .i64 cc.hi) (blk_cell hbx.out 2)
          have b3 := later_cell (v := .bool cc.ex) (blk_cell hbx.out 3)
          have hs0 : Below wr.heap.size wr wr := Below.refl _ _
          simp only [pcV] at HCF
          clear hT hgp hlt hdrop hcf
          go_wp2_with fail
          refine (HCF.out _).mono ?_
          rintro e w4 ⟨rfl, hb4⟩
          have hx4 := blk_below (blk_new wr (.cells #[.int .i64 gp.own, .int .i64 gp.lo, .int .i64 gp.hi, .bool gp.ex] 91)) hb4
          have hb04 := below_step (below_alloc (Below.refl wr.heap.size wr) (.cells #[.int .i64 gp.own, .int .i64 gp.lo, .int .i64 gp.hi, .bool gp.ex] 91)) hb4
          obtain ⟨b9, hb9⟩ : ∃ b9, wr.heap.size = b9 := ⟨_, rfl⟩
          rw [hb9] at hx4 ⊢
          have H4 := Lib.hid (And.intro (hI.out.below' hb04) (And.intro (blk_below hbx.out hb04) hx4))
          clear hb4 hb04 hb9 hx4 b0 b1 b2 b3 hs0 p0 p1 p2 p3 y0
          cases cf
          · have ha := hS.out.2.2.1
            rw [HD.out.1, rinn, if_pos HF.out] at ha
            have HA := Lib.hid ha
            clear ha
            go_wp2
            go_roundw
            case rel => exact ⟨k + 1, seen2, todo2, g2, off2, c2, by have := HD.out.2.1; omega, by go_num, rfl, Lib.hid H4.out.1, Lib.hid ⟨hS.out.1, hS.out.2.1, HA.out, hS.out.2.2.2⟩, Lib.hid H4.out.2.1⟩
            case measure => have := HD.out.2.1; simp [RowKit.intOf]; omega
          · have x0 : w4.cell? ⟨b9, 0, none⟩ = some (.int .i64 gp.own) := blk_cell H4.out.2.2 0
            have l0 : w4.cell? ⟨w.heap.size, 0, none⟩ = some (.int .i64 l.own) := blk_cell H4.out.1.lb 0
            by_cases hgo : gp.own = l.own
            · have d1 : (gp.own == l.own) = true := by simpa using hgo
              have ha := hS.out.2.2.1
              rw [HD.out.1, rinn, if_neg (by rw [HF.out]; simp), if_pos hgo] at ha
              have hr := HH.out.1
              rw [ha] at hr
              have HR1 := Lib.hid hr
              clear ha hr hgo
              go_wp2
              go_ret
              exact ⟨by rw [← HR1.out]; rfl, H4.out.1.below⟩
            · have d1 : (gp.own == l.own) = false := by simpa using hgo
              have HGO := Lib.hid hgo
              clear hgo
              go_wp2
              go_loopw [11, 10] (fun i kn wr => ∃ j : Nat, j ≤ seen2.length ∧ i = .int .i64 j ∧ kn = .bool (decide (gp.own ∈ seen2.take j)) ∧ Hid (Below w4.heap.size w4 wr)) (fun i _ _ => seen2.length - (RowKit.intOf i).toNat)
              case atStart => exact ⟨0, Nat.zero_le _, rfl, by simp, Lib.hid (Below.refl _ _)⟩
              case round =>
                clear x0 l0
                obtain ⟨j, hj, rfl, rfl, hB⟩ := hrel
                have hls : (seen2.length : Int) ≤ 200 := by have := hS.out.1.len; omega
                have hR4 := pw_own_below H4.out.1.row hB.out
                have x0 : wr.cell? ⟨b9, 0, none⟩ = some (.int .i64 gp.own) := blk_cell (blk_below H4.out.2.2 hB.out) 0
                obtain ⟨kn, hkn⟩ : ∃ b, decide (gp.own ∈ seen2.take j) = b := ⟨_, rfl⟩
                rw [hkn]
                by_cases hjl : j < seen2.length
                · obtain ⟨so, hso⟩ : ∃ x, seen2[j]? = some x := ⟨_, List.getElem?_eq_getElem hjl⟩
                  obtain ⟨sg, rfl⟩ := row_some2 hR4 (by omega)
                  have s0 : wr.cell? ⟨sg, j, none⟩ = some (.int .i64 so) := by
                    have h1 := hR4.cells (g := sg) rfl j (.int .i64 so) (by simp [hso, encZ])
                    rw [addmk, Nat.zero_add] at h1
                    exact h1
                  have hj0 : (0 : Int) ≤ (j : Int) := by omega
                  have hj1 : (j : Int) < (seen2.length : Int) := by omega
                  have hnx := mem_take_next (o := gp.own) hso
                  rw [hkn] at hnx
                  have HJ := Lib.hid (And.intro hjl hnx)
                  clear hso hjl hnx hkn hR4
                  cases kn
                  · cases d3 : (so == gp.own)
                    · go_wp2
                      go_quiet (fail)
                      go_wp2
                      go_roundw
                      case rel => exact ⟨j + 1, by have := HJ.out.1; omega, by go_num, by rw [HJ.out.2, d3]; rfl, Lib.hid (below_back hB.out (pw_below_drewN (Below.refl _ _) _))⟩
                      case measure => have := HJ.out.1; simp [RowKit.intOf]; omega
                    · go_wp2
                      go_quiet (fail)
                      go_wp2
                      go_roundw
                      case rel => exact ⟨j + 1, by have := HJ.out.1; omega, by go_num, by rw [HJ.out.2, d3]; rfl, Lib.hid (below_back hB.out (pw_below_drewN (Below.refl _ _) _))⟩
                      case measure => have := HJ.out.1; simp [RowKit.intOf]; omega
                  · go_wp2
                    go_quiet (fail)
                    go_wp2
                    go_roundw
                    case rel => exact ⟨j + 1, by have := HJ.out.1; omega, by go_num, by rw [HJ.out.2]; rfl, Lib.hid (below_back hB.out (pw_below_drewN (Below.refl _ _) _))⟩
                    case measure => have := HJ.out.1; simp [RowKit.intOf]; omega
                · obtain rfl : j = seen2.length := by omega
                  rw [List.take_length] at hkn
                  cases kn
                  · have hnm : ¬ gp.own ∈ seen2 := of_decide_eq_false hkn
                    have hI5 := H4.out.1.below' hB.out
                    have hx5 := blk_below H4.out.2.2 hB.out
                    have hc5 := blk_below H4.out.2.1 hB.out
                    have hsk := hS.out.1.snoc HD.out.2.2 hnm
                    have hsl := hsk.len
                    have hP200 := HP.out.1
                    rw [List.length_append, List.length_singleton] at hsl
                    have ha := hS.out.2.2.1
                    rw [HD.out.1, rinn, if_neg (by rw [HF.out]; simp), if_neg HGO.out, if_neg hnm] at ha
                    have H5 := Lib.hid (And.intro hI5 (And.intro hx5 (And.intro hc5 (And.intro hsk (And.intro (Nat.le_trans hsl hP200) ha)))))
                    clear hnm hI5 hx5 hc5 hsk ha hkn hjl hR4 hB hsl hP200
                    go_wp2_with (at_builtin; refine app_int rfl (.tmp 67) (.tmp 70) rfl w.heap.size (.slice sa2 seen2.length sc2) seen2 rfl (H5.out.1.below' (below_alloc (Below.refl _ _) _)).row (by have := H5.out.2.2.2.2.1; omega) (H5.out.1.below' (below_alloc (Below.refl _ _) _)).below.size _ _ gp.own rfl (blk_new _ _) ?_; intro v' w6 hown6 hg6; have hI6 := (H5.out.1.below' (below_alloc (Below.refl _ _) _)).see hg6 hown6; have hx6 := blk_ty (H5.out.1.below' (below_alloc (Below.refl _ _) _)).row hg6 (blk_alloc H5.out.2.1 _) (by omega); have hc6 := blk_ty (H5.out.1.below' (below_alloc (Below.refl _ _) _)).row hg6 (blk_alloc H5.out.2.2.1 _) (by omega); have x6 : w6.cell? ⟨b9, 0, none⟩ = some (.int .i64 gp.own) := blk_cell hx6 0; have H6 := Lib.hid (And.intro hI6 hc6); clear hown6 hg6 hI6 hx6 hc6 x0)
                    refine (HRW.out gp.own _ (HT.out.below H6.out.1.below)).mono ?_
                    rintro e w7 ⟨rfl, rfl⟩
                    obtain ⟨sa6, sc6, hv6⟩ := row_any H6.out.1.row
                    subst hv6
                    by_cases hwq : Q.findIdx (fun l => l.own == gp.own) < Q.length
                    · obtain ⟨kk, hkk⟩ : ∃ kk, Q.findIdx (fun l => l.own == gp.own) = kk := ⟨_, rfl⟩
                      have hid : idxI (fun l => l.own == gp.own) Q = (kk : Int) := by unfold idxI; rw [if_pos hwq, hkk]
                      rw [hid]
                      rw [hkk] at hwq
                      obtain ⟨y, hy⟩ : ∃ y, Q[kk]? = some y := ⟨_, List.getElem?_eq_getElem hwq⟩
                      have hT6 := HT.out.below H6.out.1.below
                      obtain ⟨gq, rfl⟩ := row_some2 hT6.qr (by omega)
                      obtain ⟨p0, p1, p2, p3⟩ := row_lk' hT6.qr hy
                      have z1 : w6.cell? ⟨q, 1, none⟩ = some (.slice (some ⟨gq, 0, none⟩) Q.length qc) := blk_cell hT6.hdr 1
                      have hk0' : (0 : Int) ≤ (kk : Int) := by omega
                      have hk1' : (kk : Int) < (Q.length : Int) := by omega
                      have hyo := HP.out.2.1 y (List.mem_of_getElem? hy)
                      have h7 := H6.out.1.below' (below_alloc (Below.refl w6.heap.size w6) (.cells y.cells.toArray 63))
                      have htl : todo2.length ≤ 1000000 := by have h1 := hS.out.2.2.2; have h2 := HH.out.2.2.2.2.2.2.1; have h3 := HH.out.2.2.2.2.2.2.2; rw [List.length_cons] at h2; omega
                      obtain ⟨g8, off8, c8, w8, hrun8, htr8, hk8, hg8⟩ := h7.tr.app htl (b := w6.heap.size) (x := y) (blk_new _ _) 60 1
                      have ha := H5.out.2.2.2.2.2
                      rw [show rqAt Q gp.own = some y by unfold rqAt; rw [hkk, hy]] at ha
                      have hc8 := hk8.blk (blk_alloc H6.out.2 (.cells y.cells.toArray 63)) (fun e => by
                        obtain ⟨arr, h1, -⟩ := h7.tr.blk
                        exact ty_ne (blk_alloc H6.out.2 (.cells y.cells.toArray 63)) h1 (by omega) e)
                      have H8 := Lib.hid (And.intro (h7.push hk8 htr8 hg8) (And.intro ha (And.intro hyo.1 hc8)))
                      simp only [Lk.cells] at hrun8
                      clear hid hwq hkk hy hT6 hyo h7 htl htr8 hk8 hg8 ha hc8
                      go_wp2_with (at_builtin; refine wpList_run rfl (.tmp 78) (.tmp 86) 60 rfl _ _ rfl rfl hrun8 ?_)
                      go_roundw
                      case rel => exact ⟨k + 1, seen2 ++ [gp.own], todo2 ++ [y], g8, off8, c8, by have := HD.out.2.1; omega, by go_num, by rw [List.length_append]; rfl, Lib.hid (by have h := H8.out.1; rw [List.length_append] at h; exact h), Lib.hid ⟨H5.out.2.2.2.1, fun z hz => by
                          rcases List.mem_append.1 hz with hz | hz
                          · exact hS.out.2.1 z hz
                          · rw [List.mem_singleton.1 hz]; exact H8.out.2.2.1, H8.out.2.1, by have h1 := hS.out.2.2.2; have h2 := H5.out.2.2.2.2.1; rw [List.length_append, List.length_append, List.length_singleton, List.length_singleton]; omega⟩, Lib.hid H8.out.2.2.2⟩
                      case measure => have := HD.out.2.1; simp [RowKit.intOf]; omega
                    · have hid : idxI (fun l => l.own == gp.own) Q = -1 := by unfold idxI; rw [if_neg hwq]
                      rw [hid]
                      have ha := H5.out.2.2.2.2.2
                      rw [show rqAt Q gp.own = none by unfold rqAt; rw [List.getElem?_eq_none (by omega)]] at ha
                      have HA := Lib.hid ha
                      clear hid hwq ha
                      go_wp2
                      go_roundw
                      case rel => exact ⟨k + 1, seen2 ++ [gp.own], todo2, g2, off2, c2, by have := HD.out.2.1; omega, by go_num, rfl, Lib.hid (by have h := H6.out.1; rw [List.length_append] at h; exact h), Lib.hid ⟨H5.out.2.2.2.1, hS.out.2.1, by have h1 := HA.out; simpa using h1, by have h1 := hS.out.2.2.2; have h2 := H5.out.2.2.2.2.1; rw [List.length_append, List.length_singleton]; omega⟩, Lib.hid H6.out.2⟩
                      case measure => have := HD.out.2.1; simp [RowKit.intOf]; omega
                  · have hmm : gp.own ∈ seen2 := of_decide_eq_true hkn
                    have ha := hS.out.2.2.1
                    rw [HD.out.1, rinn, if_neg (by rw [HF.out]; simp), if_neg HGO.out, if_pos hmm] at ha
                    have HA := Lib.hid (And.intro ha (And.intro (H4.out.1.below' hB.out) (blk_below H4.out.2.1 hB.out)))
                    clear ha hmm hkn hjl hR4 x0
                    go_wp2
                    go_roundw
                    case rel => exact ⟨k + 1, seen2, todo2, g2, off2, c2, by have := HD.out.2.1; omega, by go_num, rfl, Lib.hid HA.out.2.1, Lib.hid ⟨hS.out.1, hS.out.2.1, HA.out.1, hS.out.2.2.2⟩, Lib.hid HA.out.2.2⟩
                    case measure => have := HD.out.2.1; simp [RowKit.intOf]; omega
        · obtain rfl : k = P.length := by omega
          have y0 : wr.cell? ⟨q, 0, none⟩ = some (.slice ga P.length gc) := blk_cell hT.hdr 0
          clear hT hlt
          go_wp2
          go_roundw
          case rel =>
            have h1 := hS.out.2.2.1
            rw [List.drop_length] at h1
            have h2 := HH.out.1
            rw [h1] at h2
            exact ⟨n', seen2, todo2, g2, off2, c2, rfl, hI, Lib.hid ⟨hS.out.1, hS.out.2.1, h2, by have := hS.out.2.2.2; have := HH.out.2.2.2.2.2.2.1; rw [List.length_cons] at this; omega, by have := HH.out.2.2.2.2.2.2.2; omega⟩⟩
          case measure =>
            have h4 := hS.out.2.2.2
            have h5 := HH.out.2.2.1
            simp only [mLen]
            show todo2.length + 2 * (200 - seen2.length) < m + 2 * (200 - seen.length)
            omega
end
section
set_option linter.unusedVariables false
set_option linter.unusedSimpArgs false
open Go.RowKit Go.Maps Go.Sort Go.Lib Go.Shelf Go.Proofs.YtoolflmaaooplaaGreatW.PrintWords Go.Proofs.YtoolflmaaooplaaGreatW.PrintLast Go.Proofs.YtoolflmaaooplaaGreatW.PrintMore FLib
attribute [local go_sem] below_alloc_T below_drew_T below_drewN_T

theorem rnew_any (w : World) : Calls Tryz.prog 15 #[] w fun e w' => e = .returned (.pointer (some ⟨w.heap.size, 0, none⟩)) ∧ RT w' w.heap.size (.slice none 0 0) (.slice none 0 0) [] [] ∧ Below w.heap.size w w' := by
  go_enter Tryz.func15, Tryz.ntmps15
  go_wp2
  go_ret
  exact ⟨rfl, ⟨blk_new _ _, World.ownsRow_nil _ _ _ _, World.ownsRow_nil _ _ _ _⟩, below_alloc (Below.refl _ _) _⟩
def POk (P : List Pc) : Prop := ∀ p ∈ P, 0 ≤ p.lo ∧ p.lo ≤ 1099511627776 ∧ 0 ≤ p.hi ∧ p.hi ≤ 1099511627776
theorem lflat_one' (L : List Lk) : ∀ u ∈ lflat L, u.oneCell' = true := by
  intro u hu
  unfold lflat at hu
  obtain ⟨x, -, hx⟩ := List.mem_flatMap.1 hu
  simp only [Lk.cells, List.mem_cons, List.not_mem_nil, or_false] at hx
  rcases hx with rfl | rfl | rfl | rfl <;> rfl
theorem src_row {w : World} {base e n : Nat} {v : Value} {xs : List Value} (h : w.ownsRow base e 4 v n xs) (h1 : ∀ u ∈ xs, u.oneCell' = true) : SrcOk w v n xs := by
  rcases row_form h with ⟨rfl, rfl⟩ | ⟨g, c, rfl⟩
  · exact .inl ⟨rfl, List.eq_nil_of_length_eq_zero (by rw [h.1]), rfl⟩
  · exact .inr ⟨_, _, rfl, h.1, fun j u hu => by
      have := h.cells (g := g) rfl j u hu
      exact this, h1⟩
theorem row0' (w : World) (e base b : Nat) (h : w.heap[b]? = some (.cells #[] e (0, 0))) (hb : base ≤ b) : w.ownsRow base e 4 (.slice (some ⟨b, 0, none⟩) 0 0) 0 [] := ⟨rfl, .inr ⟨b, 0, #[], rfl, hb, h, Nat.le_refl _, by simp, by simp, by simp⟩⟩
def rhit (P : List Pc) (c : Pc) : Option Pc := P[P.findIdx (fun s => rconfI s c)]?
theorem rhit_some {P : List Pc} {c : Pc} (h : P.findIdx (fun s => rconfI s c) < P.length) : ∃ x, rhit P c = some x := ⟨_, List.getElem?_eq_getElem h⟩
theorem rhit_none {P : List Pc} {c : Pc} (h : ¬ P.findIdx (fun s => rconfI s c) < P.length) : rhit P c = none := List.getElem?_eq_none (by omega)
def rchkI (P : List Pc) (x : Lk) : Int := if okL x.own x.st x.len then (if (rhit P (rofI x)).isSome then 2 else 0) else 34
set_option maxRecDepth 100000 in
set_option maxHeartbeats 1000000 in
theorem rcheck_any (q : Nat) (gv qv : Value) (P : List Pc) (Q : List Lk) (hP : P.length ≤ 10000) (x : Lk) (w : World) (h : RT w q gv qv P Q) :
    Calls Tryz.prog 40 #[.pointer (some ⟨q, 0, none⟩), .int .i64 x.own, .int .i64 x.st, .int .i64 x.len, .bool x.ex] w fun e w' => e = .returned (.int .i64 (rchkI P x)) ∧ Below w.heap.size w w' := by
  have HV := Lib.hid (fun w => rvalid_any x w)
  have hb0 := below_alloc (Below.refl w.heap.size w) (.cells x.cells.toArray 63)
  have hx0 := blk_new w (.cells x.cells.toArray 63)
  have HB := Lib.hid (And.intro hb0 (And.intro hx0 (h.below hb0)))
  unfold rchkI
  clear hb0 hx0
  simp only [lkV, Lk.cells] at HV HB
  cases hv : okL x.own x.st x.len
  · rw [hv] at HV
    clear h
    go_enter Tryz.func40, Tryz.ntmps40
    go_wp2_with fail
    refine (HV.out _).mono ?_
    rintro e w1 ⟨rfl, hb1⟩
    have H1 := Lib.hid (below_back HB.out.1 hb1)
    clear hb1
    go_wp2
    go_ret
    exact ⟨rfl, H1.out⟩
  · rw [hv] at HV
    have HOF := Lib.hid (fun w => rof_any x hv w)
    obtain ⟨c, hc⟩ : ∃ c, rofI x = c := ⟨_, rfl⟩
    rw [hc] at HOF ⊢
    have HFI := Lib.hid (fun w h => first_any q gv qv P Q hP c w h)
    obtain ⟨n, hn⟩ : ∃ n, idxI (fun s => rconfI s c) P = n := ⟨_, rfl⟩
    rw [hn] at HFI
    have HN := Lib.hid (show (if (rhit P c).isSome then (2 : Int) else 0) = if decide (0 ≤ n) then 2 else 0 by
      unfold idxI at hn
      by_cases hi : P.findIdx (fun s => rconfI s c) < P.length
      · obtain ⟨y, hy⟩ := rhit_some hi
        rw [if_pos hi] at hn
        rw [hy, ← hn]; simp
      · rw [if_neg hi] at hn
        rw [rhit_none hi, ← hn]; simp)
    simp only [if_true]
    obtain ⟨r, hr⟩ : ∃ r : Int, (if (rhit P c).isSome then (2 : Int) else 0) = r := ⟨_, rfl⟩
    rw [hr] at HN ⊢
    clear hr
    simp only [pcV, lkV] at HOF HFI
    clear h hv hc hP hn
    go_enter Tryz.func40, Tryz.ntmps40
    go_wp2_with fail
    refine (HV.out _).mono ?_
    rintro e w1 ⟨rfl, hb1⟩
    have hx1 := blk_below HB.out.2.1 hb1
    have H1 := Lib.hid (And.intro (below_back HB.out.1 hb1) (HB.out.2.2.below hb1))
    have p0 : w1.cell? ⟨w.heap.size, 0, none⟩ = some (.int .i64 x.own) := blk_cell hx1 0
    have p1 : w1.cell? ⟨w.heap.size, 1, none⟩ = some (.int .i64 x.st) := blk_cell hx1 1
    have p2 : w1.cell? ⟨w.heap.size, 2, none⟩ = some (.int .i64 x.len) := blk_cell hx1 2
    have p3 : w1.cell? ⟨w.heap.size, 3, none⟩ = some (.bool x.ex) := blk_cell hx1 3
    clear hb1 hx1
    go_wp2_with fail
    refine (HOF.out _).mono ?_
    rintro e w2 ⟨rfl, hb2⟩
    have H2 := Lib.hid (And.intro (below_back H1.out.1 hb2) (H1.out.2.below hb2))
    clear hb2 p0 p1 p2 p3
    go_wp2_with fail
    refine (HFI.out _ H2.out.2).mono ?_
    rintro e w3 ⟨rfl, hb3⟩
    have H3 := Lib.hid (below_back H2.out.1 hb3)
    clear hb3
    cases d1 : decide (0 ≤ n)
    · go_wp2
      go_ret
      exact ⟨by rw [HN.out, d1]; rfl, H3.out⟩
    · go_wp2
      go_ret
      exact ⟨by rw [HN.out, d1]; rfl, H3.out⟩
def rtestR : Option Pc → Value
  | none => .tuple #[lkV ⟨0, 0, 0, false⟩, .bool false, .int .i64 0]
  | some c => .tuple #[lkV (rlockI c), .bool true, .int .i64 0]
def rtestV (P : List Pc) (x : Lk) : Value := if okL x.own x.st x.len then rtestR (rhit P (rofI x)) else .tuple #[lkV ⟨0, 0, 0, false⟩, .bool false, .int .i64 34]
theorem res4 {w w1 : World} {r : Nat} {y : Lk} (x : Lk) (hB : Below w.heap.size w w1) (hr : w.heap.size ≤ r) (h : w1.heap[r]? = some (.cells y.cells.toArray 63 (0, 0))) :
    Below w.heap.size w ((((w1.setCell ⟨r, 0, none⟩ (.int .i64 x.own)).setCell ⟨r, 1, none⟩ (.int .i64 x.st)).setCell ⟨r, 2, none⟩ (.int .i64 x.len)).setCell ⟨r, 3, none⟩ (.bool x.ex)) ∧
    ((((w1.setCell ⟨r, 0, none⟩ (.int .i64 x.own)).setCell ⟨r, 1, none⟩ (.int .i64 x.st)).setCell ⟨r, 2, none⟩ (.int .i64 x.len)).setCell ⟨r, 3, none⟩ (.bool x.ex)).heap[r]? = some (.cells x.cells.toArray 63 (0, 0)) := by
  refine ⟨(((((Keeps.of_below hB (fun b => b = r)).set ⟨r, 0, none⟩ _ (.inl rfl)).set ⟨r, 1, none⟩ _ (.inl rfl)).set ⟨r, 2, none⟩ _ (.inl rfl)).set ⟨r, 3, none⟩ _ (.inl rfl)).below (Nat.le_refl _) (fun i hi => by omega), ?_⟩
  exact blk_put (cs' := x.cells.toArray) (blk_put (blk_put (blk_put h 0 (.int .i64 x.own) rfl) 1 (.int .i64 x.st) rfl) 2 (.int .i64 x.len) rfl) 3 (.bool x.ex) rfl
set_option maxRecDepth 100000 in
set_option maxHeartbeats 1000000 in
theorem rtest_any (q : Nat) (gv qv : Value) (P : List Pc) (Q : List Lk) (hP : P.length ≤ 10000) (hok : POk P) (x : Lk) (w : World) (h : RT w q gv qv P Q) :
    Calls Tryz.prog 38 #[.pointer (some ⟨q, 0, none⟩), lkV x] w fun e w' => e = .returned (rtestV P x) ∧ Below w.heap.size w w' := by
  have HV := Lib.hid (fun w => rvalid_any x w)
  have hb0 := below_alloc (below_alloc (Below.refl w.heap.size w) (.cells x.cells.toArray 63)) (.cells #[.int .i64 0, .int .i64 0, .int .i64 0, .bool false] 63)
  have hx0 := blk_alloc (blk_new w (.cells x.cells.toArray 63)) (.cells #[.int .i64 0, .int .i64 0, .int .i64 0, .bool false] 63)
  have hr0 := blk_new2 w (.cells x.cells.toArray 63) (.cells #[.int .i64 0, .int .i64 0, .int .i64 0, .bool false] 63)
  have HB := Lib.hid (And.intro hb0 (And.intro hx0 (And.intro hr0 (h.below hb0))))
  unfold rtestV
  clear hb0 hx0 hr0
  simp only [lkV, Lk.cells] at HV HB ⊢
  cases hv : okL x.own x.st x.len
  · rw [hv] at HV
    rw [if_neg (by simp)]
    clear h
    go_enter Tryz.func38, Tryz.ntmps38
    go_wp2_with fail
    refine (HV.out _).mono ?_
    rintro e w1 ⟨rfl, hb1⟩
    have hr1 := blk_below HB.out.2.2.1 hb1
    have r0 : w1.cell? ⟨w.heap.size + 1, 0, none⟩ = some (.int .i64 0) := blk_cell hr1 0
    have r1 : w1.cell? ⟨w.heap.size + 1, 1, none⟩ = some (.int .i64 0) := blk_cell hr1 1
    have r2 : w1.cell? ⟨w.heap.size + 1, 2, none⟩ = some (.int .i64 0) := blk_cell hr1 2
    have r3 : w1.cell? ⟨w.heap.size + 1, 3, none⟩ = some (.bool false) := blk_cell hr1 3
    have f0 : w1.frozen? ⟨w.heap.size + 1, 0, none⟩ = false := blk_frozen hr1 0
    have f1 : w1.frozen? ⟨w.heap.size + 1, 1, none⟩ = false := blk_frozen hr1 1
    have f2 : w1.frozen? ⟨w.heap.size + 1, 2, none⟩ = false := blk_frozen hr1 2
    have f3 : w1.frozen? ⟨w.heap.size + 1, 3, none⟩ = false := blk_frozen hr1 3
    have H1 := Lib.hid (And.intro (below_back HB.out.1 hb1) hr1)
    clear hb1 hr1
    go_wp2
    refine abs_e (fun W => Below w.heap.size w W ∧ W.heap[w.heap.size + 1]? = some (.cells (Lk.cells (⟨0, 0, 0, false⟩ : Lk)).toArray 63 (0, 0))) (res4 (⟨0, 0, 0, false⟩ : Lk) H1.out.1 (by omega) (y := ⟨0, 0, 0, false⟩) H1.out.2) ?_
    rintro W9 ⟨hb9, hr9⟩
    have q0 : W9.cell? ⟨w.heap.size + 1, 0, none⟩ = some (.int .i64 (⟨0, 0, 0, false⟩ : Lk).own) := blk_cell hr9 0
    have q1 : W9.cell? ⟨w.heap.size + 1, 1, none⟩ = some (.int .i64 (⟨0, 0, 0, false⟩ : Lk).st) := blk_cell hr9 1
    have q2 : W9.cell? ⟨w.heap.size + 1, 2, none⟩ = some (.int .i64 (⟨0, 0, 0, false⟩ : Lk).len) := blk_cell hr9 2
    have q3 : W9.cell? ⟨w.heap.size + 1, 3, none⟩ = some (.bool (⟨0, 0, 0, false⟩ : Lk).ex) := blk_cell hr9 3
    clear hr9
    refine bodyPost_ret (v := .tuple #[.agg #[.int .i64 (⟨0, 0, 0, false⟩ : Lk).own, .int .i64 (⟨0, 0, 0, false⟩ : Lk).st, .int .i64 (⟨0, 0, 0, false⟩ : Lk).len, .bool (⟨0, 0, 0, false⟩ : Lk).ex], .bool false, .int .i64 34]) (by simp [results, Tryz.results38, go_sem, q0, q1, q2, q3]) rfl ?_
    exact ⟨rfl, hb9⟩
  · rw [hv] at HV
    rw [if_pos rfl]
    have HOF := Lib.hid (fun w => rof_any x hv w)
    obtain ⟨c, hc⟩ : ∃ c, rofI x = c := ⟨_, rfl⟩
    rw [hc] at HOF ⊢
    have HFI := Lib.hid (fun w h => first_any q gv qv P Q hP c w h)
    obtain ⟨R, hR⟩ : ∃ R, rtestR (rhit P c) = R := ⟨_, rfl⟩
    rw [hR]
    have HR := Lib.hid hR
    have HOK := Lib.hid hok
    have HPL := Lib.hid hP
    simp only [pcV, lkV] at HOF HFI
    obtain ⟨ga, gc, rfl⟩ := row_any h.gr
    clear h hv hc hP hR hok
    go_enter Tryz.func38, Tryz.ntmps38
    go_wp2_with fail
    refine (HV.out _).mono ?_
    rintro e w1 ⟨rfl, hb1⟩
    have hx1 := blk_below HB.out.2.1 hb1
    have H1 := Lib.hid (And.intro (below_back HB.out.1 hb1) (And.intro (HB.out.2.2.2.below hb1) (blk_below HB.out.2.2.1 hb1)))
    have p0 : w1.cell? ⟨w.heap.size, 0, none⟩ = some (.int .i64 x.own) := blk_cell hx1 0
    have p1 : w1.cell? ⟨w.heap.size, 1, none⟩ = some (.int .i64 x.st) := blk_cell hx1 1
    have p2 : w1.cell? ⟨w.heap.size, 2, none⟩ = some (.int .i64 x.len) := blk_cell hx1 2
    have p3 : w1.cell? ⟨w.heap.size, 3, none⟩ = some (.bool x.ex) := blk_cell hx1 3
    clear hb1 hx1
    go_wp2_with fail
    refine (HOF.out _).mono ?_
    rintro e w2 ⟨rfl, hb2⟩
    have H2 := Lib.hid (And.intro (below_back H1.out.1 hb2) (And.intro (H1.out.2.1.below hb2) (blk_below H1.out.2.2 hb2)))
    clear hb2 p0 p1 p2 p3
    go_wp2_with fail
    refine (HFI.out _ H2.out.2.1).mono ?_
    rintro e w3 ⟨rfl, hb3⟩
    have hr3 := blk_below H2.out.2.2 hb3
    have H3 := Lib.hid (And.intro (below_back H2.out.1 hb3) (And.intro (H2.out.2.1.below hb3) hr3))
    clear hb3
    by_cases hi : P.findIdx (fun s => rconfI s c) < P.length
    · obtain ⟨kk, hkk⟩ : ∃ kk, P.findIdx (fun s => rconfI s c) = kk := ⟨_, rfl⟩
      have hid : idxI (fun s => rconfI s c) P = (kk : Int) := by unfold idxI; rw [if_pos hi, hkk]
      rw [hid]
      obtain ⟨y, hy⟩ := rhit_some hi
      have hR := HR.out
      rw [hy, rtestR] at hR
      unfold rhit at hy
      rw [hkk] at hi hy
      have hT3 := H3.out.2.1
      obtain ⟨g, rfl⟩ := row_some2 hT3.gr (by omega)
      obtain ⟨p0, p1, p2, p3⟩ := row_pc hT3.gr hy
      have c0 : w3.cell? ⟨q, 0, none⟩ = some (.slice (some ⟨g, 0, none⟩) P.length gc) := blk_cell hT3.hdr 0
      have hk0 : (0 : Int) ≤ (kk : Int) := by omega
      have hk1 : (kk : Int) < (P.length : Int) := by omega
      have HLK := Lib.hid (fun w => rlock_any y (HOK.out y (List.mem_of_getElem? hy)) w)
      obtain ⟨lk, hlk⟩ : ∃ l, rlockI y = l := ⟨_, rfl⟩
      rw [hlk] at HLK hR
      have HRR := Lib.hid hR
      simp only [pcV, lkV] at HLK
      clear hid hi hy hkk hT3 hR hlk hr3
      go_wp2_with fail
      refine (HLK.out _).mono ?_
      rintro e w4 ⟨rfl, hb4⟩
      have hr4 := blk_below H3.out.2.2 hb4
      have H4 := Lib.hid (And.intro (below_back H3.out.1 hb4) hr4)
      have r0 : w4.cell? ⟨w.heap.size + 1, 0, none⟩ = some (.int .i64 0) := blk_cell hr4 0
      have r1 : w4.cell? ⟨w.heap.size + 1, 1, none⟩ = some (.int .i64 0) := blk_cell hr4 1
      have r2 : w4.cell? ⟨w.heap.size + 1, 2, none⟩ = some (.int .i64 0) := blk_cell hr4 2
      have r3 : w4.cell? ⟨w.heap.size + 1, 3, none⟩ = some (.bool false) := blk_cell hr4 3
      have f0 : w4.frozen? ⟨w.heap.size + 1, 0, none⟩ = false := blk_frozen hr4 0
      have f1 : w4.frozen? ⟨w.heap.size + 1, 1, none⟩ = false := blk_frozen hr4 1
      have f2 : w4.frozen? ⟨w.heap.size + 1, 2, none⟩ = false := blk_frozen hr4 2
      have f3 : w4.frozen? ⟨w.heap.size + 1, 3, none⟩ = false := blk_frozen hr4 3
      clear hb4 hr4 c0 p0 p1 p2 p3
      go_wp2
      refine abs_e (fun W => Below w.heap.size w W ∧ W.heap[w.heap.size + 1]? = some (.cells (Lk.cells lk).toArray 63 (0, 0))) (res4 lk H4.out.1 (by omega) (y := ⟨0, 0, 0, false⟩) H4.out.2) ?_
      rintro W9 ⟨hb9, hr9⟩
      have q0 : W9.cell? ⟨w.heap.size + 1, 0, none⟩ = some (.int .i64 lk.own) := blk_cell hr9 0
      have q1 : W9.cell? ⟨w.heap.size + 1, 1, none⟩ = some (.int .i64 lk.st) := blk_cell hr9 1
      have q2 : W9.cell? ⟨w.heap.size + 1, 2, none⟩ = some (.int .i64 lk.len) := blk_cell hr9 2
      have q3 : W9.cell? ⟨w.heap.size + 1, 3, none⟩ = some (.bool lk.ex) := blk_cell hr9 3
      clear hr9
      refine bodyPost_ret (v := .tuple #[.agg #[.int .i64 lk.own, .int .i64 lk.st, .int .i64 lk.len, .bool lk.ex], .bool true, .int .i64 0]) (by simp [results, Tryz.results38, go_sem, q0, q1, q2, q3]) rfl ?_
      exact ⟨by rw [← HRR.out]; rfl, hb9⟩
    · have hid : idxI (fun s => rconfI s c) P = -1 := by unfold idxI; rw [if_neg hi]
      rw [hid]
      have hR := HR.out
      rw [rhit_none hi, rtestR] at hR
      have HRR := Lib.hid hR
      have r0 : w3.cell? ⟨w.heap.size + 1, 0, none⟩ = some (.int .i64 0) := blk_cell hr3 0
      have r1 : w3.cell? ⟨w.heap.size + 1, 1, none⟩ = some (.int .i64 0) := blk_cell hr3 1
      have r2 : w3.cell? ⟨w.heap.size + 1, 2, none⟩ = some (.int .i64 0) := blk_cell hr3 2
      have r3 : w3.cell? ⟨w.heap.size + 1, 3, none⟩ = some (.bool false) := blk_cell hr3 3
      have f0 : w3.frozen? ⟨w.heap.size + 1, 0, none⟩ = false := blk_frozen hr3 0
      have f1 : w3.frozen? ⟨w.heap.size + 1, 1, none⟩ = false := blk_frozen hr3 1
      have f2 : w3.frozen? ⟨w.heap.size + 1, 2, none⟩ = false := blk_frozen hr3 2
      have f3 : w3.frozen? ⟨w.heap.size + 1, 3, none⟩ = false := blk_frozen hr3 3
      clear hid hi hR hr3
      go_wp2
      refine abs_e (fun W => Below w.heap.size w W ∧ W.heap[w.heap.size + 1]? = some (.cells (Lk.cells (⟨0, 0, 0, false⟩ : Lk)).toArray 63 (0, 0))) (res4 (⟨0, 0, 0, false⟩ : Lk) H3.out.1 (by omega) (y := ⟨0, 0, 0, false⟩) H3.out.2.2) ?_
      rintro W9 ⟨hb9, hr9⟩
      have q0 : W9.cell? ⟨w.heap.size + 1, 0, none⟩ = some (.int .i64 (⟨0, 0, 0, false⟩ : Lk).own) := blk_cell hr9 0
      have q1 : W9.cell? ⟨w.heap.size + 1, 1, none⟩ = some (.int .i64 (⟨0, 0, 0, false⟩ : Lk).st) := blk_cell hr9 1
      have q2 : W9.cell? ⟨w.heap.size + 1, 2, none⟩ = some (.int .i64 (⟨0, 0, 0, false⟩ : Lk).len) := blk_cell hr9 2
      have q3 : W9.cell? ⟨w.heap.size + 1, 3, none⟩ = some (.bool (⟨0, 0, 0, false⟩ : Lk).ex) := blk_cell hr9 3
      clear hr9
      refine bodyPost_ret (v := .tuple #[.agg #[.int .i64 (⟨0, 0, 0, false⟩ : Lk).own, .int .i64 (⟨0, 0, 0, false⟩ : Lk).st, .int .i64 (⟨0, 0, 0, false⟩ : Lk).len, .bool (⟨0, 0, 0, false⟩ : Lk).ex], .bool false, .int .i64 0]) (by simp [results, Tryz.results38, go_sem, q0, q1, q2, q3]) rfl ?_
      exact ⟨by rw [← HRR.out]; rfl, hb9⟩
end
section
set_option linter.unusedVariables false
set_option linter.unusedSimpArgs false
open Go.RowKit Go.Maps Go.Sort Go.Lib Go.Shelf Go.Proofs.YtoolflmaaooplaaGreatW.PrintWords Go.Proofs.YtoolflmaaooplaaGreatW.PrintLast Go.Proofs.YtoolflmaaooplaaGreatW.PrintMore FLib
attribute [local go_sem] below_alloc_T below_drew_T below_drewN_T

set_option maxRecDepth 100000 in
theorem frD (v0 v1 v2 v3 v4 v5 v6 v7 v8 v9 v10 v11 v12 v13 v14 v15 v16 v17 v18 v19 v20 v21 v22 v23 v24 v25 v26 v27 v28 v29 : Value) (d : List Deferred) : ∃ u : Nat → Value, ({ tmps := #[v0, v1, v2, v3, v4, v5, v6, v7, v8, v9, v10, v11, v12, v13, v14, v15, v16, v17, v18, v19, v20, v21, v22, v23, v24, v25, v26, v27, v28, v29], defers := d } : Act) = { tmps := #[v0, v1, u 2, u 3, u 4, u 5, u 6, u 7, u 8, u 9, u 10, u 11, u 12, u 13, u 14, u 15, u 16, u 17, u 18, u 19, u 20, u 21, u 22, u 23, u 24, u 25, u 26, u 27, u 28, u 29], defers := d } :=
  ⟨fun i => [v0, v1, v2, v3, v4, v5, v6, v7, v8, v9, v10, v11, v12, v13, v14, v15, v16, v17, v18, v19, v20, v21, v22, v23, v24, v25, v26, v27, v28, v29].getD i undef, rfl⟩
/-- A region's short post. -/
def normP (Φ : Act → World → Prop) : Exit → Act → World → Prop
  | .normal, a, w => Φ a w
  | _, _, _ => False
theorem normP_mk {Φ : Act → World → Prop} {a : Act} {w : World} (h : Φ a w) : normP Φ .normal a w := h
theorem region_n {id : Nat} {ops : Array Oper} {b : Bool} {P : Program} {Q : Exit → Act → World → Prop} {a : Act} {w : World} (Φ : Act → World → Prop)
    (h : (Code.region id ops b).wp P (normP Φ) a w) (hq : ∀ a' w', Φ a' w' → Q .normal a' w') : (Code.region id ops b).wp P Q a w :=
  Code.wp_mono (fun e a' w' hp => by cases e <;> first | exact hq a' w' hp | exact (hp : False).elim) h
theorem lsrc_take {w : World} {base c k : Nat} {ad : Option Addr} {L : List Lk} (h : w.ownsRow base 63 4 (.slice ad L.length c) L.length (lflat L)) (hk : k ≤ L.length) : SrcOk w (.slice ad k c) k (lflat (L.take k)) := by
  rcases row_form h with ⟨hv, hz⟩ | ⟨g, c2, hgc⟩
  · injection hv with h1 h2 h3
    subst h1 h3
    have hL := List.eq_nil_of_length_eq_zero hz
    subst hL
    obtain rfl : k = 0 := by simpa using hk
    exact .inl ⟨rfl, rfl, rfl⟩
  · injection hgc with h1 h2 h3
    subst h1 h3
    refine .inr ⟨_, _, rfl, by rw [lflat_len, List.length_take, Nat.min_eq_left hk], fun j u hu => ?_, lflat_one' _⟩
    rw [← lflat_take L k hk, List.getElem?_take] at hu
    split at hu
    · exact h.cells rfl j u hu
    · cases hu
theorem lsrc_drop {w : World} {base c k : Nat} {ad ad3 : Option Addr} {L : List Lk} (h : w.ownsRow base 63 4 (.slice ad L.length c) L.length (lflat L)) (hk : k ≤ L.length) (had : (if c = k then ad else Option.map (fun x => x.add (k * 4)) ad) = ad3) : SrcOk w (.slice ad3 (L.length - k) (c - k)) (L.length - k) (lflat (L.drop k)) := by
  rcases row_form h with ⟨hv, hz⟩ | ⟨g, c2, hgc⟩
  · injection hv with h1 h2 h3
    subst h1 h3
    have hL := List.eq_nil_of_length_eq_zero hz
    subst hL
    obtain rfl : k = 0 := by simpa using hk
    exact .inl ⟨rfl, rfl, by rw [← had]; rfl⟩
  · injection hgc with h1 h2 h3
    subst h1 h3
    have hc := row_cap h
    obtain ⟨a3, ha3⟩ : ∃ a3, ad3 = some a3 := by rw [← had]; split <;> exact ⟨_, rfl⟩
    subst ha3
    refine .inr ⟨_, _, rfl, by rw [lflat_len, List.length_drop], fun j u hu => ?_, lflat_one' _⟩
    have hj := (List.getElem?_eq_some_iff.1 hu).1
    rw [lflat_len, List.length_drop] at hj
    rw [if_neg (by omega)] at had
    simp only [Option.map_some, addmk, Nat.zero_add, Option.some.injEq] at had
    subst had
    rw [← lflat_drop L k hk, List.getElem?_drop] at hu
    have := h.cells (g := g) rfl _ u hu
    rw [addmk, Nat.zero_add] at this
    rw [addmk]
    exact this
set_option maxRecDepth 100000 in
set_option maxHeartbeats 2000000 in
theorem rcancel_any (q : Nat) (gv qv : Value) (P : List Pc) (Q : List Lk) (hq : Q.length ≤ 1000) (o : Int) (w : World) (h : RT w q gv qv P Q) :
    Calls Tryz.prog 34 #[.pointer (some ⟨q, 0, none⟩), .int .i64 o] w fun e w' => ∃ qv', e = .returned (.int .i64 (cancI Q o)) ∧ RT w' q gv qv' P (cancQ Q o) ∧ (∀ k, qv'.ownBlock = some k → qv.ownBlock = some k ∨ w.heap.size ≤ k) ∧ Keeps w w' (fun k => k = q) := by
  have HW := Lib.hid (rwaits_any q gv qv P Q (by omega) o w h)
  unfold cancI cancQ
  by_cases hf : fdI Q o < Q.length
  · rw [if_pos hf, if_pos hf]
    obtain ⟨k, hk⟩ : ∃ k, fdI Q o = k := ⟨_, rfl⟩
    have hid : idxI (fun l : Lk => l.own == o) Q = (k : Int) := by unfold idxI fdI at *; rw [if_pos hf, hk]
    rw [hid] at HW
    rw [hk] at hf ⊢
    have HT := Lib.hid h
    obtain ⟨qa, qc, rfl⟩ := row_any h.qr
    have hcap := row_cap' h.qr
    obtain ⟨N, hN⟩ : ∃ N, Q.length = N := ⟨_, rfl⟩
    obtain ⟨ad3, had⟩ : ∃ ad : Option Addr, (if qc = k + 1 then qa else Option.map (fun x => x.add ((k + 1) * 4)) qa) = ad := ⟨_, rfl⟩
    have HSL := Lib.hid (fun (w' : World) (hb : Below w.heap.size w w') => show SrcOk w' (.slice qa k qc) k (lflat (Q.take k)) from lsrc_take (pw_own_below h.qr hb) (by omega))
    have HSR := Lib.hid (fun (w' : World) (hb : Below w.heap.size w w') => show SrcOk w' (.slice ad3 (Q.length - (k + 1)) (qc - (k + 1))) (Q.length - (k + 1)) (lflat (Q.drop (k + 1))) from lsrc_drop (pw_own_below h.qr hb) (by omega) had)
    rw [hN] at HSR hf hcap
    have hd : decide ((k : Int) < 0) = false := decide_eq_false (by omega)
    have hwr : IntKind.i64.wrap ((k : Int) + 1) = (k : Int) + 1 := IntWalk.i64_in _ (by omega)
    have hk0 : (0 : Int) ≤ (k : Int) := by omega
    have hk1 : (k : Int) ≤ (N : Int) := by omega
    have hk2 : (k : Int) ≤ (qc : Int) := by omega
    have hk3 : (N : Int) ≤ (qc : Int) := by omega
    have hk4 : (0 : Int) ≤ (k : Int) + 1 := by omega
    have hk5 : (k : Int) + 1 ≤ (N : Int) := by omega
    have c1 := later_cell (v := .slice qa Q.length qc) (blk_cell h.hdr 1)
    rw [hN] at c1
    have hs0 : Below w.heap.size w w := Below.refl _ _
    have HN := Lib.hid (And.intro hN (And.intro hq (And.intro hf hcap)))
    have hz0 := row0' (w.alloc (.cells #[] 63)) 63 w.heap.size w.heap.size (blk_new _ _) (Nat.le_refl _)
    have HZ := Lib.hid hz0
    have HFIN := Lib.hid (fun (w' : World) (v' : Value) (h : w'.ownsRow w.heap.size 63 4 v' (k + (N - (k + 1))) (lflat (Q.take k) ++ lflat (Q.drop (k + 1)))) => show w'.ownsRow w.heap.size 63 4 v' (Q.eraseIdx k).length (lflat (Q.eraseIdx k)) by
      rw [List.eraseIdx_eq_take_drop_succ, lflat_append, show (Q.take k ++ Q.drop (k + 1)).length = k + (N - (k + 1)) by rw [List.length_append, List.length_take, List.length_drop]; omega]
      exact h)
    clear h hq hf hk hcap hN hid hz0
    go_enter Tryz.func34, Tryz.ntmps34
    go_wp2_with fail
    refine HW.out.mono ?_
    rintro e w1 ⟨rfl, rfl⟩
    go_wp2
    refine region_n (fun a' w' => ∃ v' : Value, (∃ u : Nat → Value, a' = { tmps := #[.pointer (some ⟨q, 0, none⟩), .int .i64 o, u 2, u 3, u 4, u 5, u 6, u 7, u 8, u 9, u 10, u 11, u 12, u 13, u 14, u 15, u 16, u 17, u 18, u 19, u 20, u 21, u 22, u 23, u 24, u 25, u 26, u 27, u 28, u 29], defers := [] }) ∧ RT w' q gv v' P (Q.eraseIdx k) ∧ (∀ j, v'.ownBlock = some j → w.heap.size ≤ j) ∧ Keeps w w' (fun k => k = q)) ?_ ?_
    · go_region_law (first
        | (refine step_app4 (by rfl) (.tmp 12) (.tmp 18) 63 60 (by rfl) Tryz.underlying60 info85 w _ 0 [] (by rfl) (own_move HZ.out (fun _ _ => rfl)) _ k (lflat (Q.take k)) (by rfl) (HSL.out _ (below_drew (below_alloc (Below.refl _ _) _))) (by have := HN.out; omega) (below_drew (below_alloc (Below.refl _ _) _)) ?_; intro v19 w19 hown19 hB19 hk19 hat19 hz19; have y1 : w19.cell? ⟨q, 1, none⟩ = some (.slice qa N qc) := c1 _ hB19)
        | (refine step_app4 (by rfl) (.tmp 19) (.tmp 26) 63 60 (by rfl) Tryz.underlying60 info85 w v19 (0 + k) ([] ++ lflat (Q.take k)) (by rfl) (by assumption) _ (N - (k + 1)) (lflat (Q.drop (k + 1))) (by rfl) (HSR.out _ hB19) (by have := HN.out; omega) hB19 ?_; intro v27 w27 hown27 hB27 hk27 hat27 hz27; simp only [Nat.zero_add, List.nil_append] at hown27; obtain ⟨va, vc, rfl⟩ := row_any hown27; have y2 : w27.cell? ⟨q, 1, none⟩ = some (.slice qa N qc) := c1 _ hB27; have f2 : w27.frozen? ⟨q, 1, none⟩ = false := blk_frozen (blk_below HT.out.hdr hB27) 1))
      all_goals
        refine normP_mk ⟨_, frD _ _ _ _ _ _ _ _ _ _ _ _ _ _ _ _ _ _ _ _ _ _ _ _ _ _ _ _ _ _ _, (HT.out.below hB27).set1 (own_base (HFIN.out _ _ hown27) (Nat.zero_le _)), fun j hj => (hown27.lt j hj).1, (Keeps.of_below hB27 _).set _ _ (.inl rfl)⟩
    · rintro a' W3 ⟨v', ⟨u, rfl⟩, hT3, ho3, hk3⟩
      have H3 := Lib.hid (And.intro hT3 (And.intro ho3 hk3))
      clear hT3 ho3 hk3
      go_wp2
      go_ret
      exact ⟨v', rfl, H3.out.1, fun j hj => .inr (H3.out.2.1 j hj), H3.out.2.2⟩
  · rw [if_neg hf, if_neg hf]
    have hid : idxI (fun l : Lk => l.own == o) Q = -1 := by unfold idxI fdI at *; rw [if_neg hf]
    rw [hid] at HW
    have HT := Lib.hid h
    clear h hf hq hid
    go_enter Tryz.func34, Tryz.ntmps34
    go_wp2_with fail
    refine HW.out.mono ?_
    rintro e w1 ⟨rfl, rfl⟩
    go_wp2
    go_ret
    exact ⟨qv, rfl, HT.out, fun j hj => .inl hj, Keeps.refl _ _⟩
end
section
set_option linter.unusedVariables false
set_option linter.unusedSimpArgs false
open Go.RowKit Go.Maps Go.Sort Go.Lib Go.Shelf Go.Proofs.YtoolflmaaooplaaGreatW.PrintWords Go.Proofs.YtoolflmaaooplaaGreatW.PrintLast Go.Proofs.YtoolflmaaooplaaGreatW.PrintMore FLib
attribute [local go_sem] below_alloc_T below_drew_T below_drewN_T

/-- A reference's table of P and Q stands at q; of what stood only its own cells have turned. -/
def RAfter (q : Nat) (qv : Value) (w w' : World) (P : List Pc) (Q : List Lk) : Prop :=
  ∃ gv' qv', RT w' q gv' qv' P Q ∧ (∀ k, qv'.ownBlock = some k → qv.ownBlock = some k ∨ w.heap.size ≤ k) ∧ Keeps w w' (fun k => k = q ∨ qv.ownBlock = some k)
theorem RAfter.same {q : Nat} {gv qv : Value} {P : List Pc} {Q : List Lk} {w w' : World} (h : RT w q gv qv P Q) (hb : Below w.heap.size w w') : RAfter q qv w w' P Q := ⟨gv, qv, h.below hb, fun k hk => .inl hk, Keeps.of_below hb _⟩
def rdropP (P : List Pc) (o : Int) : List Pc := P.filter (fun p => p.own != o)
theorem rdropP_snoc {P : List Pc} {k : Nat} {x : Pc} (h : P[k]? = some x) (o : Int) : rdropP (P.take (k + 1)) o = rdropP (P.take k) o ++ (if x.own != o then [x] else []) := by
  rw [List.take_add_one, h]
  unfold rdropP
  rw [List.filter_append]
  congr 1
  simp only [Option.toList_some, List.filter_cons, List.filter_nil]
def rdropF (P : List Pc) (Q : List Lk) (o : Int) : (List Pc × List Int) × List Lk := rscanF ((cancQ Q o).length + 1) (rdropP P o) [] (cancQ Q o)
theorem cancQ_qok {Q : List Lk} (h : QOk Q) (o : Int) : QOk (cancQ Q o) ∧ (cancQ Q o).length ≤ Q.length := cancQ_ok h o
set_option maxRecDepth 100000 in
set_option maxHeartbeats 1000000 in
theorem rdrop_any (q : Nat) (gv qv : Value) (P : List Pc) (Q : List Lk) (hP : P.length ≤ 200) (hQ : QOk Q) (hq : Q.length ≤ 200) (o : Int) (w : World) (h : RT w q gv qv P Q) :
    Calls Tryz.prog 36 #[.pointer (some ⟨q, 0, none⟩), .int .i64 o] w fun e w' => ∃ u, e = .returned u ∧ w'.ownsRow w.heap.size 3 1 u (rdropF P Q o).1.2.length ((rdropF P Q o).1.2.map encZ) ∧ RAfter q qv w w' (rdropF P Q o).1.1 (rdropF P Q o).2 := by
  have HC := Lib.hid (rcancel_any q gv qv P Q (by omega) o w h)
  have hqc := cancQ_qok hQ o
  have HP := Lib.hid (And.intro hP (And.intro hqc.1 (show (cancQ Q o).length ≤ 200 by omega)))
  unfold rdropF
  obtain ⟨Q2, hQ2⟩ : ∃ Q2, cancQ Q o = Q2 := ⟨_, rfl⟩
  rw [hQ2] at HC HP ⊢
  have hz := h.hdr
  have HS := Lib.hid (fun gv qv w h => rscan_any q gv qv (rdropP P o) Q2 (Nat.le_trans (List.length_filter_le _ _) HP.out.1) HP.out.2.1 HP.out.2.2 w h)
  clear h hP hQ hq hqc hQ2 hz
  go_enter Tryz.func36, Tryz.ntmps36
  go_wp2_with fail
  refine HC.out.mono ?_
  rintro e w1 ⟨qv1, rfl, hT1, ho1, hk1⟩
  obtain ⟨ga, gc, rfl⟩ := row_any hT1.gr
  have H1 := Lib.hid (And.intro hT1 (And.intro ho1 hk1))
  clear hT1 ho1 hk1
  go_wp2
  go_loopw [6, 5] (fun i u wr => ∃ k : Nat, k ≤ P.length ∧ i = .int .i64 k ∧ Hid (Below w1.heap.size w1 wr) ∧ Hid (wr.ownsRow w1.heap.size 91 4 u (rdropP (P.take k) o).length (pflat (rdropP (P.take k) o)))) (fun i _ _ => P.length - (RowKit.intOf i).toNat)
  case atStart => exact ⟨0, Nat.zero_le _, rfl, Lib.hid (Below.refl _ _), Lib.hid (World.ownsRow_nil _ _ _ _)⟩
  case round =>
    obtain ⟨k, hk, rfl, hB, hown⟩ := hrel
    have hlr : (P.length : Int) ≤ 200 := by have := HP.out.1; omega
    have hT := H1.out.1.below hB.out
    have c0 : wr.cell? ⟨q, 0, none⟩ = some (.slice ga P.length gc) := blk_cell hT.hdr 0
    by_cases hlt : k < P.length
    · obtain ⟨x, hx⟩ : ∃ x, P[k]? = some x := ⟨_, List.getElem?_eq_getElem hlt⟩
      obtain ⟨g, rfl⟩ := row_some2 hT.gr (by omega)
      obtain ⟨p0, p1, p2, p3⟩ := row_pc hT.gr hx
      have hk0 : (0 : Int) ≤ (k : Int) := by omega
      have hk1 : (k : Int) < (P.length : Int) := by omega
      have hsn := rdropP_snoc hx o
      have HX := Lib.hid hlt
      have hll : (rdropP (P.take k) o).length ≤ 1000000 := Nat.le_trans (List.length_filter_le _ _) (by have := HP.out.1; rw [List.length_take]; omega)
      generalize rdropP (P.take k) o = D at hown hsn hll
      have HLL := Lib.hid hll
      clear hT hx hlt hll
      cases d1 : (x.own != o)
      · rw [d1] at hsn
        have HN := Lib.hid hsn
        clear hsn
        go_wp2
        go_roundw
        case rel => exact ⟨k + 1, by have := HX.out; omega, by go_num, hB, Lib.hid (by rw [HN.out]; simpa using hown.out)⟩
        case measure => have := HX.out; simp [RowKit.intOf]; omega
      · rw [d1] at hsn
        have HN := Lib.hid hsn
        clear hsn
        go_wp2_with (at_builtin; refine app_pc rfl (.tmp 29) (.tmp 37) rfl w1 wr u5 D rfl hown.out hB.out HLL.out (below_alloc (Below.refl _ _) _) _ _ x rfl (blk_new _ _) ?_; intro v' w6 hown6 hB6 hk6)
        have hN := Lib.hid (show w6.ownsRow w1.heap.size 91 4 v' (rdropP (P.take (k + 1)) o).length (pflat (rdropP (P.take (k + 1)) o)) by rw [HN.out]; exact hown6)
        have hB7 := Lib.hid hB6
        clear hown6 hB6 hk6
        go_roundw
        case rel => exact ⟨k + 1, by have := HX.out; omega, by go_num, hB7, hN⟩
        case measure => have := HX.out; simp [RowKit.intOf]; omega
    · obtain rfl : k = P.length := by omega
      rw [List.take_length] at hown
      obtain ⟨la, lc, rfl⟩ := row_any hown.out
      have f0 : wr.frozen? ⟨q, 0, none⟩ = false := blk_frozen hT.hdr 0
      have H3 := Lib.hid (And.intro (hT.set0 (own_base hown.out (Nat.zero_le _))) (show Keeps w (wr.setCell ⟨q, 0, none⟩ (.slice la (rdropP P o).length lc)) (fun k => k = q) from (H1.out.2.2.trans (Keeps.of_below hB.out (fun _ => False)) (fun _ h => h.elim)).set _ _ (.inl rfl)))
      clear hT hlt hown hB
      go_wp2_with fail
      refine (HS.out _ _ _ H3.out.1).mono ?_
      rintro e w4 ⟨u, gv', qv', rfl, hT4, hrow4, ho4, hk4⟩
      have H4 := Lib.hid (And.intro hT4 (And.intro (own_base hrow4 (H3.out.2.size)) (And.intro (fun k hk => Nat.le_trans H3.out.2.size (ho4 k hk)) (H3.out.2.trans hk4 (fun i hi => .inl hi)))))
      clear hT4 hrow4 ho4 hk4
      go_wp2
      go_ret
      exact ⟨u, rfl, H4.out.2.1, gv', qv', H4.out.1, fun k hk => .inr (H4.out.2.2.1 k hk), H4.out.2.2.2.mono (fun i hi => .inl hi)⟩
/-- Release: its answers, and the table behind it. -/
def rrelF (P : List Pc) (Q : List Lk) (x : Lk) : (List Int × Int) × (List Pc × List Lk) :=
  if okL x.own x.st x.len = false then (([], 34), (P, Q))
  else if 200 < (rwoutP P (rofI x)).length then (([], 18), (P, Q))
  else (((rscanF (Q.length + 1) (rwoutP P (rofI x)) [] Q).1.2, 0), ((rscanF (Q.length + 1) (rwoutP P (rofI x)) [] Q).1.1, (rscanF (Q.length + 1) (rwoutP P (rofI x)) [] Q).2))
set_option maxRecDepth 100000 in
set_option maxHeartbeats 1000000 in
theorem rrelease_any (q : Nat) (gv qv : Value) (P : List Pc) (Q : List Lk) (hP : P.length ≤ 200) (hQ : QOk Q) (hq : Q.length ≤ 200) (o s n : Int) (w : World) (h : RT w q gv qv P Q) :
    Calls Tryz.prog 32 #[.pointer (some ⟨q, 0, none⟩), .int .i64 o, .int .i64 s, .int .i64 n] w fun e w' => ∃ u, e = .returned (.tuple #[u, .int .i64 (rrelF P Q ⟨o, s, n, false⟩).1.2]) ∧
      w'.ownsRow w.heap.size 3 1 u (rrelF P Q ⟨o, s, n, false⟩).1.1.length ((rrelF P Q ⟨o, s, n, false⟩).1.1.map encZ) ∧ RAfter q qv w w' (rrelF P Q ⟨o, s, n, false⟩).2.1 (rrelF P Q ⟨o, s, n, false⟩).2.2 := by
  have HV := Lib.hid (fun w => rvalid_any ⟨o, s, n, false⟩ w)
  have hb0 := below_alloc (Below.refl w.heap.size w) (.cells (Lk.cells ⟨o, s, n, false⟩).toArray 63)
  have hx0 := blk_new w (.cells (Lk.cells ⟨o, s, n, false⟩).toArray 63)
  have HT := Lib.hid h
  have HB := Lib.hid (And.intro hb0 (And.intro hx0 (h.below hb0)))
  unfold rrelF
  clear hb0 hx0
  simp only [lkV, Lk.cells] at HV HB
  cases hv : okL o s n
  · rw [hv] at HV
    simp only [if_true]
    clear h
    go_enter Tryz.func32, Tryz.ntmps32
    go_wp2_with fail
    refine (HV.out _).mono ?_
    rintro e w1 ⟨rfl, hb1⟩
    have H1 := Lib.hid (below_back HB.out.1 hb1)
    clear hb1
    go_wp2
    refine bodyPost_ret (v := .tuple #[.slice none 0 0, .int .i64 34]) (by simp [results, Tryz.results32, go_sem]) rfl ?_
    exact ⟨_, rfl, World.ownsRow_nil _ _ _ _, RAfter.same HT.out H1.out⟩
  · rw [hv] at HV
    simp only [Bool.true_eq_false, if_false]
    have HOF := Lib.hid (fun w => rof_any ⟨o, s, n, false⟩ hv w)
    obtain ⟨c, hc⟩ : ∃ c, rofI ⟨o, s, n, false⟩ = c := ⟨_, rfl⟩
    rw [hc] at HOF ⊢
    have HWO := Lib.hid (fun w h => rwout_any gv P (by omega) c w h)
    obtain ⟨P2, hP2⟩ : ∃ P2, rwoutP P c = P2 := ⟨_, rfl⟩
    rw [hP2] at HWO ⊢
    have HS := Lib.hid (fun (hl : P2.length ≤ 200) gv w h => rscan_any q gv qv P2 Q hl hQ hq w h)
    generalize hF : (if 200 < P2.length then _ else _) = F
    have HF := Lib.hid hF
    simp only [pcV, lkV] at HOF HWO
    clear h hv hc hP hQ hq hP2 hF
    go_enter Tryz.func32, Tryz.ntmps32
    go_wp2_with fail
    refine (HV.out _).mono ?_
    rintro e w1 ⟨rfl, hb1⟩
    have hx1 := blk_below HB.out.2.1 hb1
    have hT1 := HB.out.2.2.below hb1
    have H1 := Lib.hid (And.intro (below_back HB.out.1 hb1) (And.intro hT1 hx1))
    have p0 := later_cell (v := .int .i64 o) (blk_cell hx1 0)
    have p1 := later_cell (v := .int .i64 s) (blk_cell hx1 1)
    have p2 := later_cell (v := .int .i64 n) (blk_cell hx1 2)
    have p3 := later_cell (v := .bool false) (blk_cell hx1 3)
    have c0 := later_cell (v := gv) (blk_cell hT1.hdr 0)
    have hs0 : Below w1.heap.size w1 w1 := Below.refl _ _
    clear hb1 hx1 hT1
    go_wp2
    go_region_held3 (fun w' => Below w1.heap.size w1 w') (first | assumption | exact below_drew (by assumption))
      (first
        | (go_at_call 52; refine (HOF.out _).mono ?_; rintro e w2 ⟨rfl, hb2⟩; have hB2 := below_step (by first | assumption | exact below_drew (by assumption)) hb2; clear hb2)
        | (go_at_call 58; refine (HWO.out _ (pw_own_below H1.out.2.1.gr (by first | assumption | exact below_drew (by assumption)))).mono ?_; rintro e w3 ⟨u11, rfl, hrow3, hb3⟩; have hB3 := below_step (by first | assumption | exact below_drew (by assumption)) hb3; clear hb3))
    obtain ⟨ua, uc, rfl⟩ := row_any hrow3
    have H3 := Lib.hid (And.intro (H1.out.2.1.below hB3) (And.intro (own_base hrow3 (Nat.zero_le _)) (below_back H1.out.1 hB3)))
    clear p0 p1 p2 p3 c0 hs0 hrow3 hB3
    by_cases hl : 200 < P2.length
    · have hd : decide ((200 : Int) < (P2.length : Int)) = true := decide_eq_true (by omega)
      have hf := HF.out
      rw [if_pos hl] at hf
      have HF2 := Lib.hid hf
      clear hl hf
      go_wp2
      refine bodyPost_ret (v := .tuple #[.slice none 0 0, .int .i64 18]) (by simp [results, Tryz.results32, go_sem]) rfl ?_
      rw [← HF2.out]
      exact ⟨_, rfl, World.ownsRow_nil _ _ _ _, RAfter.same HT.out H3.out.2.2⟩
    · have hd : decide ((200 : Int) < (P2.length : Int)) = false := decide_eq_false (by omega)
      have hf := HF.out
      rw [if_neg hl] at hf
      have HF2 := Lib.hid hf
      clear hf
      have HSC := Lib.hid (HS.out (by omega))
      have c0 : w3.cell? ⟨q, 0, none⟩ = some gv := blk_cell H3.out.1.hdr 0
      have f0 : w3.frozen? ⟨q, 0, none⟩ = false := blk_frozen H3.out.1.hdr 0
      have H4 := Lib.hid (And.intro (H3.out.1.set0 H3.out.2.1) (show Keeps w (w3.setCell ⟨q, 0, none⟩ (.slice ua P2.length uc)) (fun k => k = q) from (Keeps.of_below H3.out.2.2 _).set _ _ (.inl rfl)))
      clear hl
      go_wp2_with fail
      refine (HSC.out _ _ H4.out.1).mono ?_
      rintro e w5 ⟨u, gv', qv', rfl, hT5, hrow5, ho5, hk5⟩
      have H5 := Lib.hid (And.intro hT5 (And.intro (own_base hrow5 H4.out.2.size) (And.intro (fun k hk => Nat.le_trans H4.out.2.size (ho5 k hk)) (H4.out.2.trans hk5 (fun i hi => .inl hi)))))
      clear hT5 hrow5 ho5 hk5
      go_wp2
      refine bodyPost_ret (v := .tuple #[u, .int .i64 0]) (by simp [results, Tryz.results32, go_sem]) rfl ?_
      rw [← HF2.out]
      exact ⟨u, rfl, H5.out.2.1, gv', qv', H5.out.1, fun k hk => .inr (H5.out.2.2.1 k hk), H5.out.2.2.2.mono (fun i hi => .inl hi)⟩
end
section
set_option linter.unusedVariables false
set_option linter.unusedSimpArgs false
open Go.RowKit Go.Maps Go.Sort Go.Lib Go.Shelf Go.Proofs.YtoolflmaaooplaaGreatW.PrintWords Go.Proofs.YtoolflmaaooplaaGreatW.PrintLast Go.Proofs.YtoolflmaaooplaaGreatW.PrintMore FLib
attribute [local go_sem] below_alloc_T below_drew_T below_drewN_T

set_option maxRecDepth 100000 in
theorem frE (v0 v1 v2 v3 v4 v5 v6 v7 v8 v9 v10 v11 v12 v13 v14 v15 v16 v17 v18 v19 v20 v21 v22 v23 v24 v25 v26 v27 v28 v29 v30 v31 v32 v33 v34 v35 v36 v37 v38 v39 v40 v41 v42 v43 v44 v45 v46 v47 v48 v49 v50 v51 v52 v53 v54 v55 v56 v57 v58 v59 v60 v61 v62 v63 v64 v65 v66 v67 v68 v69 v70 v71 v72 v73 v74 : Value) (d : List Deferred) : ∃ u : Nat → Value, ({ tmps := #[v0, v1, v2, v3, v4, v5, v6, v7, v8, v9, v10, v11, v12, v13, v14, v15, v16, v17, v18, v19, v20, v21, v22, v23, v24, v25, v26, v27, v28, v29, v30, v31, v32, v33, v34, v35, v36, v37, v38, v39, v40, v41, v42, v43, v44, v45, v46, v47, v48, v49, v50, v51, v52, v53, v54, v55, v56, v57, v58, v59, v60, v61, v62, v63, v64, v65, v66, v67, v68, v69, v70, v71, v72, v73, v74], defers := d } : Act) = { tmps := #[v0, u 1, u 2, u 3, u 4, u 5, u 6, u 7, u 8, u 9, u 10, u 11, u 12, u 13, u 14, u 15, u 16, u 17, u 18, u 19, u 20, u 21, u 22, u 23, u 24, u 25, u 26, u 27, u 28, u 29, u 30, u 31, u 32, u 33, u 34, u 35, u 36, u 37, u 38, u 39, u 40, u 41, u 42, u 43, u 44, u 45, u 46, u 47, u 48, u 49, u 50, u 51, u 52, u 53, u 54, u 55, u 56, u 57, u 58, u 59, u 60, u 61, u 62, u 63, u 64, u 65, u 66, u 67, u 68, u 69, u 70, u 71, u 72, u 73, u 74], defers := d } :=
  ⟨fun i => [v0, v1, v2, v3, v4, v5, v6, v7, v8, v9, v10, v11, v12, v13, v14, v15, v16, v17, v18, v19, v20, v21, v22, v23, v24, v25, v26, v27, v28, v29, v30, v31, v32, v33, v34, v35, v36, v37, v38, v39, v40, v41, v42, v43, v44, v45, v46, v47, v48, v49, v50, v51, v52, v53, v54, v55, v56, v57, v58, v59, v60, v61, v62, v63, v64, v65, v66, v67, v68, v69, v70, v71, v72, v73, v74].getD i undef, rfl⟩
theorem lsrc_one {w : World} {b c : Nat} {p : Lk} (h : w.heap[b]? = some (.cells p.cells.toArray 63 (0, 0))) : SrcOk w (.slice (some ⟨b, 0, none⟩) 1 c) 1 p.cells :=
  .inr ⟨_, _, rfl, rfl, fun j u hu => cells_at h j u hu, fun u hu => by
    simp only [Lk.cells, List.mem_cons, List.not_mem_nil, or_false] at hu
    rcases hu with rfl | rfl | rfl | rfl <;> rfl⟩
/-- Set: its answers, and the table behind it. -/
def rsetF (P : List Pc) (Q : List Lk) (l : Lk) (wt : Bool) : (Bool × List Int × Int) × (List Pc × List Lk) :=
  if okL l.own l.st l.len = false then ((false, [], 34), (P, Q))
  else if fdI Q l.own < Q.length then ((false, [], 5), (P, Q))
  else if decide (idxI (fun s => rconfI s (rofI l)) P < 0) = true then
    (if (rwithP P (rofI l)).length ≤ 200 then ((true, (rscanF (Q.length + 1) (rwithP P (rofI l)) [] Q).1.2, 0), ((rscanF (Q.length + 1) (rwithP P (rofI l)) [] Q).1.1, (rscanF (Q.length + 1) (rwithP P (rofI l)) [] Q).2)) else ((false, [], 18), (P, Q)))
  else if wt = false then ((false, [], 2), (P, Q))
  else if 200 ≤ Q.length then ((false, [], 18), (P, Q))
  else if rreach P Q l = true then ((false, [], 8), (P, Q)) else ((false, [], 0), (P, Q ++ [l]))
set_option maxRecDepth 100000 in
set_option maxHeartbeats 2000000 in
theorem rset_any (q : Nat) (gv qv : Value) (P : List Pc) (Q : List Lk) (hP : P.length ≤ 200) (hQ : QOk Q) (hq : Q.length ≤ 200) (l : Lk) (wt : Bool) (w : World) (h : RT w q gv qv P Q) :
    Calls Tryz.prog 29 #[.pointer (some ⟨q, 0, none⟩), lkV l, .bool wt] w fun e w' => ∃ u, e = .returned (setV (rsetF P Q l wt).1.1 u (rsetF P Q l wt).1.2.2) ∧
      w'.ownsRow w.heap.size 3 1 u (rsetF P Q l wt).1.2.1.length ((rsetF P Q l wt).1.2.1.map encZ) ∧ RAfter q qv w w' (rsetF P Q l wt).2.1 (rsetF P Q l wt).2.2 := by
  have HV := Lib.hid (fun w => rvalid_any l w)
  have hb0 := below_alloc (Below.refl w.heap.size w) (.cells l.cells.toArray 63)
  have hx0 := blk_new w (.cells l.cells.toArray 63)
  have HT := Lib.hid h
  have HB := Lib.hid (And.intro hb0 (And.intro hx0 (h.below hb0)))
  obtain ⟨F, hF⟩ : ∃ F, rsetF P Q l wt = F := ⟨_, rfl⟩
  rw [hF]
  unfold rsetF at hF
  have same : ∀ (e : Ending) (w' : World) (n : Int), e = .returned (setV false (.slice none 0 0) n) → Below w.heap.size w w' → ((false, [], n), (P, Q)) = F → ∃ u, e = .returned (setV F.1.1 u F.1.2.2) ∧ w'.ownsRow w.heap.size 3 1 u F.1.2.1.length (F.1.2.1.map encZ) ∧ RAfter q qv w w' F.2.1 F.2.2 :=
    fun e w' n he hb hf => by rw [← hf]; exact ⟨_, he, World.ownsRow_nil _ _ _ _, RAfter.same HT.out hb⟩
  have HSM := Lib.hid same
  clear hb0 hx0 same
  simp only [lkV, Lk.cells] at HV HB ⊢
  cases hv : okL l.own l.st l.len
  · rw [hv] at HV hF
    rw [if_pos rfl] at hF
    have HF := Lib.hid hF
    clear h hF
    go_enter Tryz.func29, Tryz.ntmps29
    go_wp2_with fail
    refine (HV.out _).mono ?_
    rintro e w1 ⟨rfl, hb1⟩
    have H1 := Lib.hid (below_back HB.out.1 hb1)
    clear hb1
    go_wp2
    refine bodyPost_ret (v := setV false (.slice none 0 0) 34) (by simp [results, Tryz.results29, go_sem, setV]) rfl ?_
    exact HSM.out _ _ _ rfl H1.out HF.out
  · rw [hv] at HV hF
    rw [if_neg (by simp)] at hF
    have HVV := Lib.hid hv
    have HW := Lib.hid (fun w h => rwaits_any q gv qv P Q (by omega) l.own w h)
    have HOF := Lib.hid (fun w => rof_any l hv w)
    obtain ⟨c, hc⟩ : ∃ c, rofI l = c := ⟨_, rfl⟩
    rw [hc] at HOF hF
    have HFI := Lib.hid (fun w h => first_any q gv qv P Q (by omega) c w h)
    have HWI := Lib.hid (fun w h => rwith_any gv P (by omega) c w h)
    obtain ⟨P3, hP3⟩ : ∃ P3, rwithP P c = P3 := ⟨_, rfl⟩
    rw [hP3] at HWI hF
    obtain ⟨n5, hn5⟩ : ∃ n, idxI (fun s => rconfI s c) P = n := ⟨_, rfl⟩
    rw [hn5] at HFI hF
    have HS := Lib.hid (fun (hl : P3.length ≤ 200) gv w h => rscan_any q gv qv P3 Q hl hQ hq w h)
    have HRE := Lib.hid (fun w h => rreach_any q gv qv P Q hP hQ hq l hv w h)
    have HL := Lib.hid (And.intro hP (And.intro hQ hq))
    have HF := Lib.hid hF
    obtain ⟨qa, qc, rfl⟩ := row_any h.qr
    simp only [pcV, lkV] at HOF HWI HFI HRE
    clear h hc hP3 hn5 hF hP hQ hq hv
    go_enter Tryz.func29, Tryz.ntmps29
    go_wp2_with fail
    refine (HV.out _).mono ?_
    rintro e w1 ⟨rfl, hb1⟩
    have hx1 := blk_below HB.out.2.1 hb1
    have hT1 := HB.out.2.2.below hb1
    have H1 := Lib.hid (And.intro (below_back HB.out.1 hb1) (And.intro hT1 hx1))
    have p0 : w1.cell? ⟨w.heap.size, 0, none⟩ = some (.int .i64 l.own) := blk_cell hx1 0
    have p1 : w1.cell? ⟨w.heap.size, 1, none⟩ = some (.int .i64 l.st) := blk_cell hx1 1
    have p2 : w1.cell? ⟨w.heap.size, 2, none⟩ = some (.int .i64 l.len) := blk_cell hx1 2
    have p3 : w1.cell? ⟨w.heap.size, 3, none⟩ = some (.bool l.ex) := blk_cell hx1 3
    clear hb1 hx1 hT1
    go_wp2_with fail
    refine (HW.out _ H1.out.2.1).mono ?_
    rintro e w2 ⟨rfl, rfl⟩
    by_cases hfd : fdI Q l.own < Q.length
    · have hid : idxI (fun x : Lk => x.own == l.own) Q = ((fdI Q l.own : Nat) : Int) := by unfold idxI fdI at *; rw [if_pos hfd]
      rw [hid]
      have hf := HF.out
      rw [if_pos hfd] at hf
      have HF2 := Lib.hid hf
      have hd : decide ((0 : Int) ≤ ((fdI Q l.own : Nat) : Int)) = true := decide_eq_true (by omega)
      generalize ((fdI Q l.own : Nat) : Int) = m at hd ⊢
      clear hfd hid hf
      go_wp2
      refine bodyPost_ret (v := setV false (.slice none 0 0) 5) (by simp [results, Tryz.results29, go_sem, setV]) rfl ?_
      exact HSM.out _ _ _ rfl H1.out.1 HF2.out
    · have hid : idxI (fun x : Lk => x.own == l.own) Q = -1 := by unfold idxI fdI at *; rw [if_neg hfd]
      rw [hid]
      have hf := HF.out
      rw [if_neg hfd] at hf
      have HF2 := Lib.hid hf
      clear hfd hid hf
      go_wp2_with fail
      refine (HOF.out _).mono ?_
      rintro e w3 ⟨rfl, hb3⟩
      have hx3 := blk_below H1.out.2.2 hb3
      have h3 := (H1.out.2.1.below hb3)
      have hbb3 := below_back H1.out.1 hb3
      clear p0 p1 p2 p3 hb3
      go_wp2_with fail
      refine (HFI.out _ (h3.below (below_alloc (Below.refl _ _) _))).mono ?_
      rintro e w4 ⟨rfl, hb4⟩
      have hx4 := blk_below (blk_new w3 (.cells #[.int .i64 c.own, .int .i64 c.lo, .int .i64 c.hi, .bool c.ex] 91)) hb4
      have hb34 := below_step (below_alloc (Below.refl w3.heap.size w3) (.cells #[.int .i64 c.own, .int .i64 c.lo, .int .i64 c.hi, .bool c.ex] 91)) hb4
      have hT4 := h3.below hb34
      have H4 := Lib.hid (And.intro (below_back hbb3 hb34) (And.intro hT4 (And.intro (blk_below hx3 hb34) hx4)))
      obtain ⟨b9, hb9⟩ : ∃ b9, w3.heap.size = b9 := ⟨_, rfl⟩
      rw [hb9] at hx4 ⊢
      have b0 := later_cell (v := .int .i64 c.own) (blk_cell hx4 0)
      have b1 := later_cell (v := .int .i64 c.lo) (blk_cell hx4 1)
      have b2 := later_cell (v := .int .i64 c.hi) (blk_cell hx4 2)
      have b3 := later_cell (v := .bool c.ex) (blk_cell hx4 3)
      have c0 := later_cell (v := gv) (blk_cell hT4.hdr 0)
      have hs0 : Below w4.heap.size w4 w4 := Below.refl _ _
      clear hb4 hb34 hT4 hx4 hx3 h3 hbb3 hb9
      obtain ⟨fr, hfr⟩ : ∃ b, decide (n5 < 0) = b := ⟨_, rfl⟩
      have hf := HF2.out
      rw [hfr] at hf
      have HF3 := Lib.hid hf
      clear hf
      go_wp2
      clear hfr
      go_region_held3 (fun w' => Below w4.heap.size w4 w') (first | assumption | exact below_drew (by assumption))
        (first | (go_at_call 54; refine (HWI.out _ (pw_own_below H4.out.2.1.gr (by first | assumption | exact below_drew (by assumption)))).mono ?_; rintro e w5 ⟨u11, rfl, hrow5, hb5⟩; have hB5 := below_step (by first | assumption | exact below_drew (by assumption)) hb5; clear hb5))
      obtain ⟨ua, uc, rfl⟩ := row_any hrow5
      have H5 := Lib.hid (And.intro (H4.out.2.1.below hB5) (And.intro (own_base hrow5 (Nat.zero_le _)) (And.intro (below_back H4.out.1 hB5) (blk_below H4.out.2.2.1 hB5))))
      clear b0 b1 b2 b3 c0 hs0 hrow5 hB5
      have z0 : w5.cell? ⟨q, 0, none⟩ = some gv := blk_cell H5.out.1.hdr 0
      have z1 : w5.cell? ⟨q, 1, none⟩ = some (.slice qa Q.length qc) := blk_cell H5.out.1.hdr 1
      have f0 : w5.frozen? ⟨q, 0, none⟩ = false := blk_frozen H5.out.1.hdr 0
      cases fr
      · have hf := HF3.out
        rw [if_neg (by simp)] at hf
        cases wt
        · rw [if_pos rfl] at hf
          have HF4 := Lib.hid hf
          clear hf
          go_wp2
          refine bodyPost_ret (v := setV false (.slice none 0 0) 2) (by simp [results, Tryz.results29, go_sem, setV]) rfl ?_
          exact HSM.out _ _ _ rfl H5.out.2.2.1 HF4.out
        · rw [if_neg (by simp)] at hf
          by_cases hfull : 200 ≤ Q.length
          · rw [if_pos hfull] at hf
            have HF4 := Lib.hid hf
            have hd : decide ((200 : Int) ≤ (Q.length : Int)) = true := decide_eq_true (by omega)
            clear hf hfull
            go_wp2
            refine bodyPost_ret (v := setV false (.slice none 0 0) 18) (by simp [results, Tryz.results29, go_sem, setV]) rfl ?_
            exact HSM.out _ _ _ rfl H5.out.2.2.1 HF4.out
          · rw [if_neg hfull] at hf
            have HF4 := Lib.hid hf
            have HFU := Lib.hid hfull
            have hd : decide ((200 : Int) ≤ (Q.length : Int)) = false := decide_eq_false (by omega)
            have hx5 := H5.out.2.2.2
            have p0 : w5.cell? ⟨w.heap.size, 0, none⟩ = some (.int .i64 l.own) := blk_cell hx5 0
            have p1 : w5.cell? ⟨w.heap.size, 1, none⟩ = some (.int .i64 l.st) := blk_cell hx5 1
            have p2 : w5.cell? ⟨w.heap.size, 2, none⟩ = some (.int .i64 l.len) := blk_cell hx5 2
            have p3 : w5.cell? ⟨w.heap.size, 3, none⟩ = some (.bool l.ex) := blk_cell hx5 3
            clear hf hfull hx5
            go_wp2_with fail
            refine (HRE.out _ H5.out.1).mono ?_
            rintro e w6 ⟨rfl, hb6⟩
            have H6 := Lib.hid (And.intro (H5.out.1.below hb6) (And.intro (below_back H5.out.2.2.1 hb6) (blk_below H5.out.2.2.2 hb6)))
            obtain ⟨rr, hrr⟩ : ∃ b, rreach P Q l = b := ⟨_, rfl⟩
            rw [hrr]
            have hf := HF4.out
            rw [hrr] at hf
            clear hb6 p0 p1 p2 p3 hrr z0 z1 f0
            cases rr
            · rw [if_neg (by simp)] at hf
              have HF5 := Lib.hid hf
              clear hf
              go_wp2
              have hT6 := H6.out.1
              have hx6 := H6.out.2.2
              have hbA := below_drew (below_alloc (Below.refl w6.heap.size w6) (.cells l.cells.toArray 63))
              have hTA := hT6.below hbA
              obtain ⟨v8, w8, hrun, hown8, hg8, hat8⟩ := app4_run 63 60 60 Tryz.underlying60 info85 0 _ _ Q.length (lflat Q) hTA.qr (.slice (some ⟨w6.heap.size, 0, none⟩) 1 1) 1 l.cells (lsrc_one (blk_drew (blk_new w6 (.cells l.cells.toArray 63)))) (by have := HL.out.2.2; omega) (Nat.zero_le _)
              obtain ⟨va, vc, rfl⟩ := row_any hown8
              have hq8 := blk_ty hTA.qr hg8 hTA.hdr (by omega)
              have hgr8 := row_grown hTA.gr hg8 (fun k hk hk' => row_ne hTA.gr hTA.qr (by omega) hk hk')
              have hBk : Keeps w w8 (fun k => k = q ∨ (Value.slice qa Q.length qc).ownBlock = some k) := (Keeps.of_below (below_back H6.out.2.1 hbA) _).grown hg8 (fun k hk => .inl (.inr hk))
              have hsz : w.heap.size ≤ w6.heap.size := H6.out.2.1.size
              have HFI8 := Lib.hid (show RT (w8.setCell ⟨q, 1, none⟩ (.slice va (Q.length + 1) vc)) q gv (.slice va (Q.length + 1) vc) P (Q ++ [l]) ∧ (∀ k, (Value.slice va (Q.length + 1) vc).ownBlock = some k → (Value.slice qa Q.length qc).ownBlock = some k ∨ w.heap.size ≤ k) ∧ Keeps w (w8.setCell ⟨q, 1, none⟩ (.slice va (Q.length + 1) vc)) (fun k => k = q ∨ (Value.slice qa Q.length qc).ownBlock = some k) from
                ⟨⟨blk_put hq8 1 _ rfl, row_far hgr8 hq8 (by omega) 1, by
                    have h1 := row_far (u := .slice va (Q.length + 1) vc) hown8 hq8 (by omega) 1
                    rw [← lflat_snoc] at h1
                    rw [List.length_append]
                    exact h1⟩, fun k hk => by
                  rcases hat8 with h | h
                  · exact .inl (h ▸ hk)
                  · rw [hk] at h
                    injection h with h
                    right
                    rw [h]
                    have : (w6.alloc (.cells l.cells.toArray 63)).drew.heap.size = w6.heap.size + 1 := by simp [World.drew]
                    omega, hBk.set _ _ (.inl (.inl rfl))⟩)
              have y8 : w8.cell? ⟨q, 1, none⟩ = some (.slice qa Q.length qc) := blk_cell hq8 1
              have f8 : w8.frozen? ⟨q, 1, none⟩ = false := blk_frozen hq8 1
              have y1 := later_cell (v := .slice qa Q.length qc) (blk_cell hT6.hdr 1)
              have p0 := later_cell (v := .int .i64 l.own) (blk_cell hx6 0)
              have p1 := later_cell (v := .int .i64 l.st) (blk_cell hx6 1)
              have p2 := later_cell (v := .int .i64 l.len) (blk_cell hx6 2)
              have p3 := later_cell (v := .bool l.ex) (blk_cell hx6 3)
              have hs0 : Below w6.heap.size w6 w6 := Below.refl _ _
              simp only [Lk.cells] at hrun
              clear hT6 hx6 hbA hTA hown8 hg8 hat8 hq8 hgr8 hBk hsz
              refine region_n (fun a' w' => (∃ u : Nat → Value, a' = { tmps := #[.pointer (some ⟨q, 0, none⟩), u 1, u 2, u 3, u 4, u 5, u 6, u 7, u 8, u 9, u 10, u 11, u 12, u 13, u 14, u 15, u 16, u 17, u 18, u 19, u 20, u 21, u 22, u 23, u 24, u 25, u 26, u 27, u 28, u 29, u 30, u 31, u 32, u 33, u 34, u 35, u 36, u 37, u 38, u 39, u 40, u 41, u 42, u 43, u 44, u 45, u 46, u 47, u 48, u 49, u 50, u 51, u 52, u 53, u 54, u 55, u 56, u 57, u 58, u 59, u 60, u 61, u 62, u 63, u 64, u 65, u 66, u 67, u 68, u 69, u 70, u 71, u 72, u 73, u 74], defers := [] }) ∧ ∃ v', RT w' q gv v' P (Q ++ [l]) ∧ (∀ k, v'.ownBlock = some k → (Value.slice qa Q.length qc).ownBlock = some k ∨ w.heap.size ≤ k) ∧ Keeps w w' (fun k => k = q ∨ (Value.slice qa Q.length qc).ownBlock = some k)) ?_ ?_
              · go_region_law (first
                  | (refine step_fits (by rfl) (.tmp 69) (.tmp 71) 60 (by rfl) _ _ (by rfl) (by rfl) hrun ?_))
                all_goals exact normP_mk ⟨frE _ _ _ _ _ _ _ _ _ _ _ _ _ _ _ _ _ _ _ _ _ _ _ _ _ _ _ _ _ _ _ _ _ _ _ _ _ _ _ _ _ _ _ _ _ _ _ _ _ _ _ _ _ _ _ _ _ _ _ _ _ _ _ _ _ _ _ _ _ _ _ _ _ _ _ _, _, HFI8.out⟩
              · rintro a' W9 ⟨⟨u, rfl⟩, v', hT9, ho9, hk9⟩
                have H9 := Lib.hid (And.intro hT9 (And.intro ho9 hk9))
                clear hT9 ho9 hk9 y8 f8 y1 p0 p1 p2 p3 hs0 hrun HFI8
                go_wp2
                refine bodyPost_ret (v := setV false (.slice none 0 0) 0) (by simp [results, Tryz.results29, go_sem, setV]) rfl ?_
                rw [← HF5.out]
                exact ⟨_, rfl, World.ownsRow_nil _ _ _ _, gv, v', H9.out.1, H9.out.2.1, H9.out.2.2⟩
            · rw [if_pos rfl] at hf
              have HF5 := Lib.hid hf
              clear hf
              go_wp2
              refine bodyPost_ret (v := setV false (.slice none 0 0) 8) (by simp [results, Tryz.results29, go_sem, setV]) rfl ?_
              exact HSM.out _ _ _ rfl H6.out.2.1 HF5.out
      · have hf := HF3.out
        rw [if_pos rfl] at hf
        by_cases hl : P3.length ≤ 200
        · rw [if_pos hl] at hf
          have HF4 := Lib.hid hf
          have hd : decide ((200 : Int) < (P3.length : Int)) = false := decide_eq_false (by omega)
          have HSC := Lib.hid (HS.out hl)
          have H6 := Lib.hid (And.intro (H5.out.1.set0 H5.out.2.1) (show Keeps w (w5.setCell ⟨q, 0, none⟩ (.slice ua P3.length uc)) (fun k => k = q) from (Keeps.of_below H5.out.2.2.1 _).set _ _ (.inl rfl)))
          clear hf hl
          go_wp2_with fail
          refine (HSC.out _ _ H6.out.1).mono ?_
          rintro e w7 ⟨u, gv', qv', rfl, hT7, hrow7, ho7, hk7⟩
          have H7 := Lib.hid (And.intro hT7 (And.intro (own_base hrow7 H6.out.2.size) (And.intro (fun k hk => Nat.le_trans H6.out.2.size (ho7 k hk)) (H6.out.2.trans hk7 (fun i hi => .inl hi)))))
          clear hT7 hrow7 ho7 hk7
          go_wp2
          refine bodyPost_ret (v := setV true u 0) (by simp [results, Tryz.results29, go_sem, setV]) rfl ?_
          rw [← HF4.out]
          exact ⟨u, rfl, H7.out.2.1, gv', qv', H7.out.1, fun k hk => .inr (H7.out.2.2.1 k hk), H7.out.2.2.2.mono (fun i hi => .inl hi)⟩
        · rw [if_neg hl] at hf
          have HF4 := Lib.hid hf
          have hd : decide ((200 : Int) < (P3.length : Int)) = true := decide_eq_true (by omega)
          clear hf hl
          go_wp2
          refine bodyPost_ret (v := setV false (.slice none 0 0) 18) (by simp [results, Tryz.results29, go_sem, setV]) rfl ?_
          exact HSM.out _ _ _ rfl H5.out.2.2.1 HF4.out
end
end Go.Proofs.YtoolflmaaooplaaGreat
