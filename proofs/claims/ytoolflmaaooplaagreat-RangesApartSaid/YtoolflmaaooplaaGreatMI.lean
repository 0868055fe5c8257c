/- Ranges: the search for a ring; Set. -/
import Derived.Test.YtoolflmaaooplaaGreatMH
import Derived.Deep.AppendSrc
import Derived.Deep.LoopGhost
import Derived.Scope
namespace Go.Proofs.YtoolflmaaooplaaGreat
section
set_option linter.unusedVariables false
set_option linter.unusedSimpArgs false
open Go.RowKit Go.Maps Go.Sort Go.Lib Go.Shelf Go.Proofs.YtoolflmaaooplaaGreatW.PrintWords Go.Proofs.YtoolflmaaooplaaGreatW.PrintLast Go.Proofs.YtoolflmaaooplaaGreatW.PrintMore FLib

/-- A row of numbers that begins at any place of its block. -/
structure TRow (W : World) (g off c : Nat) (xs : List Int) : Prop where
  le : xs.length ≤ c
  blk : ∃ arr, W.heap[g]? = some (.cells arr 3 (0, 0)) ∧ off + c ≤ arr.size ∧ ∀ i x, xs[i]? = some x → arr[off + i]? = some (.int .i64 x)
theorem TRow.lt {W : World} {g off c : Nat} {xs : List Int} (h : TRow W g off c xs) : g < W.heap.size := by
  obtain ⟨arr, h1, -⟩ := h.blk
  exact blk_lt h1
theorem TRow.move {W W' : World} {g off c : Nat} {xs : List Int} (h : TRow W g off c xs) (e : W'.heap[g]? = W.heap[g]?) : TRow W' g off c xs := by
  obtain ⟨arr, h1, h2⟩ := h.blk
  exact ⟨h.le, arr, e.trans h1, h2⟩
theorem TRow.below {W W' : World} {g off c : Nat} {xs : List Int} (h : TRow W g off c xs) (hb : Below W.heap.size W W') : TRow W' g off c xs := h.move (hb.block g h.lt)
theorem TRow.cell {W : World} {g off c : Nat} {xs : List Int} (h : TRow W g off c xs) {i : Nat} {x : Int} (hx : xs[i]? = some x) : W.cell? ⟨g, off + i, none⟩ = some (.int .i64 x) := by
  obtain ⟨arr, h1, h2, h3⟩ := h.blk
  rw [blk_cell h1]
  exact h3 i x hx
/-- todo[1:] -/
theorem TRow.tail {W : World} {g off c : Nat} {x : Int} {xs : List Int} (h : TRow W g off c (x :: xs)) : TRow W g (if c = 1 then off else off + 1) (c - 1) xs := by
  obtain ⟨arr, h1, h2, h3⟩ := h.blk
  have hl := h.le
  rw [List.length_cons] at hl
  refine ⟨by omega, arr, h1, ?_, fun i y hy => ?_⟩
  · split <;> omega
  · have hi := (List.getElem?_eq_some_iff.1 hy).1
    rw [if_neg (by omega)]
    have := h3 (i + 1) y (by simpa using hy)
    rw [← this]
    congr 1; omega
theorem info_parts3 : ∃ i, Tryz.prog.info? 3 = some i ∧ i.zero = some (.int .i64 0) ∧ i.size = 1 ∧ i.bytes = 8 := by
  have h := info3
  cases e : Tryz.prog.info? 3 with
  | none => rw [e] at h; simp at h
  | some i =>
    rw [e] at h
    simp only [Option.map_some, Option.some.injEq, Prod.mk.injEq] at h
    exact ⟨i, rfl, h.1, h.2.1, h.2.2⟩
/-- append(todo, x) -/
theorem TRow.app {W : World} {g off c : Nat} {xs : List Int} (h : TRow W g off c xs) (hn : xs.length ≤ 1000000) {b : Nat} {x : Int} (hx : W.cell? ⟨b, 0, none⟩ = some (.int .i64 x)) (ty : TypeId) (cc : Nat) :
    ∃ g' off' c' w', (Builtin.append_ #[35, 35] ty #[.slice (some ⟨g, off, none⟩) xs.length c, .slice (some ⟨b, 0, none⟩) 1 cc]).run Tryz.prog W = .ok (.slice (some ⟨g', off', none⟩) (xs.length + 1) c') w' ∧
      TRow w' g' off' c' (xs ++ [x]) ∧ Keeps W w' (fun k => k = g) ∧ (g' = g ∨ g' = W.heap.size) := by
  obtain ⟨i, hi, hz, hs1, hb8⟩ := info_parts3
  obtain ⟨arr, h1, h2, h3⟩ := h.blk
  have hl := h.le
  have hS : Src Tryz.prog i.size 35 (.slice (some ⟨b, 0, none⟩) 1 cc) 1 [.int .i64 x] W := Src.ofSlice W (e' := 3) Tryz.underlying35 ⟨b, 0, none⟩ 1 cc [.int .i64 x] (by rw [hs1]; rfl) (fun j u hu => by
    cases j with
    | zero => rw [addmk, Nat.add_zero]; rw [hx]; simpa using hu
    | succ j => simp at hu) (fun u hu => by rw [List.mem_singleton.1 hu]; rfl)
  by_cases hroom : xs.length + 1 ≤ c
  · refine ⟨g, off, c, _, run_append_room_src W 35 35 ty 3 i Tryz.underlying35 hi g off xs.length c _ 1 _ hS hroom (fun j hj => ?_) (fun j hj => ?_), ?_, keeps_sets W g _ _, .inl rfl⟩
    · have hj0 : j = 0 := by simpa using hj
      rw [hs1, blk_cell h1, hj0, Array.getElem?_eq_getElem (by omega)]
      rfl
    · exact blk_frozen h1 _
    · have hp := blk_put (cs' := arr.setIfInBounds (off + xs.length) (.int .i64 x)) h1 (off + xs.length) (.int .i64 x) rfl
      refine ⟨by simpa using hroom, _, by rw [hs1, Nat.mul_one]; exact hp, by simpa using h2, fun k y hy => ?_⟩
      by_cases hk : k < xs.length
      · rw [List.getElem?_append_left hk] at hy
        rw [Array.getElem?_setIfInBounds_ne (by omega)]
        exact h3 k y hy
      · have hlt := (List.getElem?_eq_some_iff.1 hy).1
        rw [List.length_append, List.length_singleton] at hlt
        have hke : k = xs.length := by omega
        rw [hke, List.getElem?_append_right (Nat.le_refl _), Nat.sub_self] at hy
        have hxy : x = y := by simpa using hy
        rw [hke, Array.getElem?_setIfInBounds_self_of_lt (by omega), hxy]
  · have hold : (Builtin.firstCells i.size xs.length (.slice (some ⟨g, off, none⟩) xs.length c)).run Tryz.prog W.drew = .ok (xs.map encZ).toArray W.drew :=
      run_firstCells_some W.drew i.size xs.length ⟨g, off, none⟩ xs.length c (xs.map encZ) (by simp [hs1]) (fun j u hu => by
        rw [List.getElem?_map] at hu
        cases hxj : xs[j]? with
        | none => rw [hxj] at hu; simp at hu
        | some y =>
          rw [hxj] at hu
          have hu2 : encZ y = u := by simpa using hu
          rw [addmk, ← hu2]
          exact (h.below (pw_below_drewN (Below.refl _ _) 1)).cell hxj)
    have hge := grownCap_ge W (xs.length + 1) c 3
    refine ⟨W.heap.size, 0, _, _, run_append_grow_src W 35 35 ty 3 i (.int .i64 0) Tryz.underlying35 hi hz (some ⟨g, off, none⟩) xs.length c _ hold _ 1 _ hS (by omega) (by omega) (growslice_fits (by omega) (by rw [hb8]; omega)), ?_, ?_, .inr rfl⟩
    · refine ⟨by simpa using hge, _, by simpa using blk_new W.drew _, ?_, fun k y hy => ?_⟩
      · have e1 : (Value.int .i64 0).cells.size = 1 := rfl
        rw [Array.size_append, size_zeroCells, e1]
        simp only [List.size_toArray, List.length_append, List.length_map, List.length_singleton]
        omega
      · have hlt := (List.getElem?_eq_some_iff.1 hy).1
        rw [Nat.zero_add, Array.getElem?_append_left (by simpa using hlt)]
        have e : xs.map encZ ++ [Value.int .i64 x] = (xs ++ [x]).map encZ := by simp [encZ]
        rw [e, List.getElem?_toArray, List.getElem?_map, hy]
        rfl
    · exact Keeps.of_below (below_alloc (pw_below_drewN (Below.refl _ _) 1) _) _
end
section
set_option linter.unusedVariables false
set_option linter.unusedSimpArgs false
open Go.RowKit Go.Maps Go.Sort Go.Lib Go.Shelf Go.Proofs.YtoolflmaaooplaaGreatW.PrintWords Go.Proofs.YtoolflmaaooplaaGreatW.PrintLast Go.Proofs.YtoolflmaaooplaaGreatW.PrintMore FLib

def rdl4 : List Value → Option (DataW Unit × List MemPlace)
  | [.int .i64 o, .int .i64 s, .int .i64 n, .bool b] => some (.agg [.lit (.int .i64 o), .lit (.int .i64 s), .lit (.int .i64 n), .lit (.bool b)], [])
  | _ => none
def RdL : Value → Option (DataW Unit × List MemPlace)
  | .agg cs => rdl4 cs.toList
  | _ => none
def lkD (x : Lk) : DataW Unit := .agg [.lit (.int .i64 x.own), .lit (.int .i64 x.st), .lit (.int .i64 x.len), .lit (.bool x.ex)]
def lk0 : Lk := ⟨0, 0, 0, false⟩
theorem RdL_lk (x : Lk) : RdL (lkV x) = some (lkD x, []) := rfl
theorem RdL_inv {v : Value} {ps : List MemPlace} {x : Lk} (h : RdL v = some (lkD x, ps)) : v = lkV x := by
  unfold RdL at h
  split at h
  rotate_left
  · cases h
  rename_i cs
  unfold rdl4 at h
  split at h
  · rename_i o s n b hcs
    have e : cs = #[.int .i64 o, .int .i64 s, .int .i64 n, .bool b] := Array.ext' hcs
    simp only [lkD, Option.some.injEq, Prod.mk.injEq, DataW.agg.injEq, List.cons.injEq, DataW.lit.injEq, Lit.int.injEq, Lit.bool.injEq, true_and, and_true] at h
    obtain ⟨⟨h1, h2, h3, h4⟩, -⟩ := h
    rw [e, h1, h2, h3, h4]
    rfl
  · cases h
def RdB : Value → Option (DataW Unit × List MemPlace)
  | .bool b => some (.lit (.bool b), [])
  | _ => none
theorem RdB_inv {v : Value} {ps : List MemPlace} {b : Bool} (h : RdB v = some (.lit (.bool b), ps)) : v = .bool b := by
  unfold RdB at h
  split at h
  · simp only [Option.some.injEq, Prod.mk.injEq, DataW.lit.injEq, Lit.bool.injEq] at h
    rw [h.1]
  · cases h
theorem zero4 (w : World) : (zeroValue 4).run Tryz.prog w = .ok (.bool false) w := by kernel_rfl

/-- The map of those who wait. -/
structure WM (W : World) (b : Nat) (f : Int → Option Lk) (n : Nat) : Prop where
  map : ∃ D, W.ownsMap Tryz.prog 3 RdL b n D ∧ (∀ k : Int, D.atKey (.int .i64 k) (lkD lk0) = lkD ((f k).getD lk0)) ∧ ∀ k : Int, has D (.int .i64 k) = (f k).isSome
/-- The map of those who have been seen. -/
structure SM (W : World) (b : Nat) (f : Int → Bool) (n : Nat) : Prop where
  map : ∃ D, W.ownsMap Tryz.prog 3 RdB b n D ∧ ∀ k : Int, D.atKey (.int .i64 k) (.lit (.bool false)) = .lit (.bool (f k))
theorem WM.made (w : World) : WM (w.alloc (.map #[] 0)) w.heap.size (fun _ => none) 0 := ⟨.map [], World.ownsMap_made w Tryz.prog 3 RdL, fun k => by simp [DataW.atKey], fun k => by simp [Maps.has]⟩
theorem SM.made (w : World) : SM (w.alloc (.map #[] 0)) w.heap.size (fun _ => false) 0 := ⟨.map [], World.ownsMap_made w Tryz.prog 3 RdB, fun k => by simp [DataW.atKey]⟩
theorem WM.move {W W' : World} {b n : Nat} {f : Int → Option Lk} (h : WM W b f n) (e : W'.heap[b]? = W.heap[b]?) : WM W' b f n := by
  obtain ⟨D, ⟨es, clock, ho, F', hs, e'⟩, hL⟩ := h.map
  exact ⟨D, ⟨es, clock, e.trans ho, F', hs, e'⟩, hL⟩
theorem SM.move {W W' : World} {b n : Nat} {f : Int → Bool} (h : SM W b f n) (e : W'.heap[b]? = W.heap[b]?) : SM W' b f n := by
  obtain ⟨D, ⟨es, clock, ho, F', hs, e'⟩, hL⟩ := h.map
  exact ⟨D, ⟨es, clock, e.trans ho, F', hs, e'⟩, hL⟩
theorem WM.lt {W : World} {b n : Nat} {f : Int → Option Lk} (h : WM W b f n) : b < W.heap.size := by
  obtain ⟨D, hD, -⟩ := h.map
  exact hD.lt
theorem SM.lt {W : World} {b n : Nat} {f : Int → Bool} (h : SM W b f n) : b < W.heap.size := by
  obtain ⟨D, hD, -⟩ := h.map
  exact hD.lt
theorem WM.run_look {W : World} {b n : Nat} {f : Int → Option Lk} (h : WM W b f n) {k : Int} (hk : (Lit.int .i64 k).wf = true) :
    (Instr.lookup 86 (.map (some b)) (.int .i64 k) true).run Tryz.prog W = .ok (.tuple #[lkV ((f k).getD lk0), .bool (f k).isSome]) W := by
  obtain ⟨D, hD, hL, hH⟩ := h.map
  obtain ⟨v, ps, hrun, hv⟩ := hD.look_ok keyI Tryz.underlying86 (zero23 W) (zd := lkD lk0) (zp := []) rfl (keyI_of hk)
  rw [hL] at hv
  rw [RdL_inv hv, hH] at hrun
  exact hrun
theorem SM.run_look {W : World} {b n : Nat} {f : Int → Bool} (h : SM W b f n) {k : Int} (hk : (Lit.int .i64 k).wf = true) :
    (Instr.lookup 87 (.map (some b)) (.int .i64 k) false).run Tryz.prog W = .ok (.bool (f k)) W := by
  obtain ⟨D, hD, hL⟩ := h.map
  obtain ⟨v, ps, hrun, hv⟩ := hD.lookup keyI Tryz.underlying87 (zero4 W) (zd := .lit (.bool false)) (zp := []) rfl (keyI_of hk)
  rw [hL] at hv
  rw [RdB_inv hv] at hrun
  exact hrun
def wPut (f : Int → Option Lk) (x : Lk) : Int → Option Lk := fun k => if k = x.own then some x else f k
def sPut (f : Int → Bool) (o : Int) : Int → Bool := fun k => if k = o then true else f k
theorem WM.put {W : World} {b n : Nat} {f : Int → Option Lk} (h : WM W b f n) (x : Lk) (hk : (Lit.int .i64 x.own).wf = true) (hn : n ≤ 1000000) :
    ∃ w', (Instr.mapUpdate 86 (.map (some b)) (.int .i64 x.own) (lkV x)).run Tryz.prog W = .ok () w' ∧ WM w' b (wPut f x) (n + 1) ∧ W.grownBy w' (some b) := by
  obtain ⟨D, hD, hL, hH⟩ := h.map
  have ht := World.ownsMap.tidy hD keyI
  obtain ⟨w', hrun, hown, hg⟩ := hD.update (val := lkV x) keyI Tryz.underlying86 (by unfold maxLen; omega) (keyI_of hk) (RdL_lk x)
  refine ⟨w', hrun, ⟨_, hown, fun k => ?_, fun k => ?_⟩, hg⟩
  · unfold wPut
    by_cases hke : k = x.own
    · subst hke; rw [if_pos rfl]; exact atKey_put_same ht.isMap (key_lit hk) _ _
    · rw [if_neg hke, atKey_put_other (key_ne hke), hL]
  · unfold wPut
    by_cases hke : k = x.own
    · subst hke; rw [if_pos rfl]; exact has_put_same ht.isMap (key_lit hk) _
    · rw [if_neg hke, has_put_other (key_ne hke), hH]
theorem SM.put {W : World} {b n : Nat} {f : Int → Bool} (h : SM W b f n) (o : Int) (hk : (Lit.int .i64 o).wf = true) (hn : n ≤ 1000000) :
    ∃ w', (Instr.mapUpdate 87 (.map (some b)) (.int .i64 o) (.bool true)).run Tryz.prog W = .ok () w' ∧ SM w' b (sPut f o) (n + 1) ∧ W.grownBy w' (some b) := by
  obtain ⟨D, hD, hL⟩ := h.map
  have ht := World.ownsMap.tidy hD keyI
  obtain ⟨w', hrun, hown, hg⟩ := hD.update (val := .bool true) keyI Tryz.underlying87 (by unfold maxLen; omega) (keyI_of hk) (show RdB (.bool true) = some (.lit (.bool true), []) from rfl)
  refine ⟨w', hrun, ⟨_, hown, fun k => ?_⟩, hg⟩
  unfold sPut
  by_cases hke : k = o
  · subst hke; rw [if_pos rfl]; exact atKey_put_same ht.isMap (key_lit hk) _ _
  · rw [if_neg hke, atKey_put_other (key_ne hke), hL]
end
section
set_option linter.unusedVariables false
set_option linter.unusedSimpArgs false
open Go.RowKit Go.Maps Go.Sort Go.Lib Go.Shelf Go.Proofs.YtoolflmaaooplaaGreatW.PrintWords Go.Proofs.YtoolflmaaooplaaGreatW.PrintLast Go.Proofs.YtoolflmaaooplaaGreatW.PrintMore FLib

/-- The marks of the ranges that have been walked. -/
def marks (rs : List Nat) : List Deferred := rs.map (fun r => { target := .collected r, args := #[] })
structure MarksOk (W : World) (base : Nat) (rs : List Nat) : Prop where
  nodup : rs.Nodup
  blk : ∀ r ∈ rs, base ≤ r ∧ W.heap[r]? = some (.deferred (some []))
theorem MarksOk.move {W W' : World} {base : Nat} {rs : List Nat} (h : MarksOk W base rs) (hb : ∀ r ∈ rs, W'.heap[r]? = W.heap[r]?) : MarksOk W' base rs := ⟨h.nodup, fun r hr => ⟨(h.blk r hr).1, (hb r hr).trans (h.blk r hr).2⟩⟩
theorem MarksOk.below {W W' : World} {base : Nat} {rs : List Nat} (h : MarksOk W base rs) (hb : Below W.heap.size W W') : MarksOk W' base rs := h.move (fun r hr => hb.block r (blk_lt (h.blk r hr).2))
theorem leaves_marks {P : Program} {F : Fence} {n : Nat} {fn : Func} {tmps : Array Value} {R : Ending → World → Prop} {base : Nat} : ∀ (rs : List Nat) (W : World), MarksOk W base rs → (∀ W', Keeps W W' (fun k => k ∈ rs) → LeavesIn F n P fn tmps R [] .returning W') →
    LeavesInM F n P fn tmps R (marks rs) .returning W
  | [], W, _, hR => hR W (Keeps.refl _ _)
  | r :: rs, W, h, hR => by
    have hnd := List.nodup_cons.1 h.nodup
    refine ⟨by simp, .inl ⟨r, _, rfl, run_takeDeferred (h.blk r (List.mem_cons_self ..)).2, ?_⟩⟩
    have hk : Keeps W (W.putObj r (.deferred none)) (fun k => k = r) := ⟨rfl, rfl, rfl, by simp [World.putObj], fun k _ hk => World.putObj_heap_other hk⟩
    refine leaves_marks rs _ ⟨hnd.2, fun k hk' => ⟨(h.blk k (List.mem_cons_of_mem _ hk')).1, (World.putObj_heap_other (fun e : k = r => hnd.1 (by rw [← e]; exact hk'))).trans (h.blk k (List.mem_cons_of_mem _ hk')).2⟩⟩ (fun W' hk2 => hR W' ?_)
    exact (hk.mono (G := fun k => k ∈ r :: rs) (fun k hk => hk ▸ List.mem_cons_self ..)).trans hk2 (fun k hk => .inl (List.mem_cons_of_mem _ hk))

/-- Who waits, with what. -/
def wtF (l : Lk) (Q : List Lk) : Int → Option Lk := Q.foldl wPut (wPut (fun _ => none) l)
theorem wtF_mem {l : Lk} {Q : List Lk} {o : Int} {x : Lk} (h : wtF l Q o = some x) : x ∈ l :: Q ∧ x.own = o := by
  have key : ∀ (Q : List Lk) (f : Int → Option Lk) (S : List Lk), (∀ o x, f o = some x → x ∈ S ∧ x.own = o) → ∀ o x, Q.foldl wPut f o = some x → x ∈ S ++ Q ∧ x.own = o := by
    intro Q
    induction Q with
    | nil => intro f S hf o x hx; simpa using hf o x hx
    | cons a Q ih =>
      intro f S hf o x hx
      have := ih (wPut f a) (S ++ [a]) (fun o x hx => by
        unfold wPut at hx
        split at hx
        · rename_i he
          have : a = x := by simpa using hx
          subst this
          exact ⟨by simp, he.symm⟩
        · exact ⟨List.mem_append_left _ (hf o x hx).1, (hf o x hx).2⟩) o x hx
      simpa using this
  have := key Q (wPut (fun _ => none) l) [l] (fun o x hx => by
    unfold wPut at hx
    split at hx
    · rename_i he
      have : l = x := by simpa using hx
      subst this
      exact ⟨by simp, he.symm⟩
    · cases hx) o x h
  simpa using this
/-- The owners of the granted locks that a waiting one conflicts with. -/
def cOwn (G : List Ent) (x : Lk) : List Int := (confL G x).map (·.own)
/-- The search, at most so many rounds of it. -/
def srch (G : List Ent) (f : Int → Option Lk) (o0 : Int) : Nat → (Int → Bool) → List Int → Bool
  | 0, _, _ => false
  | _ + 1, _, [] => false
  | k + 1, s, o :: t => match f o with
    | none => srch G f o0 k s t
    | some x => if s o then srch G f o0 k s t else if o0 ∈ cOwn G x then true else srch G f o0 k (sPut s o) (t ++ cOwn G x)
def fuelB (Q : List Lk) : Nat := 1000 * (Q.length + 1) + 1
def deadB (G : List Ent) (Q : List Lk) (l : Lk) : Bool := srch G (wtF l Q) l.own (fuelB Q) (fun _ => false) [l.own]
theorem srch_nil (G : List Ent) (f : Int → Option Lk) (o0 : Int) (k : Nat) (s : Int → Bool) : srch G f o0 k s [] = false := by cases k <;> rfl
/-- How many of those who wait have not been seen. -/
def unseen (s : Int → Bool) (L : List Lk) : Nat := (L.filter (fun x => !s x.own)).length
theorem unseen_put {s : Int → Bool} {L : List Lk} {x : Lk} (hx : x ∈ L) (hs : s x.own = false) : unseen (sPut s x.own) L + 1 ≤ unseen s L := by
  unfold unseen
  have mono : ∀ L : List Lk, (L.filter (fun y => !sPut s x.own y.own)).length ≤ (L.filter (fun y => !s y.own)).length := fun L => by
    induction L with
    | nil => simp
    | cons a L ih =>
      rw [List.filter_cons, List.filter_cons]
      unfold sPut at ih ⊢
      by_cases ha : a.own = x.own
      · simp [ha, hs]; simp [ha] at ih; omega
      · simp only [if_neg ha]
        split <;> simp_all
  induction L with
  | nil => cases hx
  | cons a L ih =>
    rw [List.filter_cons, List.filter_cons]
    by_cases ha : a.own = x.own
    · have h1 : (!sPut s x.own a.own) = false := by simp [sPut, ha]
      have h2 : (!s a.own) = true := by simp [ha, hs]
      rw [h1, h2]
      have := mono L
      simp only [Bool.false_eq_true, if_false, if_true, List.length_cons]
      omega
    · have hxl : x ∈ L := by
        rcases List.mem_cons.1 hx with rfl | h
        · exact absurd rfl ha
        · exact h
      have h1 : (!sPut s x.own a.own) = (!s a.own) := by simp [sPut, ha]
      rw [h1]
      have := ih hxl
      split <;> simp_all
end
section
set_option linter.unusedVariables false
set_option linter.unusedSimpArgs false
open Go.RowKit
theorem stepR_scope {P : Program} {b : Frame} {a : Act} {k : List Item} {cs : List Frame} {w : World} {c : Code} : step P (lone (b.atR a (.code (.scope c) :: k)) cs w) = .next (lone (b.atR a (.code c :: .inScope c :: k)) cs w) :=
  step_lone_go (by simp [stepG, stepG.exec, Frame.atR])
theorem stepR_inScope {P : Program} {b : Frame} {a : Act} {k : List Item} {cs : List Frame} {w : World} {c : Code} : step P (lone (b.atR a (.inScope c :: k)) cs w) = .next (lone (b.atR a k) cs w) :=
  step_lone_go (by simp [stepG, stepG.exec, Frame.atR])
theorem wpIn_scope_straight {P : Program} {F : Fence} {n : Nat} {a : Act} {w : World} {Q : Exit → Act → World → Prop} {c : Code} (h : c.wpIn F n P (Exit.noGoto Q) a w) : (Code.scope c).wpIn F n P Q a w := by
  intro b k cs hro hb hr
  have h0 : (lone (b.atR a (.code (.scope c) :: k)) cs w).fenced P F := fenced_calm hb hr rfl
  obtain ⟨e, a₁, w₁, hq, harr⟩ := h b (.inScope c :: k) cs hro hb hr
  cases e with
  | normal => exact ⟨.normal, a₁, w₁, hq, .head h0 stepR_scope (StepsIn.trans harr (.one (fenced_calm hb hr rfl) stepR_inScope))⟩
  | exit id =>
    have hx : exitTo id (.inScope c :: k) = exitTo id k := by simp [exitTo]
    exact ⟨.exit id, a₁, w₁, hq, fun k' hk => .head h0 stepR_scope (harr.1 k' (by rw [hx]; exact hk)),
      fun hr' hk => let ⟨k₁, h1, h2⟩ := harr.2 hr' (by rw [hx]; exact hk); ⟨k₁, h1, .head h0 stepR_scope h2⟩⟩
  | goto l => exact hq.elim
  | ret => exact ⟨_, a₁, w₁, hq, .of_steps (.one h0 stepR_scope) harr⟩
  | panic ch => exact ⟨_, a₁, w₁, hq, .of_steps (.one h0 stepR_scope) harr⟩
  | outgrown => exact ⟨_, a₁, w₁, hq, .of_steps (.one h0 stepR_scope) harr⟩
/-- A loop whose relation bears a number. -/
theorem wpIn_loop_ghost {P : Program} {F : Fence} {n : Nat} {a : Act} {w : World} {Q : Exit → Act → World → Prop} {c : Code} (I : Nat → Act → World → Prop) (n₀ : Nat) (h₀ : I n₀ a w)
    (round : ∀ j a w, I j a w → c.wpIn F n P (Exit.then (fun a' w' => ∃ j', j' < j ∧ I j' a' w') Q) a w) : (Code.loop c).wpIn F n P Q a w := by
  refine wpIn_loop (fun a w => ∃ j, I j a w) (fun a w => leastOf (fun j => I j a w)) ⟨n₀, h₀⟩ ?_
  intro a w hI
  refine wpIn_mono (round _ a w (leastOf_spec hI).1) ?_
  intro e a' w' hq
  cases e with
  | normal =>
    obtain ⟨n', hlt, hI'⟩ := hq
    exact show (∃ j, I j a' w') ∧ leastOf (fun j => I j a' w') < leastOf (fun j => I j a w) from ⟨⟨n', hI'⟩, Nat.lt_of_le_of_lt ((leastOf_spec ⟨n', hI'⟩).2 n' hI') hlt⟩
  | exit id => exact hq
  | goto l => exact hq
  | ret => exact hq
  | panic ch => exact hq
  | outgrown => exact hq
end
section
set_option linter.unusedVariables false
set_option linter.unusedSimpArgs false
open Go.RowKit Go.Maps Go.Sort Go.Lib Go.Shelf Go.Proofs.YtoolflmaaooplaaGreatW.PrintWords Go.Proofs.YtoolflmaaooplaaGreatW.PrintLast Go.Proofs.YtoolflmaaooplaaGreatW.PrintMore FLib
attribute [local go_sem] Oper.semAt_some
attribute [local go_sem] below_alloc_T below_drew_T below_drewN_T
/-- What holds between two rounds of the search. -/
structure DI (w : World) (p mb : Nat) (qv : Value) (G : List Ent) (Q : List Lk) (l : Lk) (mW mS bT : Nat) (s : Int → Bool) (g off c : Nat) (xs : List Int) (n : Nat) (rs : List Nat) (j : Nat) (W : World) : Prop where
  tg : TG W p mb qv G Q
  lb : W.heap[w.heap.size]? = some (.cells l.cells.toArray 29 (0, 0))
  bb : W.heap[w.heap.size + 1]? = some (.cells #[.bool false] 4 (0, 0))
  below : Below w.heap.size w W
  wm : WM W mW (wtF l Q) (Q.length + 1)
  sm : SM W mS s n
  tb : W.heap[bT]? = some (.cells #[.slice (some ⟨g, off, none⟩) xs.length c] 35 (0, 0))
  tr : TRow W g off c xs
  ne : w.heap.size + 2 ≤ mW ∧ mW < mS ∧ mS < g ∧ mS < bT ∧ g ≠ bT
  mrk : MarksOk W (bT + 1) rs
  mg : ∀ r ∈ rs, r ≠ g
  ans : srch G (wtF l Q) l.own j s xs = deadB G Q l
  meas : xs.length + 1000 * unseen s (l :: Q) ≤ j
  cnt : n + j ≤ fuelB Q
  wf : ∀ o ∈ xs, (Lit.int .i64 o).wf = true
theorem DI.start {w : World} {p mb : Nat} {qv : Value} {G : List Ent} {Q : List Lk} {l : Lk} {mW : Nat} {wr : World} (hl : (Lit.int .i64 l.own).wf = true) (hwm : WM wr mW (wtF l Q) (Q.length + 1)) (hlb : wr.heap[w.heap.size]? = some (.cells l.cells.toArray 29 (0, 0)))
    (hbb : wr.heap[w.heap.size + 1]? = some (.cells #[.bool false] 4 (0, 0))) (hT : TG wr p mb qv G Q) (hB : Below w.heap.size w wr) (hz : mW = w.heap.size + 2) :
    DI w p mb qv G Q l mW wr.heap.size (wr.heap.size + 1 + 1) (fun _ => false) (wr.heap.size + 1) 0 1 [l.own] 0 [] (fuelB Q) (((wr.alloc (.map #[] 0)).alloc (.cells #[.int .i64 l.own] 3)).alloc (.cells #[.slice (some ⟨wr.heap.size + 1, 0, none⟩) 1 1] 35)) := by
  have hb1 := below_alloc (Below.refl wr.heap.size wr) (.map #[] 0)
  have hb2 := below_alloc hb1 (.cells #[.int .i64 l.own] 3)
  have hb3 := below_alloc hb2 (.cells #[.slice (some ⟨wr.heap.size + 1, 0, none⟩) 1 1] 35)
  have h1 : ((wr.alloc (.map #[] 0)).alloc (.cells #[.int .i64 l.own] 3)).heap[wr.heap.size + 1]? = some (.cells #[.int .i64 l.own] 3 (0, 0)) := by simpa using blk_new (wr.alloc (.map #[] 0)) (.cells #[.int .i64 l.own] 3)
  have hml := hwm.lt
  refine ⟨hT.below hb3, blk_below hlb hb3, blk_below hbb hb3, below_back hB hb3, hwm.move (hb3.block _ hml), ?_, ?_, ⟨Nat.le_refl _, _, blk_alloc h1 _, Nat.le_refl _, ?_⟩, by omega, ⟨List.nodup_nil, by simp⟩, by simp, rfl, ?_, by simp, by simpa using hl⟩
  · exact (SM.made wr).move ((Below.heap_alloc _ _ _ (by simp; omega)).trans (Below.heap_alloc _ _ _ (by simp)))
  · simpa using blk_new ((wr.alloc (.map #[] 0)).alloc (.cells #[.int .i64 l.own] 3)) (.cells #[.slice (some ⟨wr.heap.size + 1, 0, none⟩) 1 1] 35)
  · intro i x hx
    cases i with
    | zero => simpa using hx
    | succ i => simp at hx
  · have : unseen (fun _ => false) (l :: Q) = Q.length + 1 := by unfold unseen; simp
    rw [this, List.length_singleton]
    unfold fuelB
    omega
end
section
set_option linter.unusedVariables false
set_option linter.unusedSimpArgs false
open Go.RowKit Go.Maps Go.Sort Go.Lib Go.Shelf Go.Proofs.YtoolflmaaooplaaGreatW.PrintWords Go.Proofs.YtoolflmaaooplaaGreatW.PrintLast Go.Proofs.YtoolflmaaooplaaGreatW.PrintMore FLib

/-- DI without the search's own reckoning. -/
structure DS (w : World) (p mb : Nat) (qv : Value) (G : List Ent) (Q : List Lk) (l : Lk) (mW mS bT : Nat) (s : Int → Bool) (g off c : Nat) (xs : List Int) (n : Nat) (rs : List Nat) (W : World) : Prop where
  tg : TG W p mb qv G Q
  lb : W.heap[w.heap.size]? = some (.cells l.cells.toArray 29 (0, 0))
  bb : W.heap[w.heap.size + 1]? = some (.cells #[.bool false] 4 (0, 0))
  below : Below w.heap.size w W
  wm : WM W mW (wtF l Q) (Q.length + 1)
  sm : SM W mS s n
  tb : W.heap[bT]? = some (.cells #[.slice (some ⟨g, off, none⟩) xs.length c] 35 (0, 0))
  tr : TRow W g off c xs
  ne : w.heap.size + 2 ≤ mW ∧ mW < mS ∧ mS < g ∧ mS < bT ∧ g ≠ bT
  mrk : MarksOk W (bT + 1) rs
  mg : ∀ r ∈ rs, r ≠ g
  wf : ∀ o ∈ xs, (Lit.int .i64 o).wf = true
section
variable {w W : World} {p mb : Nat} {qv : Value} {G : List Ent} {Q : List Lk} {l : Lk} {mW mS bT : Nat} {s : Int → Bool} {g off c : Nat} {xs : List Int} {n : Nat} {rs : List Nat} {j : Nat}
theorem DI.ds (h : DI w p mb qv G Q l mW mS bT s g off c xs n rs j W) : DS w p mb qv G Q l mW mS bT s g off c xs n rs W := ⟨h.tg, h.lb, h.bb, h.below, h.wm, h.sm, h.tb, h.tr, h.ne, h.mrk, h.mg, h.wf⟩
theorem DS.di (h : DS w p mb qv G Q l mW mS bT s g off c xs n rs W) (h1 : srch G (wtF l Q) l.own j s xs = deadB G Q l) (h2 : xs.length + 1000 * unseen s (l :: Q) ≤ j) (h3 : n + j ≤ fuelB Q) : DI w p mb qv G Q l mW mS bT s g off c xs n rs j W :=
  ⟨h.tg, h.lb, h.bb, h.below, h.wm, h.sm, h.tb, h.tr, h.ne, h.mrk, h.mg, h1, h2, h3, h.wf⟩
theorem DS.below' (h : DS w p mb qv G Q l mW mS bT s g off c xs n rs W) {W' : World} (hb : Below W.heap.size W W') : DS w p mb qv G Q l mW mS bT s g off c xs n rs W' :=
  ⟨h.tg.below hb, blk_below h.lb hb, blk_below h.bb hb, below_back h.below hb, h.wm.move (hb.block _ h.wm.lt), h.sm.move (hb.block _ h.sm.lt), blk_below h.tb hb, h.tr.below hb, h.ne, h.mrk.below hb, h.mg, h.wf⟩
/-- The list's cell is given another list. -/
theorem DS.turn (h : DS w p mb qv G Q l mW mS bT s g off c xs n rs W) {W' : World} {g' off' c' : Nat} {xs' : List Int} (hk : Keeps W W' (fun b => b = bT ∨ b = g)) (htb : W'.heap[bT]? = some (.cells #[.slice (some ⟨g', off', none⟩) xs'.length c'] 35 (0, 0))) (htr : TRow W' g' off' c' xs') (hg : g' = g ∨ W.heap.size ≤ g')
    (hw : ∀ o ∈ xs', (Lit.int .i64 o).wf = true) (ho : ∀ k, GOwn p mb qv G k → k < w.heap.size) : DS w p mb qv G Q l mW mS bT s g' off' c' xs' n rs W' := by
  have hne := h.ne
  have hbt := blk_lt h.tb
  have hms := h.sm.lt
  refine ⟨h.tg.keep hk (fun b hb ht => ?_), hk.blk h.lb (by omega), hk.blk h.bb (by omega), ?_, h.wm.move (hk.block _ h.wm.lt (by omega)), h.sm.move (hk.block _ h.sm.lt (by omega)), htb, htr, ?_, h.mrk.move (fun r hr => hk.block r (blk_lt (h.mrk.blk r hr).2) (fun hf => ?_)), fun r hr => ?_, hw⟩
  · have := ho b ht
    omega
  · exact ((Keeps.of_below h.below (fun _ => False)).trans hk (fun i hi => .inr (by omega))).below (Nat.le_refl _) (fun _ h => h.elim)
  · rcases hg with rfl | hg <;> omega
  · have := (h.mrk.blk r hr).1
    rcases hf with rfl | rfl
    · omega
    · exact h.mg _ hr rfl
  · have h1 := blk_lt (h.mrk.blk r hr).2
    rcases hg with rfl | hg
    · exact h.mg r hr
    · omega
/-- o := todo[0]; todo = todo[1:] -/
theorem DS.pop {o : Int} {t : List Int} (h : DS w p mb qv G Q l mW mS bT s g off c (o :: t) n rs W) (ho : ∀ k, GOwn p mb qv G k → k < w.heap.size) :
    DS w p mb qv G Q l mW mS bT s g (if c = 1 then off else off + 1) (c - 1) t n rs (W.setCell ⟨bT, 0, none⟩ (.slice (some ⟨g, if c = 1 then off else off + 1, none⟩) t.length (c - 1))) := by
  have hk : Keeps W (W.setCell ⟨bT, 0, none⟩ (.slice (some ⟨g, if c = 1 then off else off + 1, none⟩) t.length (c - 1))) (fun b => b = bT ∨ b = g) := (Keeps.refl W _).set _ _ (.inl (.inl rfl))
  refine h.turn hk (blk_put h.tb 0 _ rfl) (h.tr.tail.move (Below.heap_setCell _ _ _ _ h.ne.2.2.2.2)) (.inl rfl) (fun x hx => h.wf x (List.mem_cons_of_mem _ hx)) ho
/-- seen[o] = true -/
theorem DS.see (h : DS w p mb qv G Q l mW mS bT s g off c xs n rs W) {W' : World} {o : Int} (hs : SM W' mS (sPut s o) (n + 1)) (hg : W.grownBy W' (some mS)) (ho : ∀ k, GOwn p mb qv G k → k < w.heap.size) : DS w p mb qv G Q l mW mS bT (sPut s o) g off c xs (n + 1) rs W' := by
  have hne := h.ne
  have hk : Keeps W W' (fun b => b = mS) := (Keeps.refl W _).grown hg (fun k hk => .inl (by injection hk with e; exact e.symm))
  refine ⟨h.tg.keep hk (fun b hb ht => by have := ho b ht; omega), hk.blk h.lb (by omega), hk.blk h.bb (by omega), ((Keeps.of_below h.below (fun _ => False)).trans hk (fun i hi => .inr (by omega))).below (Nat.le_refl _) (fun _ h => h.elim), h.wm.move (hk.block _ h.wm.lt (by omega)), hs, hk.blk h.tb (by omega),
    h.tr.move (hk.block _ h.tr.lt (by omega)), h.ne, h.mrk.move (fun r hr => hk.block r (blk_lt (h.mrk.blk r hr).2) (fun hf => ?_)), h.mg, h.wf⟩
  have := (h.mrk.blk r hr).1
  omega
end
end
section
set_option linter.unusedVariables false
set_option linter.unusedSimpArgs false
open Go.RowKit Go.Maps Go.Sort Go.Lib Go.Shelf Go.Proofs.YtoolflmaaooplaaGreatW.PrintWords Go.Proofs.YtoolflmaaooplaaGreatW.PrintLast Go.Proofs.YtoolflmaaooplaaGreatW.PrintMore FLib
section
variable {w W : World} {p mb : Nat} {qv : Value} {G : List Ent} {Q : List Lk} {l : Lk} {mW mS bT : Nat} {s : Int → Bool} {g off c : Nat} {xs : List Int} {n : Nat} {rs : List Nat} {j : Nat}
/-- Blocks that are none of the search's own may turn. -/
theorem DS.keep (h : DS w p mb qv G Q l mW mS bT s g off c xs n rs W) {W' : World} {F : Nat → Prop} (hk : Keeps W W' F) (hF : ∀ k, F k → mS < k ∧ k ≠ bT ∧ k ≠ g ∧ k ∉ rs) (ho : ∀ k, GOwn p mb qv G k → k < w.heap.size) : DS w p mb qv G Q l mW mS bT s g off c xs n rs W' := by
  have hne := h.ne
  have nf : ∀ k, k ≤ mS → ¬ F k := fun k hk' hf => by have := (hF k hf).1; omega
  exact ⟨h.tg.keep hk (fun b hb ht => by have := ho b ht; have := (hF b hb).1; omega), hk.blk h.lb (nf _ (by omega)), hk.blk h.bb (nf _ (by omega)), ((Keeps.of_below h.below (fun _ => False)).trans hk (fun i hi => .inr (by have := (hF i hi).1; omega))).below (Nat.le_refl _) (fun _ h => h.elim),
    h.wm.move (hk.block _ h.wm.lt (nf _ (by omega))), h.sm.move (hk.block _ h.sm.lt (nf _ (Nat.le_refl _))), hk.blk h.tb (fun hf => (hF _ hf).2.1 rfl), h.tr.move (hk.block _ h.tr.lt (fun hf => (hF _ hf).2.2.1 rfl)), h.ne, h.mrk.move (fun r hr => hk.block r (blk_lt (h.mrk.blk r hr).2) (fun hf => (hF r hf).2.2.2 hr)), h.mg, h.wf⟩
/-- One mark more. -/
theorem DS.mark (h : DS w p mb qv G Q l mW mS bT s g off c xs n rs W) {r : Nat} (hr : W.heap[r]? = some (.deferred (some []))) (h1 : bT + 1 ≤ r) (h2 : r ≠ g) (h3 : r ∉ rs) : DS w p mb qv G Q l mW mS bT s g off c xs n (r :: rs) W :=
  ⟨h.tg, h.lb, h.bb, h.below, h.wm, h.sm, h.tb, h.tr, h.ne, ⟨List.nodup_cons.2 ⟨h3, h.mrk.nodup⟩, fun k hk => by
    rcases List.mem_cons.1 hk with rfl | hk
    · exact ⟨h1, hr⟩
    · exact h.mrk.blk k hk⟩, fun k hk => by
    rcases List.mem_cons.1 hk with rfl | hk
    · exact h2
    · exact h.mg k hk, h.wf⟩
end
/-- What holds when k conflicts have been taken: W0 is the world in which the range began, q the iterator's boxes. -/
structure CI (w : World) (p mb : Nat) (qv : Value) (G : List Ent) (Q : List Lk) (l : Lk) (mW mS bT : Nat) (s : Int → Bool) (t : List Int) (n : Nat) (rs : List Nat) (x : Lk) (W0 : World) (q : Nat) (B : Nat → Prop) (k : Nat) (W : World) : Prop where
  st : ∃ g off c, DS w p mb qv G Q l mW mS bT s g off c (t ++ (cOwn G x).take k) n rs W ∧ ¬ B g ∧ g ≠ W0.heap.size ∧ g ≠ W0.heap.size + 1 ∧ g ≠ q ∧ g ≠ q + 1
  rd : RdC p mb qv G Q q x W
  inB : B (W0.heap.size + 1)
  size : W0.heap.size + 2 ≤ W.heap.size
  none : ∀ i, i < k → (cOwn G x)[i]? ≠ some l.own
section
variable {w W W0 : World} {p mb : Nat} {qv : Value} {G : List Ent} {Q : List Lk} {l x : Lk} {mW mS bT : Nat} {s : Int → Bool} {t : List Int} {n : Nat} {rs : List Nat} {q k : Nat} {B : Nat → Prop}
theorem CI.mono (h : CI w p mb qv G Q l mW mS bT s t n rs x W0 q B k W) {B' : Nat → Prop} (hs : ∀ b, B' b → B b) (hb : B' (W0.heap.size + 1)) : CI w p mb qv G Q l mW mS bT s t n rs x W0 q B' k W := by
  obtain ⟨⟨g, off, c, h1, h2, h3⟩, hr, hi, hz, hn⟩ := h
  exact ⟨⟨g, off, c, h1, fun hb => h2 (hs g hb), h3⟩, hr, hb, hz, hn⟩
theorem CI.put (h : CI w p mb qv G Q l mW mS bT s t n rs x W0 q B k W) (ho : ∀ k, GOwn p mb qv G k → k < w.heap.size) (hz0 : mS < W0.heap.size ∧ bT < W0.heap.size ∧ (∀ r ∈ rs, r < W0.heap.size) ∧ q + 1 < W0.heap.size) (o : Obj) :
    CI w p mb qv G Q l mW mS bT s t n rs x W0 q B k (W.putObj (W0.heap.size + 1) o) := by
  obtain ⟨⟨g, off, c, h1, h2, h3⟩, hr, hi, hz, hn⟩ := h
  have hk : Keeps W (W.putObj (W0.heap.size + 1) o) (fun b => b = W0.heap.size + 1) := ⟨rfl, rfl, rfl, by simp [World.putObj], fun b _ hb => World.putObj_heap_other hb⟩
  have hd := h1.keep hk (fun b hb => ⟨by omega, by omega, by omega, fun hm => by have := hz0.2.2.1 b hm; omega⟩) ho
  exact ⟨⟨g, off, c, hd, h2, h3⟩, ⟨hd.tg, (World.putObj_heap_other (by omega)).trans hr.b0, (World.putObj_heap_other (by omega)).trans hr.b1⟩, hi, by simpa [World.putObj] using hz, hn⟩
theorem CI.ext (h : CI w p mb qv G Q l mW mS bT s t n rs x W0 q B k W) {W2 : World} (hb : Below W.heap.size W W2) : CI w p mb qv G Q l mW mS bT s t n rs x W0 q (ext B W W2) k W2 := by
  obtain ⟨⟨g, off, c, h1, h2, h3⟩, hr, hi, hz, hn⟩ := h
  exact ⟨⟨g, off, c, h1.below' hb, fun he => by
    rcases he with he | ⟨he, -⟩
    · exact h2 he
    · have := h1.tr.lt; omega, h3⟩, hr.below hb, .inl hi, Nat.le_trans hz hb.size, hn⟩
end
end
section
set_option linter.unusedVariables false
set_option linter.unusedSimpArgs false
open Go.RowKit Go.Maps Go.Sort Go.Lib Go.Shelf Go.Proofs.YtoolflmaaooplaaGreatW.PrintWords Go.Proofs.YtoolflmaaooplaaGreatW.PrintLast Go.Proofs.YtoolflmaaooplaaGreatW.PrintMore FLib
attribute [local go_sem] Oper.semAt_some
attribute [local go_sem] below_alloc_T below_drew_T below_drewN_T
set_option maxRecDepth 100000 in
theorem wpListIn_run {F : Fence} {m : Nat} {P : Program} {ops : Array Oper} {rest : List Oper} {o : Oper} {a : Act} {w w' : World} {Q : Exit → Act → World → Prop} {v : Value} (hgd : o.guard = none) (s x : Operand) (t : TypeId)
    (ho : o.op = .call { callee := .builtin .append, args := #[s, x], argTypes := #[t, t] }) (u y : Value) (hs : a.eval s = u) (hx : a.eval x = y) (hr : (Builtin.append_ #[t, t] o.type #[u, y]).run P w = .ok v w') (h : wpListIn F m P ops Q rest (a.put o.dst v) w') :
    wpListIn F m P ops Q (o :: rest) a w := by
  refine wpListIn_plain hgd fun K hK => ?_
  unfold Oper.wpIn
  refine ⟨by simp [Oper.about, ho, resolve, Target.leads, Sem.run_pure], ?_⟩
  rw [Oper.semAt_plain F _ _ (by rw [ho]; intro c hc'; cases hc')]
  simp [execOp, ho, resolve, invoke, builtin, hs, hx, hr, Result.andThen]
  exact hK _ _ h
set_option maxRecDepth 100000 in
theorem fr_ex (v0 v1 v2 v3 v4 v5 v6 v7 v8 v9 v10 v11 v12 v13 v14 v15 v16 v17 v18 v19 v20 v21 v22 v23 v24 v25 v26 v27 v28 v29 v30 v31 v32 v33 v34 v35 v36 v37 v38 v39 v40 v41 v42 v43 v44 v45 v46 v47 v48 v49 v50 v51 v52 v53 v54 v55 v56 v57 v58 v59 v60 v61 v62 v63 v64 v65 v66 v67 v68 v69 v70 v71 v72 v73 : Value) (d : List Deferred) : ∃ u : Nat → Value, ({ tmps := #[v0, v1, v2, v3, v4, v5, v6, v7, v8, v9, v10, v11, v12, v13, v14, v15, v16, v17, v18, v19, v20, v21, v22, v23, v24, v25, v26, v27, v28, v29, v30, v31, v32, v33, v34, v35, v36, v37, v38, v39, v40, v41, v42, v43, v44, v45, v46, v47, v48, v49, v50, v51, v52, v53, v54, v55, v56, v57, v58, v59, v60, v61, v62, v63, v64, v65, v66, v67, v68, v69, v70, v71, v72, v73], defers := d } : Act) = { tmps := #[v0, v1, u 2, v3, v4, v5, u 6, u 7, v8, v9, u 10, u 11, u 12, u 13, u 14, u 15, u 16, u 17, u 18, u 19, u 20, u 21, u 22, u 23, u 24, u 25, u 26, u 27, u 28, u 29, u 30, u 31, u 32, u 33, u 34, u 35, u 36, u 37, u 38, u 39, u 40, u 41, u 42, u 43, u 44, u 45, u 46, u 47, u 48, u 49, u 50, u 51, u 52, u 53, u 54, u 55, u 56, u 57, u 58, u 59, u 60, u 61, u 62, u 63, u 64, u 65, u 66, u 67, u 68, u 69, u 70, u 71, u 72, u 73], defers := d } :=
  ⟨fun i => [v0, v1, v2, v3, v4, v5, v6, v7, v8, v9, v10, v11, v12, v13, v14, v15, v16, v17, v18, v19, v20, v21, v22, v23, v24, v25, v26, v27, v28, v29, v30, v31, v32, v33, v34, v35, v36, v37, v38, v39, v40, v41, v42, v43, v44, v45, v46, v47, v48, v49, v50, v51, v52, v53, v54, v55, v56, v57, v58, v59, v60, v61, v62, v63, v64, v65, v66, v67, v68, v69, v70, v71, v72, v73].getD i undef, rfl⟩
theorem fr_ex2 (v0 v1 v2 v3 v4 v5 v6 v7 v8 v9 v10 v11 v12 v13 v14 v15 v16 v17 v18 v19 v20 v21 v22 v23 v24 v25 v26 v27 v28 v29 v30 v31 v32 v33 v34 v35 v36 v37 v38 v39 v40 v41 v42 v43 v44 v45 v46 v47 v48 v49 v50 v51 v52 v53 v54 v55 v56 v57 v58 v59 v60 v61 v62 v63 v64 v65 v66 v67 v68 v69 v70 v71 v72 v73 : Value) (d : List Deferred) : ∃ u : Nat → Value, ({ tmps := #[v0, v1, v2, v3, v4, v5, v6, v7, v8, v9, v10, v11, v12, v13, v14, v15, v16, v17, v18, v19, v20, v21, v22, v23, v24, v25, v26, v27, v28, v29, v30, v31, v32, v33, v34, v35, v36, v37, v38, v39, v40, v41, v42, v43, v44, v45, v46, v47, v48, v49, v50, v51, v52, v53, v54, v55, v56, v57, v58, v59, v60, v61, v62, v63, v64, v65, v66, v67, v68, v69, v70, v71, v72, v73], defers := d } : Act) = { tmps := #[v0, v1, u 2, v3, v4, v5, u 6, u 7, v8, v9, u 10, u 11, u 12, v13, u 14, u 15, u 16, u 17, u 18, u 19, u 20, u 21, u 22, u 23, u 24, u 25, u 26, u 27, u 28, u 29, u 30, u 31, u 32, u 33, u 34, u 35, u 36, u 37, u 38, u 39, u 40, u 41, u 42, u 43, u 44, u 45, u 46, u 47, u 48, u 49, u 50, u 51, u 52, u 53, u 54, u 55, u 56, u 57, u 58, u 59, u 60, u 61, u 62, v63, u 64, u 65, u 66, u 67, u 68, u 69, u 70, u 71, u 72, u 73], defers := d } :=
  ⟨fun i => [v0, v1, v2, v3, v4, v5, v6, v7, v8, v9, v10, v11, v12, v13, v14, v15, v16, v17, v18, v19, v20, v21, v22, v23, v24, v25, v26, v27, v28, v29, v30, v31, v32, v33, v34, v35, v36, v37, v38, v39, v40, v41, v42, v43, v44, v45, v46, v47, v48, v49, v50, v51, v52, v53, v54, v55, v56, v57, v58, v59, v60, v61, v62, v63, v64, v65, v66, v67, v68, v69, v70, v71, v72, v73].getD i undef, rfl⟩
set_option maxRecDepth 100000 in
set_option maxHeartbeats 1000000 in
theorem dead_any (p mb : Nat) (qa : Option Addr) (qc : Nat) (G : List Ent) (Q : List Lk) (hs : GSort G) (hok : GOk G) (hq : Q.length ≤ 200) (l : Lk) (hl : (Lit.int .i64 l.own).wf = true) (hQ : QOk Q) (hll : -1000000 ≤ l.st + l.len ∧ l.st + l.len ≤ 1000000) (hC : ∀ x, (confL G x).length ≤ 1000) (w : World) (h : TG w p mb (.slice qa Q.length qc) G Q) :
    Calls Tryz.prog 28 #[.pointer (some ⟨p, 0, none⟩), lkV l] w fun e w' => e = .returned (.bool (deadB G Q l)) ∧ Below w.heap.size w w' := by
  refine (callsIn_wide (n := 20)).1 ?_
  have hmm := @run_makeMap Tryz.prog
  have HT := Lib.hid h
  have HO := Lib.hid (fun k (hk : GOwn p mb (.slice qa Q.length qc) G k) => h.own_lt hk)
  have HS := Lib.hid hs
  have HOK := Lib.hid hok
  have HL := Lib.hid hl
  have HQ := Lib.hid hq
  have HQK := Lib.hid hQ
  have HLL := Lib.hid (And.intro hll hC)
  clear h hs hok hq hl hQ hll hC
  simp only [lkV]
  refine callsIn_of_wp_marks Tryz.func28 rfl trivial ?_ rfl
  simp only [Tryz.ntmps28, List.size_toArray, List.length_cons, List.length_nil, Nat.reduceAdd, Nat.reduceSub, Array.replicate_succ, Array.replicate_zero, List.push_toArray, List.append_toArray, List.nil_append, List.cons_append]
  have h42 : Fence.wide.fn 43 := trivial
  gi_wp2
  refine abs_in (fun W0 => W0.heap.size = w.heap.size + 2 ∧ W0.heap[w.heap.size]? = some (.cells l.cells.toArray 29 (0, 0)) ∧ W0.heap[w.heap.size + 1]? = some (.cells #[.bool false] 4 (0, 0)) ∧ Below w.heap.size w W0) ⟨by simp, blk_alloc (blk_new w _) _, by simpa [Lk.cells] using blk_new (w.alloc (.cells l.cells.toArray 29)) (.cells #[.bool false] 4), below_alloc (below_alloc (Below.refl _ _) _) _⟩ ?_
  rintro W0 ⟨hz0, hb0, hb1, hB0⟩
  have x0 : (W0.alloc (.map #[] 0)).cell? ⟨w.heap.size, 0, none⟩ = some (.int .i64 l.own) := blk_cell (blk_alloc hb0 (.map #[] 0)) 0
  have x1 : (W0.alloc (.map #[] 0)).cell? ⟨w.heap.size, 1, none⟩ = some (.int .i64 l.st) := blk_cell (blk_alloc hb0 (.map #[] 0)) 1
  have x2 : (W0.alloc (.map #[] 0)).cell? ⟨w.heap.size, 2, none⟩ = some (.int .i64 l.len) := blk_cell (blk_alloc hb0 (.map #[] 0)) 2
  have x3 : (W0.alloc (.map #[] 0)).cell? ⟨w.heap.size, 3, none⟩ = some (.bool l.ex) := blk_cell (blk_alloc hb0 (.map #[] 0)) 3
  obtain ⟨w3, hrun, hwm, hg3⟩ := (WM.made W0).put l HL.out (by omega)
  have hb3 : Below W0.heap.size W0 w3 := ((((Keeps.refl W0 (fun _ => False))).alloc (.map #[] 0)).grown hg3 (fun k hk => .inr (by simp at hk; omega))).below (Nat.le_refl _) (fun _ h => h.elim)
  have hT0 := HT.out.below hB0
  have y1 : w3.cell? ⟨p, 1, none⟩ = some (.slice qa Q.length qc) := pw_cell_below hb3 (blk_cell hT0.hdr 1)
  have H3 := Lib.hid (And.intro hwm (And.intro (hT0.below hb3) (And.intro (blk_below hb0 hb3) (And.intro (blk_below hb1 hb3) (below_back hB0 hb3)))))
  have HZ := Lib.hid hz0
  clear hwm hg3 hz0 hb0 hb1 hB0 hb3 hT0
  simp only [lkV] at hrun
  refine wpIn_scope_straight ?_
  gi_wp2
  obtain ⟨mW, hmW⟩ : ∃ mW, mW = W0.heap.size := ⟨_, rfl⟩
  rw [← hmW] at H3 HZ ⊢
  clear hrun x0 x1 x2 x3 y1
  clear hmW
  gi_loopw [24] (fun t wr => ∃ k : Nat, k ≤ Q.length ∧ t = .int .i64 k ∧ Hid (WM wr mW ((Q.take k).foldl wPut (wPut (fun _ => none) l)) (k + 1)) ∧ Hid (Keeps w3 wr (fun b => b = mW))) (fun t _ => Q.length - (RowKit.intOf t).toNat)
  case atStart => exact ⟨0, Nat.zero_le _, rfl, Lib.hid (by simpa using H3.out.1), Lib.hid (Keeps.refl _ _)⟩
  case round =>
    obtain ⟨k, hk, rfl, hI, hK⟩ := hrel
    have hlr : (Q.length : Int) ≤ 200 := by have := HQ.out; omega
    by_cases hlt : k < Q.length
    · obtain ⟨x, hx⟩ : ∃ x, Q[k]? = some x := ⟨_, List.getElem?_eq_getElem hlt⟩
      have hTr : TG wr p mb (.slice qa Q.length qc) G Q := H3.out.2.1.keep hK.out (fun b hb ht => by have := HT.out.own_lt ht; have := HZ.out; omega)
      rcases row_form hTr.queue with ⟨-, hz⟩ | ⟨g, c, hgc⟩
      · omega
      obtain ⟨rfl, rfl⟩ : qa = some ⟨g, 0, none⟩ ∧ qc = c := by injection hgc with h1 h2 h3; exact ⟨h1, h3⟩
      obtain ⟨p0, p1, p2, p3⟩ := row_lk hTr.queue hx
      have hk0 : (0 : Int) ≤ (k : Int) := by omega
      have hk1 : (k : Int) < (Q.length : Int) := by omega
      obtain ⟨w5, hrun, hwm5, hg5⟩ := (hI.out.move (W' := wr.alloc (.cells x.cells.toArray 29)) (Below.heap_alloc _ _ _ hI.out.lt)).put x (HQK.out x (List.mem_of_getElem? hx)).2 (by omega)
      have hk5 : Keeps w3 w5 (fun b => b = mW) := (hK.out.alloc _).grown hg5 (fun j hj => .inl (by injection hj with h; exact h.symm))
      have e5 : wPut ((Q.take k).foldl wPut (wPut (fun _ => none) l)) x = (Q.take (k + 1)).foldl wPut (wPut (fun _ => none) l) := by
        rw [List.take_add_one, hx, Option.toList_some, List.foldl_append]; rfl
      rw [e5] at hwm5
      have H5 := Lib.hid (And.intro hwm5 (And.intro hk5 hlt))
      clear hx hlt hgc hTr hk hg5 hwm5 hk5 e5
      simp only [lkV, Lk.cells] at hrun
      gi_wp2
      go_roundw
      case rel => exact ⟨k + 1, by have := H5.out; omega, by go_num, Lib.hid H5.out.1, Lib.hid H5.out.2.1⟩
      case measure => have := H5.out.2.2; simp [RowKit.intOf]; omega
    · obtain rfl : k = Q.length := by omega
      have hI2 := hI.out
      rw [List.take_length] at hI2
      have hk2 := hK.out
      have hlb : wr.heap[w.heap.size]? = some (.cells l.cells.toArray 29 (0, 0)) := hk2.blk H3.out.2.2.1 (by have := HZ.out; omega)
      have hbb : wr.heap[w.heap.size + 1]? = some (.cells #[.bool false] 4 (0, 0)) := hk2.blk H3.out.2.2.2.1 (by have := HZ.out; omega)
      have hTr : TG wr p mb (.slice qa Q.length qc) G Q := H3.out.2.1.keep hk2 (fun b hb ht => by have := HT.out.own_lt ht; have := HZ.out; omega)
      have hBw : Below w.heap.size w wr := ((Keeps.of_below H3.out.2.2.2.2 (fun _ => False)).trans hk2 (fun i hi => .inr (by have := HZ.out; omega))).below (Nat.le_refl _) (fun _ h => h.elim)
      have z0 : (wr.alloc (.map #[] 0)).cell? ⟨w.heap.size, 0, none⟩ = some (.int .i64 l.own) := blk_cell (blk_alloc hlb (.map #[] 0)) 0
      have HI := Lib.hid (And.intro hI2 (And.intro hlb (And.intro hbb (And.intro hTr hBw))))
      have HD := Lib.hid (DI.start HL.out hI2 hlb hbb hTr hBw HZ.out)
      clear hI2 hI hK hlt hk hk2 hlb hbb hTr hBw H3
      gi_wp2
      refine wpIn_label ?_
      gi_wp2
      obtain ⟨mS, hmS⟩ : ∃ x, x = wr.heap.size := ⟨_, rfl⟩
      obtain ⟨bT, hbT⟩ : ∃ x, x = wr.heap.size + 1 + 1 := ⟨_, rfl⟩
      generalize ((wr.alloc (.map #[] 0)).alloc (.cells #[.int .i64 l.own] 3)).alloc (.cells #[.slice (some ⟨wr.heap.size + 1, 0, none⟩) 1 1] 35) = W1 at HD ⊢
      rw [← hbT, ← hmS] at HD ⊢
      clear hmS hbT z0
      refine wpIn_loop_ghost (fun j a W => ∃ (s : Int → Bool) (g off c : Nat) (xs : List Int) (n : Nat) (rs : List Nat), (∃ u : Nat → Value, a = { tmps := #[.pointer (some ⟨p, 0, none⟩), .agg #[.int .i64 l.own, .int .i64 l.st, .int .i64 l.len, .bool l.ex], u 2, .pointer (some ⟨w.heap.size, 0, none⟩), .pointer (some ⟨w.heap.size + 1, 0, none⟩), .map (some mW), u 6, u 7, .map (some mS), .pointer (some ⟨bT, 0, none⟩), u 10, u 11, u 12, u 13, u 14, u 15, u 16, u 17, u 18, u 19, u 20, u 21, u 22, u 23, u 24, u 25, u 26, u 27, u 28, u 29, u 30, u 31, u 32, u 33, u 34, u 35, u 36, u 37, u 38, u 39, u 40, u 41, u 42, u 43, u 44, u 45, u 46, u 47, u 48, u 49, u 50, u 51, u 52, u 53, u 54, u 55, u 56, u 57, u 58, u 59, u 60, u 61, u 62, u 63, u 64, u 65, u 66, u 67, u 68, u 69, u 70, u 71, u 72, u 73], defers := marks rs }) ∧ Hid (DI w p mb (.slice qa Q.length qc) G Q l mW mS bT s g off c xs n rs j W)) (fuelB Q) ⟨_, _, _, _, _, _, [], fr_ex _ _ _ _ _ _ _ _ _ _ _ _ _ _ _ _ _ _ _ _ _ _ _ _ _ _ _ _ _ _ _ _ _ _ _ _ _ _ _ _ _ _ _ _ _ _ _ _ _ _ _ _ _ _ _ _ _ _ _ _ _ _ _ _ _ _ _ _ _ _ _ _ _ _ _, HD⟩ ?_
      clear HD
      rintro j a W ⟨s, g, off, c, xs, n, rs, ⟨u, rfl⟩, hD⟩
      cases xs with
      | nil =>
        have tb : W.cell? ⟨bT, 0, none⟩ = some (.slice (some ⟨g, off, none⟩) 0 c) := blk_cell hD.out.tb 0
        have f0 : W.cell? ⟨w.heap.size + 1, 0, none⟩ = some (.bool false) := blk_cell hD.out.bb 0
        have f1 : W.frozen? ⟨w.heap.size + 1, 0, none⟩ = false := blk_frozen hD.out.bb 0
        gi_wp2
        change LeavesInM Fence.wide 20 Tryz.prog Tryz.f28 _ _ (marks rs) .returning _
        have hd := hD.out
        have hans : deadB G Q l = false := by rw [← hd.ans]; exact srch_nil _ _ _ _ _
        have hne := hd.ne
        refine leaves_marks (base := bT + 1) rs _ (hd.mrk.move fun r hr => Below.heap_setCell _ _ _ _ (by have := (hd.mrk.blk r hr).1; show r ≠ w.heap.size + 1; omega)) (fun W' hk => ?_)
        have hbb := blk_put (cs' := #[.bool false]) hd.bb 0 (.bool false) rfl
        have c3 : W'.cell? ⟨w.heap.size + 1, 0, none⟩ = some (.bool false) := blk_cell (hk.blk hbb (fun hm => by have := (hd.mrk.blk _ hm).1; omega)) 0
        have hB2 : Below w.heap.size w (W.setCell ⟨w.heap.size + 1, 0, none⟩ (.bool false)) := ((Keeps.of_below hd.below (fun _ => False)).set ⟨w.heap.size + 1, 0, none⟩ _ (.inr (Nat.le_succ _))).below (Nat.le_refl _) (fun _ h => h.elim)
        have hB3 : Below w.heap.size w W' := ((Keeps.of_below hB2 (fun _ => False)).trans hk (fun i hi => .inr (by have := (hd.mrk.blk i hi).1; omega))).below (Nat.le_refl _) (fun _ h => h.elim)
        refine ⟨.bool false, by simp [results, Tryz.results28, go_sem, c3], by rw [hans], hB3⟩
      | cons o t =>
        have hd := hD.out
        have hS2 := hd.ds.pop HO.out
        have hle := hd.tr.le
        obtain ⟨off2, hoff⟩ : ∃ x, x = (if c = 1 then off else off + 1) := ⟨_, rfl⟩
        obtain ⟨m, hm⟩ : ∃ m, m = t.length + 1 := ⟨_, rfl⟩
        have had : (if c = 1 then some (⟨g, off, none⟩ : Addr) else some ⟨g, off + 1, none⟩) = some ⟨g, off2, none⟩ := by rw [hoff]; split <;> rfl
        rw [← hoff] at hS2
        have hlk := hS2.wm.run_look (hd.wf o (List.mem_cons_self ..))
        have e1 : t.length = m - 1 := by omega
        rw [e1] at hlk
        have tb : W.cell? ⟨bT, 0, none⟩ = some (.slice (some ⟨g, off, none⟩) m c) := by rw [hm]; exact blk_cell hd.tb 0
        have tf : W.frozen? ⟨bT, 0, none⟩ = false := blk_frozen hd.tb 0
        have t0 : W.cell? ⟨g, off, none⟩ = some (.int .i64 o) := hd.tr.cell (i := 0) rfl
        have hm0 : (0 : Int) < (m : Int) := by omega
        have hmc : (m : Int) ≤ (c : Int) := by rw [List.length_cons] at hle; omega
        have HH := Lib.hid (And.intro hd (And.intro hS2 (And.intro hm e1)))
        clear hd hS2 hm hle hD hoff e1
        cases hf : wtF l Q o with
        | none =>
          rw [hf] at hlk
          simp only [Option.getD_none, Option.isSome_none, lk0, lkV] at hlk
          have HF := Lib.hid hf
          clear hf
          gi_wp2
          obtain ⟨hd, hS2, hm, e1⟩ := HH.out
          obtain ⟨j', rfl⟩ : ∃ j', j = j' + 1 := ⟨j - 1, by have := hd.meas; rw [List.length_cons] at this; omega⟩
          have hans := hd.ans
          simp only [srch, HF.out] at hans
          rw [← e1]
          exact ⟨j', by omega, s, g, off2, c - 1, t, n, rs, fr_ex _ _ _ _ _ _ _ _ _ _ _ _ _ _ _ _ _ _ _ _ _ _ _ _ _ _ _ _ _ _ _ _ _ _ _ _ _ _ _ _ _ _ _ _ _ _ _ _ _ _ _ _ _ _ _ _ _ _ _ _ _ _ _ _ _ _ _ _ _ _ _ _ _ _ _, Lib.hid ((hS2.below' (below_alloc (Below.refl _ _) _)).di hans (by have := hd.meas; rw [List.length_cons] at this; omega) (by have := hd.cnt; omega))⟩
        | some x =>
          rw [hf] at hlk
          simp only [Option.getD_some, Option.isSome_some, lkV] at hlk
          have hlk2 := ((HH.out.2.1.below' (below_alloc (Below.refl _ _) (.cells x.cells.toArray 29))).sm).run_look (HH.out.1.wf o (List.mem_cons_self ..))
          rw [HH.out.2.2.2] at hlk2
          simp only [Lk.cells] at hlk2
          cases hso : s o with
          | true =>
            rw [hso] at hlk2
            have HF := Lib.hid (And.intro hf hso)
            clear hf hso
            gi_wp2
            obtain ⟨hd, hS2, hm, e1⟩ := HH.out
            obtain ⟨j', rfl⟩ : ∃ j', j = j' + 1 := ⟨j - 1, by have := hd.meas; rw [List.length_cons] at this; omega⟩
            have hans := hd.ans
            simp only [srch, HF.out.1, HF.out.2, if_true] at hans
            rw [← e1]
            exact ⟨j', by omega, s, g, off2, c - 1, t, n, rs, fr_ex _ _ _ _ _ _ _ _ _ _ _ _ _ _ _ _ _ _ _ _ _ _ _ _ _ _ _ _ _ _ _ _ _ _ _ _ _ _ _ _ _ _ _ _ _ _ _ _ _ _ _ _ _ _ _ _ _ _ _ _ _ _ _ _ _ _ _ _ _ _ _ _ _ _ _, Lib.hid ((hS2.below' (below_alloc (Below.refl _ _) _)).di hans (by have := hd.meas; rw [List.length_cons] at this; omega) (by have := hd.cnt; omega))⟩
          | false =>
            rw [hso] at hlk2
            have hS3 := HH.out.2.1.below' (below_alloc (Below.refl _ _) (.cells x.cells.toArray 29))
            obtain ⟨w6, hrun6, hsm6, hg6⟩ := hS3.sm.put o (HH.out.1.wf o (List.mem_cons_self ..)) (by have := HH.out.1.cnt; have := HQ.out; unfold fuelB at *; omega)
            have hS6 := hS3.see hsm6 hg6 HO.out
            have hx6 := (hg6.block _ (by simp) (by have := hS3.sm.lt; have := HH.out.2.1.sm.lt; intro e; injection e with e; omega)).trans (blk_new (W.setCell ⟨bT, 0, none⟩ (.slice (some ⟨g, off2, none⟩) t.length (c - 1))) (.cells x.cells.toArray 29))
            have ez : (W.setCell ⟨bT, 0, none⟩ (.slice (some ⟨g, off2, none⟩) t.length (c - 1))).heap.size = W.heap.size := by simp [World.setCell]
            rw [ez] at hx6
            have x0 : w6.cell? ⟨W.heap.size, 0, none⟩ = some (.int .i64 x.own) := blk_cell hx6 0
            have x1 : w6.cell? ⟨W.heap.size, 1, none⟩ = some (.int .i64 x.st) := blk_cell hx6 1
            have x2 : w6.cell? ⟨W.heap.size, 2, none⟩ = some (.int .i64 x.len) := blk_cell hx6 2
            have x3 : w6.cell? ⟨W.heap.size, 3, none⟩ = some (.bool x.ex) := blk_cell hx6 3
            have HC := Lib.hid (fun w => (callsIn_wide (n := 19)).2 (conflicts_any p x w))
            have HF := Lib.hid (And.intro hf (And.intro hso hS6))
            rw [HH.out.2.2.2] at hrun6
            simp only [lkV, Lk.cells] at hrun6 HC
            have HX6 := Lib.hid hx6
            clear hf hso hS3 hS6 hsm6 hg6 hx6 ez
            gi_wp2_with fail
            refine (HC.out _).mono ?_
            rintro e w7 ⟨rfl, rfl⟩
            simp only [World.size_alloc]
            clear x0 x1 x2 x3 hrun6 hlk hlk2 tb tf t0 had hm0 hmc HC
            gi_wp2
            have hxl : -1000000 ≤ x.st + x.len ∧ x.st + x.len ≤ 1000000 := by
              have hm := (wtF_mem HF.out.1).1
              rcases List.mem_cons.1 hm with rfl | hm
              · exact HLL.out.1
              · have := (okL_iff.1 (HQK.out x hm).1); omega
            have hS6 := HF.out.2.2
            have hb7 := below_alloc (below_alloc (Below.refl w6.heap.size w6) (.cells #[.pointer (some ⟨p, 0, none⟩)] 24)) (.cells x.cells.toArray 29)
            have hS7 := hS6.below' hb7
            refine abs_in (fun W7 => W7.heap.size = w6.heap.size + 2 ∧ DS w p mb (.slice qa Q.length qc) G Q l mW mS bT (sPut s o) g off2 (c - 1) t (n + 1) rs W7 ∧ RdC p mb (.slice qa Q.length qc) G Q w6.heap.size x W7) ⟨by simp, hS7, ⟨hS7.tg, blk_alloc (blk_new w6 _) _, by simpa [Lk.cells] using blk_new (w6.alloc (.cells #[.pointer (some ⟨p, 0, none⟩)] 24)) (.cells x.cells.toArray 29)⟩⟩ ?_
            rintro W7 ⟨hz7, hS7', hR7⟩
            have HZ7 := Lib.hid (And.intro hz7 (And.intro hS7' (And.intro hR7 hS6)))
            have HXL := Lib.hid hxl
            clear hz7 hS7 hS7' hR7 hS6 hb7 hxl
            refine range_al (m := 20) (by omega) (gf := 63) (ba := #[]) (lb := #[.pointer (some ⟨w6.heap.size, 0, none⟩), .pointer (some ⟨w6.heap.size + 1, 0, none⟩)]) rfl (enters_of Tryz.func63 (by kernel_rfl) rfl)
              (conf_at 19 (by omega) p mb (.slice qa Q.length qc) G Q HS.out HOK.out w6.heap.size x HXL.out W7 HZ7.out.2.2.1) (fun k => encC_size _ k)
              (CI w p mb (.slice qa Q.length qc) G Q l mW mS bT (sPut s o) t (n + 1) rs x W7 w6.heap.size)
              (fun cd W => cd = .ret ∧ l.own ∈ cOwn G x ∧ W.heap[w.heap.size + 1]? = some (.cells #[.bool true] 4 (0, 0)) ∧ Below w.heap.size w W ∧ MarksOk W (bT + 1) rs) ?rd ?inv ?invx ?ext ?start
              (fun k a W => (∃ (b13 : Nat) (u : Nat → Value), a = { tmps := #[.pointer (some ⟨p, 0, none⟩), .agg #[.int .i64 l.own, .int .i64 l.st, .int .i64 l.len, .bool l.ex], u 2, .pointer (some ⟨w.heap.size, 0, none⟩), .pointer (some ⟨w.heap.size + 1, 0, none⟩), .map (some mW), u 6, u 7, .map (some mS), .pointer (some ⟨bT, 0, none⟩), u 10, u 11, u 12, .pointer (some ⟨b13, 0, none⟩), u 14, u 15, u 16, u 17, u 18, u 19, u 20, u 21, u 22, u 23, u 24, u 25, u 26, u 27, u 28, u 29, u 30, u 31, u 32, u 33, u 34, u 35, u 36, u 37, u 38, u 39, u 40, u 41, u 42, u 43, u 44, u 45, u 46, u 47, u 48, u 49, u 50, u 51, u 52, u 53, u 54, u 55, u 56, u 57, u 58, u 59, u 60, u 61, u 62, encVC (confL G x) k, u 64, u 65, u 66, u 67, u 68, u 69, u 70, u 71, u 72, u 73], defers := [] } ∧ (∀ y, (confL G x)[k]? = some y → W.heap[b13]? = some (.cells y.cells.toArray 29 (0, 0))) ∧ W7.heap.size + 2 ≤ b13)) ?fa ?mono ?assign ?body ?done ?stop
            case rd => exact fun B k W hI => hI.rd
            case mono => exact fun B B' k W hI hs _ hb => hI.mono hs hb
            case ext => exact fun B k W1 W2 _ hI hb => hI.ext hb
            case fa =>
              rintro k a W r ob ⟨b13, u', rfl, h5, hz⟩ _
              exact ⟨b13, u', rfl, fun y hy => (World.putObj_heap_other (by omega)).trans (h5 y hy), hz⟩
            case inv =>
              intro B k W r ob hI _
              have h7 := HZ7.out.2.1
              exact hI.put HO.out ⟨h7.sm.lt, blk_lt h7.tb, fun r hr => blk_lt (h7.mrk.blk r hr).2, by have := HZ7.out.1; omega⟩ ob
            case invx =>
              rintro cd W r ob ⟨h1, h2, h3, h4, h5⟩ hlp
              have h7 := HZ7.out.2.1
              have hsz := h7.below.size
              have hbb := blk_lt h7.bb
              exact ⟨h1, h2, (World.putObj_heap_other (by omega)).trans h3, below_put h4 (by omega) ob, h5.move (fun r hr => World.putObj_heap_other (by have := blk_lt (h7.mrk.blk r hr).2; omega))⟩
            case start =>
              intro W hb hz
              have h7 := HZ7.out.2.1
              have hg := h7.tr.lt
              have hg6 := HZ7.out.2.2.2.tr.lt
              exact ⟨⟨g, off2, c - 1, by simpa using h7.below' hb, by omega, by omega, by omega, by omega, by omega⟩, HZ7.out.2.2.1.below hb, .inr rfl, hz, fun i hi => by omega⟩
            case done =>
              rintro B W hI hK
              obtain ⟨hd, hS2, hm, e1⟩ := HH.out
              obtain ⟨j', rfl⟩ : ∃ j', j = j' + 1 := ⟨j - 1, by have := hd.meas; rw [List.length_cons] at this; omega⟩
              obtain ⟨hfx, hso, hS6⟩ := HF.out
              obtain ⟨hxm, hxo⟩ := wtF_mem hfx
              obtain ⟨⟨g', off', c', hds, hnB, n1, n2, n3, n4⟩, hrd, hiB, hsz, hnone⟩ := hI
              have hlen : (cOwn G x).length = (confL G x).length := by simp [cOwn]
              rw [← hlen, List.take_length] at hds
              have hno : l.own ∉ cOwn G x := fun hmem => by
                obtain ⟨i, hi, hiv⟩ := List.getElem_of_mem hmem
                exact hnone i (by omega) (by rw [List.getElem?_eq_getElem hi, hiv])
              have hans := hd.ans
              simp only [srch, hfx, hso, Bool.false_eq_true, if_false, hno] at hans
              have hun := unseen_put hxm (s := s) (by rw [hxo]; exact hso)
              rw [hxo] at hun
              have hc1000 := HLL.out.2 x
              have h7 := HZ7.out.2.1
              exact ⟨j', by omega, sPut s o, g', off', c', t ++ cOwn G x, n + 1, W7.heap.size :: rs, fr_ex _ _ _ _ _ _ _ _ _ _ _ _ _ _ _ _ _ _ _ _ _ _ _ _ _ _ _ _ _ _ _ _ _ _ _ _ _ _ _ _ _ _ _ _ _ _ _ _ _ _ _ _ _ _ _ _ _ _ _ _ _ _ _ _ _ _ _ _ _ _ _ _ _ _ _, Lib.hid ((hds.mark hK (blk_lt h7.tb) (fun e => n1 e.symm) (fun hmm' => by have := blk_lt (h7.mrk.blk _ hmm').2; omega)).di hans (by have := hd.meas; rw [List.length_cons] at this; rw [List.length_append]; omega) (by have := hd.cnt; omega))⟩
            case stop =>
              rintro cd W ⟨rfl, hmem, hcb, hB, hmk⟩ hK
              obtain ⟨hd, hS2, hm, e1⟩ := HH.out
              obtain ⟨j', rfl⟩ : ∃ j', j = j' + 1 := ⟨j - 1, by have := hd.meas; rw [List.length_cons] at this; omega⟩
              obtain ⟨hfx, hso, hS6⟩ := HF.out
              have hans := hd.ans
              simp only [srch, hfx, hso, Bool.false_eq_true, if_false, hmem, if_true] at hans
              have h7 := HZ7.out.2.1
              have hbt := blk_lt h7.tb
              have hne := h7.ne
              have HE := Lib.hid (And.intro hans (And.intro hcb (And.intro hB (And.intro hmk (And.intro hK (And.intro hbt (And.intro hne h7)))))))
              clear hd hS2 hm e1 hfx hso hS6 hans hcb hB hmk hK hbt hne h7 hmem
              gi_wp2
              obtain ⟨hans, hcb, hB, hmk, hK, hbt, hne, h7⟩ := HE.out
              change LeavesInM Fence.wide 20 Tryz.prog Tryz.f28 _ _ (marks (W7.heap.size :: rs)) .returning _
              have hmk2 : MarksOk W (bT + 1) (W7.heap.size :: rs) := ⟨List.nodup_cons.2 ⟨fun hm' => by have := blk_lt (h7.mrk.blk _ hm').2; omega, hmk.nodup⟩, fun r hr => by
                rcases List.mem_cons.1 hr with rfl | hr
                · exact ⟨hbt, hK⟩
                · exact hmk.blk r hr⟩
              refine leaves_marks _ _ hmk2 (fun W' hk => ?_)
              have c3 : W'.cell? ⟨w.heap.size + 1, 0, none⟩ = some (.bool true) := blk_cell (hk.blk hcb (fun hm' => by have := (hmk2.blk _ hm').1; omega)) 0
              have hB3 : Below w.heap.size w W' := ((Keeps.of_below hB (fun _ => False)).trans hk (fun i hi => .inr (by have := (hmk2.blk i hi).1; omega))).below (Nat.le_refl _) (fun _ h => h.elim)
              refine ⟨.bool true, by simp [results, Tryz.results28, go_sem, c3], by rw [← hans], hB3⟩
            case assign =>
              intro k W K hk hzW hK
              rw [encC_eq]
              obtain ⟨y, hy⟩ : ∃ y, (confL G x)[k]? = some y := ⟨_, List.getElem?_eq_getElem hk⟩
              have henc : encVC (confL G x) k = lkV y := by unfold encVC; rw [hy]
              have hK' := fun a h => hK a _ ((Below.refl _ W).alloc (Nat.le_refl _) (.cells y.cells.toArray 29)) h
              rw [henc] at hK' ⊢
              have HK := Lib.hid hK'
              have HX := Lib.hid (And.intro hy hzW)
              clear hK hK' hy henc hzW
              simp only [lkV, Lk.cells] at HK ⊢
              gi_wp2
              obtain ⟨u', hu'⟩ := fr_ex2 _ _ _ _ _ _ _ _ _ _ _ _ _ _ _ _ _ _ _ _ _ _ _ _ _ _ _ _ _ _ _ _ _ _ _ _ _ _ _ _ _ _ _ _ _ _ _ _ _ _ _ _ _ _ _ _ _ _ _ _ _ _ _ _ _ _ _ _ _ _ _ _ _ _ _
              refine HK.out _ ⟨W.heap.size, u', hu', fun y' h => ?_, HX.out.2⟩
              rw [HX.out.1] at h
              cases h
              exact blk_new _ _
            case body =>
              rintro B k W8 a hB hk hI ⟨b13, u', rfl, h13, hz13⟩
              obtain ⟨y, hy⟩ : ∃ y, (confL G x)[k]? = some y := ⟨_, List.getElem?_eq_getElem hk⟩
              have h13' := h13 y hy
              obtain ⟨⟨g', off', c', hds, hnB, n1, n2, n3, n4⟩, hrd, hiB, hsz, hnone⟩ := hI
              have hcy : (cOwn G x)[k]? = some y.own := by unfold cOwn; rw [List.getElem?_map, hy]; rfl
              have y0 : W8.cell? ⟨b13, 0, none⟩ = some (.int .i64 y.own) := blk_cell h13' 0
              have l0 : W8.cell? ⟨w.heap.size, 0, none⟩ = some (.int .i64 l.own) := blk_cell hds.lb 0
              by_cases hyo : y.own = l.own
              · have d0 : (y.own == l.own) = true := by simpa using hyo
                have f0 : W8.cell? ⟨w.heap.size + 1, 0, none⟩ = some (.bool false) := blk_cell hds.bb 0
                have f1 : W8.frozen? ⟨w.heap.size + 1, 0, none⟩ = false := blk_frozen hds.bb 0
                have HB := Lib.hid (And.intro hB (And.intro hds (And.intro hcy hyo)))
                clear hB hk hy h13 h13' hds hnB n1 n2 n3 n4 hrd hiB hsz hnone hcy hyo hz13
                gi_wp2
                obtain ⟨hB, hds, hcy, hyo⟩ := HB.out
                have h7 := HZ7.out.2.1
                have hbb := blk_lt h7.bb
                have hne := hds.ne
                exact ⟨fun b hb => Below.heap_setCell _ _ _ _ (by have := (hB b hb).1; show b ≠ w.heap.size + 1; omega), rfl, hyo ▸ List.mem_of_getElem? hcy, blk_put hds.bb 0 _ rfl,
                  ((Keeps.of_below hds.below (fun _ => False)).set ⟨w.heap.size + 1, 0, none⟩ _ (.inr (Nat.le_succ _))).below (Nat.le_refl _) (fun _ h => h.elim), hds.mrk.move (fun r hr => Below.heap_setCell _ _ _ _ (by have := (hds.mrk.blk r hr).1; show r ≠ w.heap.size + 1; omega))⟩
              · have d0 : (y.own == l.own) = false := by simpa using hyo
                obtain ⟨xs, hxs⟩ : ∃ xs, xs = t ++ (cOwn G x).take k := ⟨_, rfl⟩
                rw [← hxs] at hds
                have hb9 := below_alloc (Below.refl W8.heap.size W8) (.cells #[.int .i64 y.own] 3)
                have hds9 := hds.below' hb9
                have hxl : xs.length ≤ 1000000 := by
                  have h1 := HH.out.1.meas
                  have h2 := HH.out.1.cnt
                  have h3 := HQ.out
                  have h4 := HLL.out.2 x
                  rw [List.length_cons] at h1
                  unfold fuelB at h2
                  rw [hxs, List.length_append, List.length_take]
                  omega
                obtain ⟨g3, off3, c3, w9, hrun9, htr9, hk9, hg9⟩ := hds9.tr.app hxl (b := W8.heap.size) (x := y.own) (blk_cell (blk_new W8 (.cells #[.int .i64 y.own] 3)) 0) 25 1
                have tb : (W8.alloc (.cells #[.int .i64 y.own] 3)).cell? ⟨bT, 0, none⟩ = some (.slice (some ⟨g', off', none⟩) xs.length c') := blk_cell hds9.tb 0
                have tb0 : W8.cell? ⟨bT, 0, none⟩ = some (.slice (some ⟨g', off', none⟩) xs.length c') := blk_cell hds.tb 0
                have tb9 := hk9.blk hds9.tb (fun e => by have := hds9.ne; omega)
                have t9 : w9.cell? ⟨bT, 0, none⟩ = some (.slice (some ⟨g', off', none⟩) xs.length c') := blk_cell tb9 0
                have t9f : w9.frozen? ⟨bT, 0, none⟩ = false := blk_frozen tb9 0
                have HB := Lib.hid (And.intro hB (And.intro hds9 (And.intro htr9 (And.intro hk9 (And.intro hg9 (And.intro hxs (And.intro hcy hyo)))))))
                have HB2 := Lib.hid (And.intro hds (And.intro hnB (And.intro n1 (And.intro n2 (And.intro n3 (And.intro n4 (And.intro hrd (And.intro hiB (And.intro hsz hnone)))))))))
                clear hB hk hy h13 h13' hds hnB n1 n2 n3 n4 hrd hiB hsz hnone hcy hyo hz13 hds9 htr9 hk9 hg9 hxs hb9 hxl tb9
                obtain ⟨N, hN⟩ : ∃ N, N = xs.length := ⟨_, rfl⟩
                rw [← hN] at hrun9 tb tb0 t9
                have HN := Lib.hid hN
                clear hN
                gi_wp2_with (gi_at_builtin; refine wpListIn_run rfl (.tmp 69) (.tmp 72) 35 rfl _ _ rfl rfl hrun9 ?_)
                obtain ⟨hB, hds9, htr9, hk9, hg9, hxs, hcy, hyo⟩ := HB.out
                obtain ⟨hds, hnB, n1, n2, n3, n4, hrd, hiB, hsz, hnone⟩ := HB2.out
                rw [HN.out]
                have h7 := HZ7.out.2.1
                have hbt7 := blk_lt h7.tb
                have hbt8 := blk_lt hds.tb
                have hg8 := hds.tr.lt
                have hne8 := hds.ne
                have hza : (W8.alloc (.cells #[.int .i64 y.own] 3)).heap.size = W8.heap.size + 1 := by simp
                have h67 := HZ7.out.1
                have tb9 := hk9.blk hds9.tb (fun e => by omega)
                have hg3 : g3 ≠ bT := by rcases hg9 with rfl | rfl <;> omega
                have hK : Keeps (W8.alloc (.cells #[.int .i64 y.own] 3)) (w9.setCell ⟨bT, 0, none⟩ (.slice (some ⟨g3, off3, none⟩) (xs.length + 1) c3)) (fun b => b = bT ∨ b = g') :=
                  (hk9.mono (fun _ h => .inr h)).set ⟨bT, 0, none⟩ _ (.inl (.inl rfl))
                have hyw : (Lit.int .i64 y.own).wf = true := by
                  have hm := List.mem_of_getElem? hcy
                  unfold cOwn at hm
                  obtain ⟨z, hz, hzo⟩ := List.mem_map.1 hm
                  unfold confL at hz
                  obtain ⟨e, he, hz2⟩ := List.mem_flatMap.1 hz
                  obtain ⟨sp, -, rfl⟩ := List.mem_map.1 hz2
                  rw [← hzo]
                  exact HOK.out.own e he
                have hD := hds9.turn hK (g' := g3) (off' := off3) (c' := c3) (xs' := xs ++ [y.own]) (by rw [List.length_append, List.length_singleton]; exact blk_put tb9 0 _ rfl) (htr9.move (Below.heap_setCell _ _ _ _ hg3)) (by rcases hg9 with h | h; exact .inl h; exact .inr (by rw [h]; exact Nat.le_refl _)) (fun o ho => by
                  rcases List.mem_append.1 ho with h | h
                  · exact hds9.wf o h
                  · rw [List.mem_singleton.1 h]; exact hyw) HO.out
                have hxe : xs ++ [y.own] = t ++ (cOwn G x).take (k + 1) := by rw [hxs, List.take_add_one, hcy, List.append_assoc]; rfl
                rw [hxe] at hD
                have hlow : ∀ b, b < W8.heap.size → b ≠ bT → b ≠ g' → (w9.setCell ⟨bT, 0, none⟩ (.slice (some ⟨g3, off3, none⟩) (xs.length + 1) c3)).heap[b]? = W8.heap[b]? := fun b h1 h2 h3 =>
                  (hK.block b (by omega) (fun hf => by rcases hf with h | h; exact h2 h; exact h3 h)).trans (Below.heap_alloc _ _ _ (by omega))
                refine ⟨fun b hb => hlow b (hB b hb).2 (by have := (hB b hb).1; omega) (fun e => hnB (e ▸ hb)), ⟨g3, off3, c3, hD, fun hb => ?_, ?_, ?_, ?_, ?_⟩, ⟨hD.tg, ?_, ?_⟩, hiB, ?_, fun i hi => ?_⟩
                · rcases hg9 with h | h
                  · exact hnB (h ▸ hb)
                  · have := (hB _ hb).2; omega
                · rcases hg9 with h | h <;> omega
                · rcases hg9 with h | h <;> omega
                · rcases hg9 with h | h <;> omega
                · rcases hg9 with h | h <;> omega
                · exact (hlow _ (blk_lt hrd.b0) (by have := h7.ne; have := blk_lt HZ7.out.2.2.2.tb; omega) (fun e => n3 e.symm)).trans hrd.b0
                · exact (hlow _ (blk_lt hrd.b1) (by have := h7.ne; have := blk_lt HZ7.out.2.2.2.tb; omega) (fun e => n4 e.symm)).trans hrd.b1
                · have := hK.size; omega
                · rcases Nat.lt_or_ge i k with h | h
                  · exact hnone i h
                  · have e : i = k := by omega
                    rw [e, hcy]
                    intro he
                    injection he with he
                    exact hyo he
end
section
set_option linter.unusedVariables false
set_option linter.unusedSimpArgs false
open Go.RowKit Go.Maps Go.Sort Go.Lib Go.Shelf Go.Proofs.YtoolflmaaooplaaGreatW.PrintWords Go.Proofs.YtoolflmaaooplaaGreatW.PrintLast Go.Proofs.YtoolflmaaooplaaGreatW.PrintMore FLib

/-- A table of T and Q stands at p; of what stood only its own blocks have turned. -/
def After (p mb : Nat) (qv : Value) (w w' : World) (T : Tb) (Q : List Lk) : Prop :=
  ∃ qv' G, TG w' p mb qv' G Q ∧ plainG G = T ∧ (qv'.ownBlock = none ∨ qv'.ownBlock = qv.ownBlock ∨ ∃ k, qv'.ownBlock = some k ∧ w.heap.size ≤ k) ∧ Keeps w w' (PF p mb qv)
theorem After.same {p mb : Nat} {qv : Value} {G : List Ent} {Q : List Lk} {w w' : World} (h : TG w p mb qv G Q) (hb : Below w.heap.size w w') : After p mb qv w w' (plainG G) Q := ⟨qv, G, h.below hb, rfl, .inr (.inl rfl), Keeps.of_below hb _⟩
theorem qvok_own {gq : Option Nat} {qv : Value} {Q : List Lk} (h : QvOk gq qv Q) : qv.ownBlock = none ∨ qv.ownBlock = gq := by
  rcases h with ⟨rfl, -⟩ | ⟨g, c, h1, rfl, -⟩
  · exact .inl rfl
  · exact .inr h1.symm
theorem After.of {p mb : Nat} {qv qv' : Value} {G : List Ent} {T : Tb} {Q : List Lk} {w w' : World} (h : TG w' p mb qv' G Q) (hG : plainG G = T) (hq : QvOk qv.ownBlock qv' Q) (hk : Keeps w w' (PF p mb qv)) : After p mb qv w w' T Q :=
  ⟨qv', G, h, hG, by rcases qvok_own hq with h | h; exact .inl h; exact .inr (.inl h), hk⟩
def tOwn (T : Tb) (x : Lk) : List Int := (tConf T x).map (·.own)
def srchT (T : Tb) (f : Int → Option Lk) (o0 : Int) : Nat → (Int → Bool) → List Int → Bool
  | 0, _, _ => false
  | _ + 1, _, [] => false
  | k + 1, s, o :: t => match f o with
    | none => srchT T f o0 k s t
    | some x => if s o then srchT T f o0 k s t else if o0 ∈ tOwn T x then true else srchT T f o0 k (sPut s o) (t ++ tOwn T x)
def deadT (T : Tb) (Q : List Lk) (l : Lk) : Bool := srchT T (wtF l Q) l.own (fuelB Q) (fun _ => false) [l.own]
theorem plain_own (G : List Ent) (x : Lk) : cOwn G x = tOwn (plainG G) x := by unfold cOwn tOwn; rw [plain_conf]
theorem plain_srch (G : List Ent) (f : Int → Option Lk) (o0 : Int) : ∀ k s t, srch G f o0 k s t = srchT (plainG G) f o0 k s t
  | 0, _, _ => rfl
  | _ + 1, _, [] => rfl
  | k + 1, s, o :: t => by
    cases hf : f o with
    | none =>
      simp only [srch, srchT, hf]
      exact plain_srch G f o0 k s t
    | some x =>
      simp only [srch, srchT, hf]
      rw [plain_own, plain_srch G f o0 k s t, plain_srch G f o0 k (sPut s o) (t ++ tOwn (plainG G) x)]
theorem plain_dead (G : List Ent) (Q : List Lk) (l : Lk) : deadB G Q l = deadT (plainG G) Q l := plain_srch _ _ _ _ _ _
/-- Set: its answers, and the table behind it. -/
def setF (T : Tb) (Q : List Lk) (l : Lk) (wt : Bool) : (Bool × List Int × Int) × (Tb × List Lk) :=
  if okL l.own l.st l.len = false then ((false, [], 34), (T, Q))
  else if fdI Q l.own < Q.length then ((false, [], 5), (T, Q))
  else if (tConf T l).isEmpty = true then
    (if grB T l = true then ((true, (scanF (Q.length + 1) (grT T l) [] Q).1.2, 0), ((scanF (Q.length + 1) (grT T l) [] Q).1.1, (scanF (Q.length + 1) (grT T l) [] Q).2)) else ((false, [], 18), (T, Q)))
  else if wt = false then ((false, [], 2), (T, Q))
  else if 200 ≤ Q.length then ((false, [], 18), (T, Q))
  else if deadT T Q l = true then ((false, [], 8), (T, Q)) else ((false, [], 0), (T, Q ++ [l]))
theorem tConf_len {T : Tb} (h : TOk T) (x : Lk) : (tConf T x).length ≤ tAll T := by
  have key : ∀ T : Tb, (tConf T x).length ≤ tAll T := fun T => by
    induction T with
    | nil => exact Nat.le_refl _
    | cons a T ih =>
      unfold tConf tAll at ih ⊢
      rw [List.flatMap_cons, List.length_append, List.length_map, List.map_cons, List.sum_cons]
      have := List.length_filter_le (confB a.1 x) a.2
      omega
  exact key T
theorem set_any (p mb : Nat) (qv : Value) (G : List Ent) (T : Tb) (Q : List Lk) (hT : TOk T) (hTl : tAll T + 2 * Q.length ≤ 800) (hq : Q.length ≤ 200) (hQ : QOk Q) (hG : plainG G = T) (l : Lk) (wt : Bool) (hwf : (Lit.int .i64 l.own).wf = true) (w : World) (h : TG w p mb qv G Q) :
    Calls Tryz.prog 14 #[.pointer (some ⟨p, 0, none⟩), lkV l, .bool wt] w fun e w' => ∃ u, e = .returned (setV (setF T Q l wt).1.1 u (setF T Q l wt).1.2.2) ∧ w'.ownsRow w.heap.size 3 1 u (setF T Q l wt).1.2.1.length ((setF T Q l wt).1.2.1.map encZ) ∧ After p mb qv w w' (setF T Q l wt).2.1 (setF T Q l wt).2.2 := by
  subst hG
  unfold setF
  have same : ∀ {e : Ending} {w' : World} {n : Int}, e = .returned (setV false (.slice none 0 0) n) → Below w.heap.size w w' → ∃ u, e = .returned (setV false u n) ∧ w'.ownsRow w.heap.size 3 1 u ([] : List Int).length (([] : List Int).map encZ) ∧ After p mb qv w w' (plainG G) Q :=
    fun he hb => ⟨_, he, World.ownsRow_nil _ _ _ _, After.same h hb⟩
  by_cases hv : okL l.own l.st l.len = false
  · rw [if_pos hv]
    exact (set_bad p l wt hv w).mono fun e w' ⟨he, hb⟩ => same he hb
  rw [if_neg hv]
  have hl : okL l.own l.st l.len = true := by simpa using hv
  by_cases hf : fdI Q l.own < Q.length
  · rw [if_pos hf]
    exact (set_busy p mb qv G Q (by omega) l wt hl hf w h).mono fun e w' ⟨he, hb⟩ => same he hb
  rw [if_neg hf]
  by_cases hc : (tConf (plainG G) l).isEmpty = true
  · rw [if_pos hc]
    refine (set_grant p mb qv G Q (plainG G) hT hTl hQ rfl l wt hl hwf hf hc w h).mono fun e w' hp => ?_
    rcases hp with ⟨hg, he, hb⟩ | ⟨hg, u, qv', G', he, hT', hG', hr, hq', hk⟩
    · rw [if_neg (by rw [hg]; simp)]
      exact same he hb
    · rw [if_pos hg]
      exact ⟨u, he, hr, After.of hT' hG' hq' hk⟩
  rw [if_neg hc]
  have hc2 : (confL G l).isEmpty = false := by rw [plain_conf]; simpa using hc
  cases wt with
  | false =>
    rw [if_pos rfl]
    exact (set_again p mb qv G Q hT.gsort hT.gok (by omega) l hl hf hc2 w h).mono fun e w' ⟨he, hb⟩ => same he hb
  | true =>
    rw [if_neg (by simp)]
    by_cases hfull : 200 ≤ Q.length
    · rw [if_pos hfull]
      exact (set_full p mb qv G Q hT.gsort hT.gok (by omega) l hfull hl hf hc2 w h).mono fun e w' ⟨he, hb⟩ => same he hb
    rw [if_neg hfull]
    obtain ⟨qa, qc, rfl⟩ : ∃ qa qc, qv = .slice qa Q.length qc := by
      rcases row_form h.queue with ⟨rfl, hz⟩ | ⟨g, c, rfl⟩
      · exact ⟨none, 0, by rw [hz]⟩
      · exact ⟨_, _, rfl⟩
    have hd := fun w h => dead_any p mb qa qc G Q hT.gsort hT.gok (by omega) l hwf hQ (okL_sum hl) (fun x => by rw [plain_conf]; have := tConf_len hT x; omega) w h
    rw [plain_dead] at hd
    by_cases hdd : deadT (plainG G) Q l = true
    · rw [if_pos hdd]
      rw [hdd] at hd
      exact (set_dead p mb _ G Q hT.gsort hT.gok (by omega) l (by omega) hd hl hf hc2 w h).mono fun e w' ⟨he, hb⟩ => same he hb
    · rw [if_neg hdd]
      rw [show deadT (plainG G) Q l = false by simpa using hdd] at hd
      refine (set_wait p mb _ G Q hT.gsort hT.gok (by omega) l (by omega) hd hl hf hc2 w h).mono fun e w' ⟨qv', he, hT', hqv, hk⟩ => ?_
      exact ⟨_, he, World.ownsRow_nil _ _ _ _, qv', G, hT', rfl, .inr hqv, hk⟩
end
end Go.Proofs.YtoolflmaaooplaaGreat
