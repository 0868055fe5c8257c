/- Timers: the reference. -/
import Derived.Test.YtodgbpggkikbcaaMB
import Derived.Deep.MidRow
import Derived.Maps.AppendAt
import Derived.Deep.DeepMust
namespace Go.Proofs.Ytodgbpggkikbcaa
section
set_option linter.unusedVariables false
set_option linter.unusedSimpArgs false
open Go.RowKit Go.Maps Go.Sort Go.Proofs.YtodgbpggkikbcaaW.PrintWords Go.Proofs.YtodgbpggkikbcaaW.PrintLast Go.Proofs.YtodgbpggkikbcaaW.PrintMore FLib
attribute [local go_sem] below_alloc_T below_drew_T below_drewN_T

/-- The reference's timers by their numbers. -/
abbrev RSt := List (Option TT)
def rcell : Option TT → List Value
  | none => [.bool false, .int .i64 0, .int .i64 0, .int .i64 0, .int .i64 0, .int .i64 0, .int .i64 0, .int .i64 0, .int .i64 0, .int .i64 0]
  | some t => [.bool true, .int .i64 t.own, .int .i64 t.e0, .int .i64 t.e1, .int .i64 t.e2, .int .i64 t.e3, .int .i64 t.e4, .int .i64 t.fst, .int .i64 t.ivl, .int .i64 t.tol]
theorem rcell_len (o : Option TT) : (rcell o).length = 10 := by cases o <;> rfl
def rflat (R : RSt) : List Value := R.flatMap rcell
theorem rflat_len (R : RSt) : (rflat R).length = R.length * 10 := by
  unfold rflat
  induction R with
  | nil => rfl
  | cons o R ih => rw [List.flatMap_cons, List.length_append, ih, rcell_len, List.length_cons]; omega
theorem rflat_get {R : RSt} {i : Nat} {o : Option TT} (h : R[i]? = some o) {j : Nat} (hj : j < 10) : (rflat R)[i * 10 + j]? = (rcell o)[j]? := by
  induction R generalizing i with
  | nil => simp at h
  | cons a R ih =>
    unfold rflat at ih ⊢
    rw [List.flatMap_cons]
    cases i with
    | zero =>
      obtain rfl : a = o := by simpa using h
      rw [List.getElem?_append_left (by rw [rcell_len]; omega)]
      congr 1; omega
    | succ i =>
      rw [List.getElem?_append_right (by rw [rcell_len]; omega), rcell_len]
      rw [← ih (by simpa using h)]
      congr 1; omega
theorem rflat_set {R : RSt} {i : Nat} (hi : i < R.length) (o : Option TT) : rflat (R.set i o) = (rflat R).take (i * 10) ++ rcell o ++ (rflat R).drop (i * 10 + 10) := by
  induction R generalizing i with
  | nil => simp at hi
  | cons a R ih =>
    unfold rflat at ih ⊢
    cases i with
    | zero =>
      simp only [List.set_cons_zero, List.flatMap_cons, Nat.zero_mul, Nat.zero_add, List.take_zero, List.nil_append]
      rw [List.drop_left' (rcell_len a)]
    | succ i =>
      simp only [List.set_cons_succ, List.flatMap_cons]
      rw [ih (by simpa using hi), show (i + 1) * 10 = (rcell a).length + i * 10 by rw [rcell_len]; omega, List.take_length_add_append, show (rcell a).length + i * 10 + 10 = (rcell a).length + (i * 10 + 10) by omega, List.drop_length_add_append]
      simp [List.append_assoc]

/-- A set of the reference. -/
structure RS (W : World) (q : Nat) (v : Value) (clk : Int) (R : RSt) : Prop where
  hdr : W.heap[q]? = some (.cells #[v, .int .i64 clk] 85 (0, 0))
  row : W.ownsRow (q + 1) 96 10 v R.length (rflat R)
  len : R.length ≤ 1000
def ROwn (q : Nat) (v : Value) (k : Nat) : Prop := k = q ∨ v.ownBlock = some k
theorem RS.keep {W W' : World} {q : Nat} {v : Value} {clk : Int} {R : RSt} {F : Nat → Prop} (h : RS W q v clk R) (hk : Keeps W W' F) (hF : ∀ k, F k → ¬ ROwn q v k) : RS W' q v clk R := by
  refine ⟨hk.blk h.hdr (fun hf => hF _ hf (.inl rfl)), ⟨h.row.1, ?_⟩, h.len⟩
  rcases h.row.2 with h2 | ⟨g, cap, cur, h1, h2, h3, h4⟩
  · exact .inl h2
  · exact .inr ⟨g, cap, cur, h1, h2, hk.blk h3 (fun hf => hF _ hf (.inr (by rw [h1]; rfl))), h4⟩
theorem RS.below {W W' : World} {q : Nat} {v : Value} {clk : Int} {R : RSt} (h : RS W q v clk R) (hb : Below W.heap.size W W') : RS W' q v clk R := h.keep (Keeps.of_below hb (fun _ => False)) (fun _ hf => hf.elim)
theorem RS.later {W : World} {q : Nat} {v : Value} {clk : Int} {R : RSt} (h : RS W q v clk R) : ∀ w', Below W.heap.size W w' → RS w' q v clk R := fun _ hb => h.below hb
theorem RS.own_lt {W : World} {q : Nat} {v : Value} {clk : Int} {R : RSt} (h : RS W q v clk R) {k : Nat} (hk : ROwn q v k) : k < W.heap.size := by
  rcases hk with rfl | hk
  · exact blk_lt h.hdr
  · exact (h.row.lt _ hk).2
/-- Where there is a timer's place, the row has a block. -/
theorem RS.open {W : World} {q : Nat} {v : Value} {clk : Int} {R : RSt} (h : RS W q v clk R) (hp : 0 < R.length) : ∃ g cap cur, v = .slice (some ⟨g, 0, none⟩) R.length cap ∧ q < g ∧ W.heap[g]? = some (.cells cur 96 (0, 0)) ∧ R.length ≤ cap ∧ cap ≤ maxLen ∧ cur.size = cap * 10 ∧ cur.toList.take (R.length * 10) = rflat R := by
  rcases h.row.2 with ⟨_, h2⟩ | ⟨g, cap, cur, h1, h2, h3, h4, h5, h6, h7⟩
  · omega
  · exact ⟨g, cap, cur, h1, by omega, h3, h4, h5, h6, h7⟩
theorem rs_cell {W : World} {g : Nat} {cur : Array Value} {R : RSt} (hb : W.heap[g]? = some (.cells cur 96 (0, 0))) (ht : cur.toList.take (R.length * 10) = rflat R) {i : Nat} {o : Option TT} (hi : R[i]? = some o) {j : Nat} (hj : j < 10) : W.cell? ⟨g, i * 10 + j, none⟩ = (rcell o)[j]? := by
  have hlt := (List.getElem?_eq_some_iff.1 hi).1
  rw [blk_cell hb, ← rflat_get hi hj, ← ht, List.getElem?_take, if_pos (by omega)]
  simp
theorem rs_in {W : World} {g : Nat} {cur : Array Value} {R : RSt} (hb : W.heap[g]? = some (.cells cur 96 (0, 0))) (ht : cur.toList.take (R.length * 10) = rflat R) {i : Nat} {o : Option TT} (hi : R[i]? = some o) : W.cell? ⟨g, i * 10, none⟩ = some (.bool o.isSome) := by
  have := rs_cell hb ht hi (j := 0) (by omega)
  rw [Nat.add_zero] at this
  rw [this]
  cases o <;> rfl
/-- Is there a timer with the number? -/
def rhas (R : RSt) (i : Int) : Bool := if 0 ≤ i then ((R[i.toNat]?).join).isSome else false

set_option maxRecDepth 100000 in
theorem rhas_any (q : Nat) (v : Value) (clk : Int) (R : RSt) (i : Int) (w : World) (h : RS w q v clk R) :
    Calls Try.prog 52 #[.pointer (some ⟨q, 0, none⟩), .int .i64 i] w fun e w' => e = .returned (.bool (rhas R i)) ∧ w = w' := by
  have c0 : w.cell? ⟨q, 0, none⟩ = some v := blk_cell h.hdr 0
  by_cases h0 : 0 ≤ i
  · obtain ⟨k, rfl⟩ := Int.eq_ofNat_of_zero_le h0
    by_cases hlt : k < R.length
    · obtain ⟨g, cap, cur, rfl, hqg, hb, hc1, hc2, hc3, ht⟩ := h.open (by omega)
      obtain ⟨o, ho⟩ : ∃ o, R[k]? = some o := ⟨_, List.getElem?_eq_getElem hlt⟩
      have HR := Lib.hid (show rhas R k = o.isSome by unfold rhas; rw [if_pos (by omega)]; simp [ho])
      have c1 := rs_in hb ht ho
      have hlt' : (k : Int) < (R.length : Int) := by omega
      clear hb ht ho
      go_enter Try.func52, Try.ntmps52
      go_wp2
      go_ret
      exact ⟨by rw [HR.out]; rfl, rfl⟩
    · have HR := Lib.hid (show rhas R k = false by unfold rhas; rw [if_pos (by omega)]; simp [List.getElem?_eq_none (Nat.le_of_not_lt hlt)])
      have d1 : decide (k < R.length) = false := decide_eq_false hlt
      have hr := h.row.2
      clear hlt h
      rcases hr with ⟨rfl, hz⟩ | ⟨g, cap, cur, rfl, -⟩
      · rw [hz] at d1
        go_enter Try.func52, Try.ntmps52
        go_wp2
        go_ret
        exact ⟨by rw [HR.out]; rfl, rfl⟩
      · go_enter Try.func52, Try.ntmps52
        go_wp2
        go_ret
        exact ⟨by rw [HR.out]; rfl, rfl⟩
  · have HR := Lib.hid (show rhas R i = false by unfold rhas; rw [if_neg h0])
    have d1 : decide (0 ≤ i) = false := decide_eq_false h0
    clear h0 c0
    go_enter Try.func52, Try.ntmps52
    go_wp2
    go_ret
    exact ⟨by rw [HR.out]; rfl, rfl⟩
end
section
set_option linter.unusedVariables false
set_option linter.unusedSimpArgs false
open Go.RowKit Go.Maps Go.Sort Go.Proofs.YtodgbpggkikbcaaW.PrintWords Go.Proofs.YtodgbpggkikbcaaW.PrintLast Go.Proofs.YtodgbpggkikbcaaW.PrintMore FLib
attribute [local go_sem] below_alloc_T below_drew_T below_drewN_T

theorem rflat_app (A B : RSt) : rflat (A ++ B) = rflat A ++ rflat B := by unfold rflat; rw [List.flatMap_append]
theorem rflat_cons (o : Option TT) (B : RSt) : rflat (o :: B) = rcell o ++ rflat B := rfl
theorem list_at {α : Type} {l : List α} {i : Nat} {x : α} (h : l[i]? = some x) : l = l.take i ++ x :: l.drop (i + 1) ∧ (l.take i).length = i := by
  obtain ⟨hi, e⟩ := List.getElem?_eq_some_iff.1 h
  refine ⟨?_, by rw [List.length_take]; omega⟩
  rw [← e, ← List.drop_eq_getElem_cons hi, List.take_append_drop]
theorem list_set {α : Type} {l : List α} {i : Nat} {x : α} (h : l[i]? = some x) (y : α) : l.set i y = l.take i ++ y :: l.drop (i + 1) := by
  obtain ⟨e, hl⟩ := list_at h
  have hi := (List.getElem?_eq_some_iff.1 h).1
  rw [List.set_eq_take_append_cons_drop, if_pos hi]

/-- Some of a timer's cells have turned. -/
theorem RS.put {W W' : World} {q g cap : Nat} {clk : Int} {R : RSt} (h : RS W q (.slice (some ⟨g, 0, none⟩) R.length cap) clk R) {k : Nat} {o o' : Option TT} (hk : R[k]? = some o) {j : Nat} {vs : List Value} (hj : j + vs.length ≤ 10)
    (ho : rcell o' = (rcell o).take j ++ vs ++ (rcell o).drop (j + vs.length)) (hq : W'.heap[q]? = W.heap[q]?) (hg : ∀ cur, W.heap[g]? = some (.cells cur 96 (0, 0)) → ∃ cur', W'.heap[g]? = some (.cells cur' 96 (0, 0)) ∧ cur'.size = cur.size ∧ cur'.toList = cur.toList.take (k * 10 + j) ++ vs ++ cur.toList.drop (k * 10 + j + vs.length)) :
    RS W' q (.slice (some ⟨g, 0, none⟩) R.length cap) clk (R.set k o') := by
  have hlt := (List.getElem?_eq_some_iff.1 hk).1
  obtain ⟨g', cap', cur, he, hqg, hb, h1, h2, h3, h4⟩ := h.open (by omega)
  obtain ⟨rfl, rfl⟩ : g = g' ∧ cap = cap' := by
    simp only [Value.slice.injEq, Option.some.injEq, Addr.mk.injEq, true_and, and_true] at he
    exact he
  obtain ⟨cur', hb', hs', ht'⟩ := hg cur hb
  refine ⟨hq.trans h.hdr, ?_, by rw [List.length_set]; exact h.len⟩
  refine ⟨by rw [List.length_set, rflat_len, List.length_set], .inr ⟨g, cap, cur', by rw [List.length_set], by omega, hb', by rw [List.length_set]; exact h1, h2, by rw [hs', h3], ?_⟩⟩
  obtain ⟨e1, e2⟩ := list_at hk
  rw [List.length_set, list_set hk, rflat_app, rflat_cons]
  have hcl : cur.toList = rflat (R.take k) ++ (rcell o ++ (rflat (R.drop (k + 1)) ++ cur.toList.drop (R.length * 10))) := by
    have : cur.toList = rflat R ++ cur.toList.drop (R.length * 10) := by rw [← h4, List.take_append_drop]
    rw [e1, rflat_app, rflat_cons] at this
    rw [List.append_assoc, List.append_assoc] at this
    rw [← e1] at this
    exact this
  have hA : (rflat (R.take k)).length = k * 10 := by rw [rflat_len, e2]
  rw [ht', hcl, ho]
  generalize rflat (R.take k) = A at hA
  generalize hB : rflat (R.drop (k + 1)) = B
  generalize cur.toList.drop (R.length * 10) = C
  have hBl : B.length = (R.length - (k + 1)) * 10 := by rw [← hB, rflat_len, List.length_drop]
  rw [show k * 10 + j = A.length + j by omega, List.take_length_add_append, show A.length + j + vs.length = A.length + (j + vs.length) by omega, List.drop_length_add_append]
  have hol := rcell_len o
  generalize rcell o = Z at hol
  rw [List.take_append_of_le_length (l₁ := Z) (by omega), List.drop_append_of_le_length (l₁ := Z) (by omega)]
  have : A ++ Z.take j ++ vs ++ (Z.drop (j + vs.length) ++ (B ++ C)) = (A ++ (Z.take j ++ vs ++ Z.drop (j + vs.length) ++ B)) ++ C := by simp [List.append_assoc]
  rw [this, List.take_left']
  simp only [List.length_append, List.length_take, List.length_drop]
  omega

theorem inr_any (n : Int) (w : World) : Calls Try.prog 53 #[.int .i64 n] w fun e w' => e = .returned (.bool (okT n)) ∧ w = w' := by
  have HE := Lib.hid (show okT n = (decide (0 ≤ n) && decide (n ≤ 1099511627776)) from rfl)
  cases h1 : decide (0 ≤ n)
  · go_enter Try.func53, Try.ntmps53
    go_wp2
    go_ret
    exact ⟨by rw [HE.out, h1]; rfl, rfl⟩
  · cases h2 : decide (n ≤ 1099511627776)
    all_goals
      go_enter Try.func53, Try.ntmps53
      go_wp2
      go_ret
      exact ⟨by rw [HE.out, h1, h2]; rfl, rfl⟩
set_option maxHeartbeats 4000000 in
theorem valid_any (e0 e1 e2 e3 e4 : Int) (w : World) : Calls Try.prog 51 #[evV e0 e1 e2 e3 e4] w fun e w' => e = .returned (.int .i64 (chkE e0 e1 e2 e3)) ∧ Below w.heap.size w w' := by
  have HE := Lib.hid (show chkE e0 e1 e2 e3 = if decide (e0 < 1) || decide (4 < e0) then 17 else if decide (e1 < 0) || decide (e2 < 0) || decide (255 < e2) || decide (e3 < -128) || decide (127 < e3) then 34 else 0 from rfl)
  unfold evV
  cases h1 : decide (e0 < 1) <;> cases h2 : decide (4 < e0)
  · cases h3 : decide (e1 < 0) <;> cases h4 : decide (e2 < 0) <;> cases h5 : decide (255 < e2) <;> cases h6 : decide (e3 < -128) <;> cases h7 : decide (127 < e3)
    all_goals
      go_enter Try.func51, Try.ntmps51
      go_wp2
      go_ret
      exact ⟨by rw [HE.out, h1, h2, h3, h4, h5, h6, h7]; rfl, below_alloc (Below.refl _ _) _⟩
  all_goals
    go_enter Try.func51, Try.ntmps51
    go_wp2
    go_ret
    exact ⟨by rw [HE.out, h1, h2]; rfl, below_alloc (Below.refl _ _) _⟩

def rAt (R : RSt) (i : Int) : Option TT := if 0 ≤ i then (R[i.toNat]?).join else none
theorem rhas_at (R : RSt) (i : Int) : rhas R i = (rAt R i).isSome := by unfold rhas rAt; split <;> rfl
theorem rAt_nat (R : RSt) (k : Nat) : rAt R k = (R[k]?).join := by simp [rAt]
theorem rAt_some {R : RSt} {i : Int} {t : TT} (h : rAt R i = some t) : ∃ k : Nat, i = k ∧ R[k]? = some (some t) := by
  unfold rAt at h
  split at h
  · rename_i h0
    obtain ⟨k, rfl⟩ := Int.eq_ofNat_of_zero_le h0
    refine ⟨k, rfl, ?_⟩
    rw [Int.toNat_natCast] at h
    cases hk : R[k]? with
    | none => rw [hk] at h; cases h
    | some o => rw [hk] at h; exact congrArg some h
  · cases h
def armO : Option TT → Bool
  | none => false
  | some t => t.fst != 0
theorem rs_t {W : World} {g : Nat} {cur : Array Value} {R : RSt} (hb : W.heap[g]? = some (.cells cur 96 (0, 0))) (ht : cur.toList.take (R.length * 10) = rflat R) {i : Nat} {t : TT} (hi : R[i]? = some (some t)) :
    W.cell? ⟨g, i * 10 + 1, none⟩ = some (.int .i64 t.own) ∧ W.cell? ⟨g, i * 10 + 2, none⟩ = some (.int .i64 t.e0) ∧ W.cell? ⟨g, i * 10 + 3, none⟩ = some (.int .i64 t.e1) ∧ W.cell? ⟨g, i * 10 + 4, none⟩ = some (.int .i64 t.e2) ∧ W.cell? ⟨g, i * 10 + 5, none⟩ = some (.int .i64 t.e3) ∧ W.cell? ⟨g, i * 10 + 6, none⟩ = some (.int .i64 t.e4) ∧
    W.cell? ⟨g, i * 10 + 7, none⟩ = some (.int .i64 t.fst) ∧ W.cell? ⟨g, i * 10 + 8, none⟩ = some (.int .i64 t.ivl) ∧ W.cell? ⟨g, i * 10 + 9, none⟩ = some (.int .i64 t.tol) :=
  ⟨rs_cell hb ht hi (by omega), rs_cell hb ht hi (by omega), rs_cell hb ht hi (by omega), rs_cell hb ht hi (by omega), rs_cell hb ht hi (by omega), rs_cell hb ht hi (by omega), rs_cell hb ht hi (by omega), rs_cell hb ht hi (by omega), rs_cell hb ht hi (by omega)⟩

set_option maxRecDepth 100000 in
theorem rarmed_any (q : Nat) (v : Value) (clk : Int) (R : RSt) (k : Nat) (o : Option TT) (hk : R[k]? = some o) (w : World) (h : RS w q v clk R) :
    Calls Try.prog 42 #[.pointer (some ⟨q, 0, none⟩), .int .i64 k] w fun e w' => e = .returned (.bool (armO o)) ∧ w = w' := by
  have c0 : w.cell? ⟨q, 0, none⟩ = some v := blk_cell h.hdr 0
  have hlt := (List.getElem?_eq_some_iff.1 hk).1
  obtain ⟨g, cap, cur, rfl, hqg, hb, hc1, hc2, hc3, ht⟩ := h.open (by omega)
  have c1 := rs_in hb ht hk
  have hlt' : (k : Int) < (R.length : Int) := by omega
  have h0 : (0 : Int) ≤ k := by omega
  cases o with
  | none =>
    simp only [Option.isSome_none] at c1
    clear hb ht hk h
    go_enter Try.func42, Try.ntmps42
    go_wp2
    go_ret
    exact ⟨rfl, rfl⟩
  | some t =>
    simp only [Option.isSome_some] at c1
    have c7 := (rs_t hb ht hk).2.2.2.2.2.2.1
    clear hb ht hk h
    go_enter Try.func42, Try.ntmps42
    go_wp2
    go_ret
    exact ⟨rfl, rfl⟩
def specT : Option TT → Value
  | none => .agg #[.int .i64 0, .int .i64 0, .int .i64 0]
  | some t => .agg #[.int .i64 t.fst, .int .i64 t.ivl, .int .i64 t.tol]

set_option maxRecDepth 100000 in
theorem rget_any (q : Nat) (v : Value) (clk : Int) (R : RSt) (i : Int) (w : World) (h : RS w q v clk R) :
    Calls Try.prog 37 #[.pointer (some ⟨q, 0, none⟩), .int .i64 i] w fun e w' => e = .returned (.tuple #[specT (rAt R i), .int .i64 (if (rAt R i).isSome then 0 else 3)]) ∧ Below w.heap.size w w' := by
  have HH := Lib.hid (fun w' hb => rhas_any q v clk R i w' (h.below hb))
  rw [rhas_at] at HH
  have c0 := later_cell (v := v) (blk_cell h.hdr 0)
  have hs := Below.refl w.heap.size w
  cases ho : rAt R i with
  | none =>
    rw [ho] at HH
    simp only [Option.isSome_none] at HH
    clear h
    go_enter Try.func37, Try.ntmps37
    go_wp2_with fail
    refine (HH.out _ (by go_simp)).mono ?_
    rintro e w1 ⟨rfl, rfl⟩
    go_wp2
    refine bodyPost_ret (v := .tuple #[specT none, .int .i64 3]) (by simp [results, Try.results37, go_sem, specT]) rfl ?_
    exact ⟨rfl, below_alloc (Below.refl _ _) _⟩
  | some t =>
    rw [ho] at HH
    simp only [Option.isSome_some] at HH
    obtain ⟨k, rfl, hk⟩ := rAt_some ho
    have hlt := (List.getElem?_eq_some_iff.1 hk).1
    obtain ⟨g, cap, cur, rfl, hqg, hb, hc1, hc2, hc3, ht⟩ := h.open (by omega)
    obtain ⟨-, -, -, -, -, -, t7, t8, t9⟩ := rs_t hb ht hk
    have c7 := later_cell t7
    have c8 := later_cell t8
    have c9 := later_cell t9
    have hlt' : (k : Int) < (R.length : Int) := by omega
    have h0 : (0 : Int) ≤ k := by omega
    clear hb ht hk h t7 t8 t9 ho hlt
    go_enter Try.func37, Try.ntmps37
    go_wp2_with fail
    refine (HH.out _ (by go_simp)).mono ?_
    rintro e w1 ⟨rfl, rfl⟩
    go_wp2
    refine bodyPost_ret (v := .tuple #[specT (some t), .int .i64 0]) (by simp [results, Try.results37, go_sem, specT]) rfl ?_
    exact ⟨rfl, below_alloc (Below.refl _ _) _⟩
end
section
set_option linter.unusedVariables false
set_option linter.unusedSimpArgs false
open Go.RowKit Go.Maps Go.Sort Go.Proofs.YtodgbpggkikbcaaW.PrintWords Go.Proofs.YtodgbpggkikbcaaW.PrintLast Go.Proofs.YtodgbpggkikbcaaW.PrintMore FLib
attribute [local go_sem] below_alloc_T below_drew_T below_drewN_T

theorem keeps_setCells (w : World) (g o : Nat) (vs : List Value) : Keeps w (w.setCells g o vs) (fun k => k = g) := by
  obtain ⟨h1, h2, h3, h4⟩ := setCells_same g vs o w
  exact ⟨h1, h2, h3, by rw [h4]; exact Nat.le_refl _, fun k _ hk => setCells_far vs o k hk⟩
theorem rs_there {W : World} {g cap : Nat} {cur : Array Value} {ty : Nat} (hb : W.heap[g]? = some (.cells cur ty (0, 0))) {o n : Nat} (ho : o + n ≤ cur.size) : W.there g o n := fun j hj =>
  ⟨by rw [blk_cell hb, Array.getElem?_eq_getElem (by omega)]; rfl, blk_frozen hb _⟩
def zcells : Array Value := #[.bool false, .int .i64 0, .int .i64 0, .int .i64 0, .int .i64 0, .int .i64 0, .int .i64 0, .int .i64 0, .int .i64 0, .int .i64 0]
def rdelR (R : RSt) (i : Int) : RSt := match rAt R i with | some _ => R.set i.toNat none | none => R

set_option maxRecDepth 100000 in
theorem rdel_any (q : Nat) (v : Value) (clk : Int) (R : RSt) (i : Int) (w : World) (h : RS w q v clk R) :
    Calls Try.prog 38 #[.pointer (some ⟨q, 0, none⟩), .int .i64 i] w fun e w' => e = .returned (.int .i64 (if (rAt R i).isSome then 0 else 3)) ∧ RS w' q v clk (rdelR R i) ∧ Keeps w w' (ROwn q v) := by
  have HH := Lib.hid (rhas_any q v clk R i w h)
  rw [rhas_at] at HH
  have HS := Lib.hid h
  have c0 : w.cell? ⟨q, 0, none⟩ = some v := blk_cell h.hdr 0
  have HR := Lib.hid (show rdelR R i = match rAt R i with | some _ => R.set i.toNat none | none => R from rfl)
  cases ho : rAt R i with
  | none =>
    rw [ho] at HH HR
    rw [HR.out]
    simp only [Option.isSome_none] at HH
    clear h
    go_enter Try.func38, Try.ntmps38
    go_wp2_with fail
    refine HH.out.mono ?_
    rintro e w1 ⟨rfl, rfl⟩
    go_wp2
    go_ret
    exact ⟨rfl, HS.out, Keeps.refl _ _⟩
  | some t =>
    rw [ho] at HH HR
    rw [HR.out]
    simp only [Option.isSome_some] at HH
    obtain ⟨k, rfl, hk⟩ := rAt_some ho
    have hlt := (List.getElem?_eq_some_iff.1 hk).1
    obtain ⟨g, cap, cur, rfl, hqg, hb, hc1, hc2, hc3, ht⟩ := h.open (by omega)
    have hth : w.there g (k * 10) 10 := rs_there (cap := cap) hb (by omega)
    have HT := Lib.hid hth
    have HB := Lib.hid hb
    have HC := Lib.hid hc3
    have HK := Lib.hid hk
    have HQ := Lib.hid (Nat.ne_of_lt hqg)
    have hlt' : (k : Int) < (R.length : Int) := by omega
    have h0 : (0 : Int) ≤ k := by omega
    have HL := Lib.hid (show k * 10 + 10 ≤ cur.size by omega)
    clear hb ht hk h ho hlt hth hc3 hqg hc1 hc2
    go_enter Try.func38, Try.ntmps38
    go_wp2_with fail
    refine (HH.out).mono ?_
    rintro e w1 ⟨rfl, rfl⟩
    go_wp2_with (refine gate_ (.store 96 (.tmp 15) (.tmp 14)) rfl ?_; refine wpList_store_mid rfl 96 (.tmp 15) (.tmp 14) rfl g (k * 10) zcells (by rfl) (by rfl) HT.out (by kernel_rfl) (by kernel_rfl) ?_)
    go_ret
    refine ⟨rfl, ?_, (keeps_setCells w g _ _).mono (fun b hb => .inr (by rw [hb]; rfl))⟩
    refine HS.out.put (o' := none) (j := 0) (vs := zcells.toList) HK.out (by decide) rfl (setCells_far _ _ _ HQ.out) (fun cur' hb' => ?_)
    rw [HB.out] at hb'
    cases hb'
    exact setCells_row _ _ _ _ HB.out HL.out

theorem abs_l {P : Program} {ops : Array Oper} {rest : List Oper} {Q : Exit → Act → World → Prop} {a : Act} {w : World} (F : World → Prop) (hF : F w) (h : ∀ w2, F w2 → wpList P ops Q rest a w2) : wpList P ops Q rest a w := h w hF
/-- Behind the store of a specification. -/
structure SetW (w w1 : World) (q g : Nat) (clk : Int) (cap : Nat) (R : RSt) (k : Nat) (t : TT) (f iv tol : Int) (W : World) : Prop where
  z0 : W.cell? ⟨w1.heap.size, 0, none⟩ = some (.int .i64 t.fst)
  z1 : W.cell? ⟨w1.heap.size, 1, none⟩ = some (.int .i64 t.ivl)
  z2 : W.cell? ⟨w1.heap.size, 2, none⟩ = some (.int .i64 t.tol)
  y0 : W.cell? ⟨w.heap.size + 1, 0, none⟩ = some (.int .i64 0)
  y1 : W.cell? ⟨w.heap.size + 1, 1, none⟩ = some (.int .i64 0)
  y2 : W.cell? ⟨w.heap.size + 1, 2, none⟩ = some (.int .i64 0)
  f0 : W.frozen? ⟨w.heap.size + 1, 0, none⟩ = false
  f1 : W.frozen? ⟨w.heap.size + 1, 1, none⟩ = false
  f2 : W.frozen? ⟨w.heap.size + 1, 2, none⟩ = false
  all : Hid (W.heap[w.heap.size + 1]? = some (.cells #[.int .i64 0, .int .i64 0, .int .i64 0] 86 (0, 0)) ∧ RS W q (.slice (some ⟨g, 0, none⟩) R.length cap) clk (R.set k (some (setT t f iv tol))) ∧ Keeps w W (fun b => b = g))
theorem setW_of {w w1 : World} {q g : Nat} {clk : Int} {cap : Nat} {cur : Array Value} {R : RSt} {k : Nat} {t : TT} {f iv tol : Int} (h : RS w q (.slice (some ⟨g, 0, none⟩) R.length cap) clk R) (hk : R[k]? = some (some t)) (hq : q ≠ g) (hb1 : Below w.heap.size w w1) (hsz : w1.heap.size = w.heap.size + 2) (hg : g < w.heap.size)
    (hbg : w1.heap[g]? = some (.cells cur 96 (0, 0))) (hl : k * 10 + 7 + 3 ≤ cur.size) (hz : w1.heap[w.heap.size + 1]? = some (.cells #[.int .i64 0, .int .i64 0, .int .i64 0] 86 (0, 0))) (n : Nat) :
    SetW w w1 q g clk cap R k t f iv tol (((w1.alloc (.cells #[.int .i64 t.fst, .int .i64 t.ivl, .int .i64 t.tol] 86)).drewN n).setCells g (k * 10 + 7) [.int .i64 f, .int .i64 iv, .int .i64 tol]) := by
  have hz2 := blk_drewN (blk_alloc hz (.cells #[.int .i64 t.fst, .int .i64 t.ivl, .int .i64 t.tol] 86)) n
  have hbg2 := blk_drewN (blk_alloc hbg (.cells #[.int .i64 t.fst, .int .i64 t.ivl, .int .i64 t.tol] 86)) n
  have hnew := blk_drewN (blk_new w1 (.cells #[.int .i64 t.fst, .int .i64 t.ivl, .int .i64 t.tol] 86)) n
  have hb : Below w.heap.size w ((w1.alloc (.cells #[.int .i64 t.fst, .int .i64 t.ivl, .int .i64 t.tol] 86)).drewN n) := pw_below_drewN (below_alloc hb1 _) _
  have hs : ((w1.alloc (.cells #[.int .i64 t.fst, .int .i64 t.ivl, .int .i64 t.tol] 86)).drewN n).heap.size = w1.heap.size + 1 := by simp [World.drewN]
  generalize (w1.alloc (.cells #[.int .i64 t.fst, .int .i64 t.ivl, .int .i64 t.tol] 86)).drewN n = W2 at *
  have hk2 := keeps_setCells W2 g (k * 10 + 7) [.int .i64 f, .int .i64 iv, .int .i64 tol]
  have hz3 := hk2.blk hz2 (by omega)
  have hn3 := hk2.blk hnew (by omega)
  have e1 : ∀ j, j < 3 → (W2.setCells g (k * 10 + 7) [.int .i64 f, .int .i64 iv, .int .i64 tol]).cell? ⟨w1.heap.size, j, none⟩ = (#[Value.int .i64 t.fst, .int .i64 t.ivl, .int .i64 t.tol] : Array Value)[j]? := fun j _ => blk_cell hn3 j
  have e2 : ∀ j, j < 3 → (W2.setCells g (k * 10 + 7) [.int .i64 f, .int .i64 iv, .int .i64 tol]).cell? ⟨w.heap.size + 1, j, none⟩ = (#[Value.int .i64 0, .int .i64 0, .int .i64 0] : Array Value)[j]? := fun j _ => blk_cell hz3 j
  refine ⟨e1 0 (by omega), e1 1 (by omega), e1 2 (by omega), e2 0 (by omega), e2 1 (by omega), e2 2 (by omega), blk_frozen hz3 _, blk_frozen hz3 _, blk_frozen hz3 _, Lib.hid ⟨hz3, ?_, (Keeps.of_below hb _).trans hk2 (fun i hi => .inl hi)⟩⟩
  refine (h.below hb).put (o' := some (setT t f iv tol)) (j := 7) (vs := [.int .i64 f, .int .i64 iv, .int .i64 tol]) hk (by simp) rfl (setCells_far _ _ _ hq) (fun cur' hb' => ?_)
  rw [hbg2] at hb'
  cases hb'
  exact setCells_row _ _ _ _ hbg2 hl
def rsetC (R : RSt) (i f iv tol : Int) : Int := if (rAt R i).isSome then (if specOk f iv tol then 0 else 34) else 3
def rsetV (R : RSt) (i f iv tol : Int) : Value := if rsetC R i f iv tol = 0 then specT (rAt R i) else specT none
def rsetR (R : RSt) (i f iv tol : Int) : RSt :=
  match rAt R i with
  | some t => if specOk f iv tol then R.set i.toNat (some (setT t f iv tol)) else R
  | none => R
set_option maxRecDepth 100000 in
set_option maxHeartbeats 1000000 in
theorem rset_any (q : Nat) (v : Value) (clk : Int) (R : RSt) (i f iv tol : Int) (w : World) (h : RS w q v clk R) :
    Calls Try.prog 35 #[.pointer (some ⟨q, 0, none⟩), .int .i64 i, .agg #[.int .i64 f, .int .i64 iv, .int .i64 tol]] w fun e w' =>
      e = .returned (.tuple #[rsetV R i f iv tol, .int .i64 (rsetC R i f iv tol)]) ∧ RS w' q v clk (rsetR R i f iv tol) ∧ Keeps w w' (ROwn q v) := by
  have HH := Lib.hid (fun w' hb => rhas_any q v clk R i w' (h.below hb))
  rw [rhas_at] at HH
  have HT := Lib.hid (fun n w => inr_any n w)
  have HS := Lib.hid h
  have HV := Lib.hid (show rsetV R i f iv tol = if rsetC R i f iv tol = 0 then specT (rAt R i) else specT none from rfl)
  have HC := Lib.hid (show rsetC R i f iv tol = if (rAt R i).isSome then (if specOk f iv tol then 0 else 34) else 3 from rfl)
  have HR := Lib.hid (show rsetR R i f iv tol = match rAt R i with | some t => if specOk f iv tol then R.set i.toNat (some (setT t f iv tol)) else R | none => R from rfl)
  have hs := Below.refl w.heap.size w
  have c0 := later_cell (v := v) (blk_cell h.hdr 0)
  cases ho : rAt R i with
  | none =>
    rw [ho] at HV HC HR HH
    simp only [Option.isSome_none] at HC HH
    have HC' := Lib.hid (HC.out.trans (if_neg (by simp)))
    rw [HC'.out] at HV
    have HV' := Lib.hid (HV.out.trans (if_neg (by decide)))
    rw [HC'.out, HV'.out, HR.out]
    clear HV HC HC' HV' h
    go_enter Try.func35, Try.ntmps35
    go_wp2_with fail
    refine (HH.out _ (by go_simp)).mono ?_
    rintro e w1 ⟨rfl, rfl⟩
    go_wp2
    refine bodyPost_ret (v := .tuple #[specT none, .int .i64 3]) (by simp [results, Try.results35, go_sem, specT]) rfl ?_
    exact ⟨rfl, HS.out.below (below_alloc (below_alloc (Below.refl _ _) _) _), Keeps.of_below (below_alloc (below_alloc (Below.refl _ _) _) _) _⟩
  | some t =>
    rw [ho] at HV HC HR HH
    simp only [Option.isSome_some, if_true] at HC HR HH
    obtain ⟨k, rfl, hk⟩ := rAt_some ho
    have hlt := (List.getElem?_eq_some_iff.1 hk).1
    obtain ⟨g, cap, cur, rfl, hqg, hb, hc1, hc2, hc3, ht⟩ := h.open (by omega)
    obtain ⟨-, -, -, -, -, -, t7, t8, t9⟩ := rs_t hb ht hk
    have c7 := later_cell t7
    have c8 := later_cell t8
    have c9 := later_cell t9
    have HB := Lib.hid hb
    have HCS := Lib.hid hc3
    have HK := Lib.hid hk
    have HQ := Lib.hid (Nat.ne_of_lt hqg)
    have hlt' : (k : Int) < (R.length : Int) := by omega
    have h0 : (0 : Int) ≤ k := by omega
    have HL := Lib.hid (show k * 10 + 7 + 3 ≤ cur.size by omega)
    clear hb ht hk h t7 t8 t9 ho hlt hc3 hqg hc1 hc2
    cases h1 : okT f <;> cases h2 : okT iv <;> cases h3 : okT tol
    case true.true.true =>
      have HC' := Lib.hid (HC.out.trans (if_pos (by simp [specOk, h1, h2, h3])))
      rw [HC'.out] at HV
      have HV' := Lib.hid (HV.out.trans (if_pos rfl))
      have HR' := Lib.hid (HR.out.trans (if_pos (by simp [specOk, h1, h2, h3])))
      rw [HC'.out, HV'.out, HR'.out]
      clear HV HC HC' HV' HR HR'
      go_enter Try.func35, Try.ntmps35
      go_wp2_with fail
      refine (HH.out _ (by go_simp)).mono ?_
      rintro e w1 ⟨rfl, hw1⟩
      have HB1 := Lib.hid (show Below w.heap.size w w1 by rw [← hw1]; exact below_alloc (below_alloc (Below.refl _ _) _) _)
      have hsz : w1.heap.size = w.heap.size + 2 := by rw [← hw1]; simp
      have hq : w1.heap[w.heap.size]? = some (.cells #[.int .i64 f, .int .i64 iv, .int .i64 tol] 86 (0, 0)) := by rw [← hw1]; exact blk_alloc (blk_new w _) _
      have hz : w1.heap[w.heap.size + 1]? = some (.cells #[.int .i64 0, .int .i64 0, .int .i64 0] 86 (0, 0)) := by rw [← hw1]; simpa using blk_new (w.alloc (.cells #[.int .i64 f, .int .i64 iv, .int .i64 tol] 86)) (.cells #[.int .i64 0, .int .i64 0, .int .i64 0] 86)
      have q0 := later_cell (v := .int .i64 f) (blk_cell hq 0)
      have q1 := later_cell (v := .int .i64 iv) (blk_cell hq 1)
      have q2 := later_cell (v := .int .i64 tol) (blk_cell hq 2)
      have HSZ := Lib.hid hsz
      have HZ := Lib.hid hz
      have b0 := fun w' hb => c0 w' (below_step HB1.out hb)
      have b7 := fun w' hb => c7 w' (below_step HB1.out hb)
      have b8 := fun w' hb => c8 w' (below_step HB1.out hb)
      have b9 := fun w' hb => c9 w' (below_step HB1.out hb)
      have hs1 := Below.refl w1.heap.size w1
      have HBG := Lib.hid (blk_below HB.out HB1.out)
      have HG := Lib.hid (blk_lt HB.out)
      clear c0 c7 c8 c9 hs hq hz hsz hw1
      repeat
        go_wp2_with fail
        refine (HT.out _ _).mono ?_
        rintro e w2 ⟨rfl, rfl⟩
      go_wp2
      refine still_tail 8 (by kernel_rfl) (by kernel_rfl) ?_
      simp only [List.take_succ_cons, List.take_zero, List.drop_succ_cons, List.drop_zero]
      repeat still_step
      refine wpStill_nil ?_
      clear b0 b7 b8 b9 q0 q1 q2
      refine wpList_store_mid rfl 86 (.tmp 46) (.tmp 44) rfl g (k * 10 + 7) #[.int .i64 f, .int .i64 iv, .int .i64 tol] (by rfl) (by rfl) (rs_there (cap := cap) (blk_drew (blk_alloc HBG.out _)) HL.out) (by kernel_rfl) (by kernel_rfl) ?_
      refine abs_l (SetW w w1 q g clk cap R k t f iv tol) (setW_of HS.out HK.out HQ.out HB1.out HSZ.out HG.out HBG.out HL.out HZ.out 1) ?_
      rintro W ⟨z0, z1, z2, y0, y1, y2, f0, f1, f2, HX⟩
      have HSW := Lib.hid (Nat.ne_of_gt (show w.heap.size + 1 < w1.heap.size by have := HSZ.out; omega))
      have HSW' := HSW.out
      go_wp2
      refine abs_e (fun W2 => W2.heap[w.heap.size + 1]? = some (.cells #[.int .i64 t.fst, .int .i64 t.ivl, .int .i64 t.tol] 86 (0, 0)) ∧ RS W2 q (.slice (some ⟨g, 0, none⟩) R.length cap) clk (R.set k (some (setT t f iv tol))) ∧ Keeps w W2 (fun b => b = g))
        ⟨blk_set3 (o := 0) HX.out.1 _ _ _ rfl, HX.out.2.1.keep (F := fun b => b = w.heap.size + 1) (keeps_set3 (F := fun b => b = w.heap.size + 1) (o := 0) (Keeps.refl W _) _ _ _ (.inl rfl)) (fun b hb ho => by
            subst hb
            rcases ho with ho | ho
            · have := blk_lt HS.out.hdr; omega
            · have e : g = w.heap.size + 1 := by simpa [Value.ownBlock] using ho
              have := HG.out; omega),
          keeps_set3 (F := fun b => b = g) (o := 0) HX.out.2.2 _ _ _ (.inr (Nat.le_succ _))⟩ ?_
      rintro W2 ⟨hW2, hr2, hk2⟩
      clear z0 z1 z2 y0 y1 y2 f0 f1 f2
      have z0 := blk_cell hW2 0
      have z1 := blk_cell hW2 1
      have z2 := blk_cell hW2 2
      simp only [List.getElem?_toArray, List.getElem?_cons_zero, List.getElem?_cons_succ] at z0 z1 z2
      refine bodyPost_ret (v := .tuple #[specT (some t), .int .i64 0]) (by simp [results, Try.results35, go_sem, specT, z0, z1, z2]) rfl ?_
      exact ⟨rfl, hr2, hk2.mono (fun b hb => .inr (by rw [hb]; rfl))⟩
    all_goals
      have HC' := Lib.hid (HC.out.trans (if_neg (by simp [specOk, h1, h2, h3])))
      rw [HC'.out] at HV
      have HV' := Lib.hid (HV.out.trans (if_neg (by decide)))
      have HR' := Lib.hid (HR.out.trans (if_neg (by simp [specOk, h1, h2, h3])))
      rw [HC'.out, HV'.out, HR'.out]
      clear HV HC HC' HV' HR HR'
      go_enter Try.func35, Try.ntmps35
      go_wp2_with fail
      refine (HH.out _ (by go_simp)).mono ?_
      rintro e w1 ⟨rfl, rfl⟩
      repeat
        go_wp2_with fail
        refine (HT.out _ _).mono ?_
        rintro e w2 ⟨rfl, rfl⟩
      go_wp2
      refine bodyPost_ret (v := .tuple #[specT none, .int .i64 34]) (by simp [results, Try.results35, go_sem, specT]) rfl ?_
      exact ⟨rfl, HS.out.below (below_alloc (below_alloc (Below.refl _ _) _) _), Keeps.of_below (below_alloc (below_alloc (Below.refl _ _) _) _) _⟩
end
section
set_option linter.unusedVariables false
set_option linter.unusedSimpArgs false
open Go.RowKit Go.Maps Go.Sort Go.Proofs.YtodgbpggkikbcaaW.PrintWords Go.Proofs.YtodgbpggkikbcaaW.PrintLast Go.Proofs.YtodgbpggkikbcaaW.PrintMore FLib
attribute [local go_sem] below_alloc_T below_drew_T below_drewN_T

theorem rnew_any (w : World) : Calls Try.prog 20 #[] w fun e w' => e = .returned (.pointer (some ⟨w.heap.size, 0, none⟩)) ∧ RS w' w.heap.size (.slice none 0 0) 0 [] ∧ Below w.heap.size w w' := by
  go_enter Try.func20, Try.ntmps20
  go_wp2
  go_ret
  exact ⟨rfl, ⟨blk_new w _, World.ownsRow_nil _ _ _ _, by simp⟩, below_alloc (Below.refl _ _) _⟩

def rstep (s : Int × Bool) (o : Option TT) : Int × Bool :=
  match o with
  | some t => if (t.fst != 0) && (!s.2 || decide (t.fst + t.tol < s.1)) then (t.fst + t.tol, true) else s
  | none => s
def rnextS (R : RSt) (k : Nat) : Int × Bool := (R.take k).foldl rstep (0, false)
def rnextV (R : RSt) : Int × Bool := R.foldl rstep (0, false)
theorem rnextS_all (R : RSt) : rnextS R R.length = rnextV R := by unfold rnextS rnextV; rw [List.take_length]
theorem rnextS_succ {R : RSt} {k : Nat} {o : Option TT} (h : R[k]? = some o) : rnextS R (k + 1) = rstep (rnextS R k) o := by
  unfold rnextS; rw [List.take_add_one, h, List.foldl_append]; rfl
/-- All timers' numbers are ticks. -/
def ROk (R : RSt) : Prop := ∀ (i : Nat) (t : TT), R[i]? = some (some t) → TOk t

set_option maxRecDepth 100000 in
set_option maxHeartbeats 1000000 in
theorem rnext_any (q : Nat) (v : Value) (clk : Int) (R : RSt) (hok : ROk R) (w : World) (h : RS w q v clk R) :
    Calls Try.prog 22 #[.pointer (some ⟨q, 0, none⟩)] w fun e w' => e = .returned (.tuple #[.int .i64 (rnextV R).1, .bool (rnextV R).2]) ∧ Below w.heap.size w w' := by
  have HOK := Lib.hid hok
  have HS := Lib.hid h
  have HA := Lib.hid (fun k o hk w' hb => rarmed_any q v clk R k o hk w' (h.below hb))
  have HL := Lib.hid h.len
  have HV := Lib.hid h.row.2
  clear h hok
  go_enter Try.func22, Try.ntmps22
  go_wp2
  go_loopw [4, 5, 6] (fun l f i wr => ∃ k : Nat, k ≤ R.length ∧ i = .int .i64 k ∧ l = .int .i64 (rnextS R k).1 ∧ f = .bool (rnextS R k).2 ∧ Hid (Below w.heap.size w wr)) (fun _ _ i _ => R.length - (RowKit.intOf i).toNat)
  case atStart => exact ⟨0, Nat.zero_le _, rfl, rfl, rfl, Lib.hid (Below.refl _ _)⟩
  case round =>
    obtain ⟨k, hk, rfl, rfl, rfl, hB⟩ := hrel
    have hS := HS.out.below hB.out
    have c0 : wr.cell? ⟨q, 0, none⟩ = some v := blk_cell hS.hdr 0
    by_cases hlt : k < R.length
    · obtain ⟨o, ho⟩ : ∃ o, R[k]? = some o := ⟨_, List.getElem?_eq_getElem hlt⟩
      have HS1 := Lib.hid (rnextS_succ ho)
      have HA1 := Lib.hid (HA.out k o ho)
      obtain ⟨g, cap, cur, rfl, hqg, hb, hc1, hc2, hc3, ht⟩ := hS.open (by omega)
      have h0 : (0 : Int) ≤ k := by omega
      have hlt' : (k : Int) < (R.length : Int) := by omega
      have hlr : (R.length : Int) ≤ 1000 := by have := HL.out; omega
      cases o with
      | none =>
        have c7 : wr.cell? ⟨g, k * 10 + 7, none⟩ = some (.int .i64 0) := rs_cell hb ht ho (by omega)
        have c9 : wr.cell? ⟨g, k * 10 + 9, none⟩ = some (.int .i64 0) := rs_cell hb ht ho (by omega)
        have w0 : IntKind.i64.wrap ((0 : Int) + 0) = 0 := rfl
        clear hS hb ht ho hqg hc1 hc2 hc3
        go_wp2
        go_quiet (fail)
        clear w0 c7 c9
        go_wp2_with fail
        refine (HA1.out _ (pw_below_drewN hB.out _)).mono ?_
        rintro e w2 ⟨rfl, rfl⟩
        simp only [armO]
        go_wp2
        go_roundw
        case rel => exact ⟨k + 1, by omega, by go_num, by rw [HS1.out]; rfl, by rw [HS1.out]; rfl, Lib.hid (pw_below_drewN hB.out _)⟩
        case measure => simp [RowKit.intOf]; omega
      | some t =>
        have ok := HOK.out _ _ ho
        obtain ⟨-, -, -, -, -, -, c7, c8, c9⟩ := rs_t hb ht ho
        have w0 : IntKind.i64.wrap (t.fst + t.tol) = t.fst + t.tol := IntWalk.i64_in _ (by have := ok.f0; have := ok.f1; have := ok.t0; have := ok.t1; omega)
        clear hS hb ht ho hqg hc1 hc2 hc3 c8 ok
        go_wp2
        go_quiet (fail)
        clear w0 c7 c9
        go_wp2_with fail
        refine (HA1.out _ (pw_below_drewN hB.out _)).mono ?_
        rintro e w2 ⟨rfl, rfl⟩
        simp only [armO]
        generalize rnextS R k = s at HS1 ⊢
        obtain ⟨l0, f0⟩ := s
        cases d1 : (t.fst != 0)
        · have HS2 := Lib.hid (show rnextS R (k + 1) = (l0, f0) by rw [HS1.out]; unfold rstep; simp [d1])
          clear HS1
          go_wp2
          go_roundw
          case rel => exact ⟨k + 1, by omega, by go_num, by rw [HS2.out], by rw [HS2.out], Lib.hid (pw_below_drewN hB.out _)⟩
          case measure => simp [RowKit.intOf]; omega
        · cases f0
          · have HS2 := Lib.hid (show rnextS R (k + 1) = (t.fst + t.tol, true) by rw [HS1.out]; unfold rstep; simp [d1])
            clear HS1
            go_wp2
            go_roundw
            case rel => exact ⟨k + 1, by omega, by go_num, by rw [HS2.out], by rw [HS2.out], Lib.hid (pw_below_drewN hB.out _)⟩
            case measure => simp [RowKit.intOf]; omega
          · cases d2 : decide (t.fst + t.tol < l0)
            · have HS2 := Lib.hid (show rnextS R (k + 1) = (l0, true) by rw [HS1.out]; unfold rstep; simp [d1, d2])
              clear HS1
              go_wp2
              go_roundw
              case rel => exact ⟨k + 1, by omega, by go_num, by rw [HS2.out], by rw [HS2.out], Lib.hid (pw_below_drewN hB.out _)⟩
              case measure => simp [RowKit.intOf]; omega
            · have HS2 := Lib.hid (show rnextS R (k + 1) = (t.fst + t.tol, true) by rw [HS1.out]; unfold rstep; simp [d1, d2])
              clear HS1
              go_wp2
              go_roundw
              case rel => exact ⟨k + 1, by omega, by go_num, by rw [HS2.out], by rw [HS2.out], Lib.hid (pw_below_drewN hB.out _)⟩
              case measure => simp [RowKit.intOf]; omega
    · obtain rfl : k = R.length := by omega
      rw [rnextS_all]
      clear hS hlt hk
      rcases HV.out with ⟨rfl, hz⟩ | ⟨g, cap, cur, rfl, -⟩
      · rw [hz]
        go_wp2
        go_ret2
        exact ⟨rfl, hB.out⟩
      · go_wp2
        go_ret2
        exact ⟨rfl, hB.out⟩

/-- Has the timer this owner? -/
def isOwn (own : Int) : Option TT → Bool
  | some t => decide (t.own = own)
  | none => false
def dropO (own : Int) (o : Option TT) : Option TT := if isOwn own o then none else o
def rdropK (R : RSt) (own : Int) (k : Nat) : RSt := R.mapIdx (fun j o => if j < k then dropO own o else o)
def rdropN (R : RSt) (own : Int) (k : Nat) : Nat := (R.take k).countP (isOwn own)
theorem rdropK_len (R : RSt) (own : Int) (k : Nat) : (rdropK R own k).length = R.length := by unfold rdropK; rw [List.length_mapIdx]
theorem rdropK_get (R : RSt) (own : Int) (k j : Nat) : (rdropK R own k)[j]? = (R[j]?).map (fun o => if j < k then dropO own o else o) := by unfold rdropK; rw [List.getElem?_mapIdx]
theorem rdropK_zero (R : RSt) (own : Int) : rdropK R own 0 = R := by
  refine List.ext_getElem? fun j => ?_
  rw [rdropK_get]; cases R[j]? <;> simp
theorem rdropK_at {R : RSt} {own : Int} {k : Nat} {o : Option TT} (h : R[k]? = some o) : (rdropK R own k)[k]? = some o := by rw [rdropK_get, h]; simp
theorem rdropK_no {R : RSt} {own : Int} {k : Nat} {o : Option TT} (h : R[k]? = some o) (ho : isOwn own o = false) : rdropK R own (k + 1) = rdropK R own k := by
  refine List.ext_getElem? fun j => ?_
  rw [rdropK_get, rdropK_get]
  by_cases e : j = k
  · subst e; rw [h]; simp [dropO, ho]
  · have : (j < k + 1) = (j < k) := by simp; omega
    simp only [this]
theorem rdropK_yes {R : RSt} {own : Int} {k : Nat} {o : Option TT} (h : R[k]? = some o) (ho : isOwn own o = true) : rdropK R own (k + 1) = (rdropK R own k).set k none := by
  have hlt := (List.getElem?_eq_some_iff.1 h).1
  refine List.ext_getElem? fun j => ?_
  by_cases e : j = k
  · subst e; rw [rdropK_get, h, List.getElem?_set_self (by rw [rdropK_len]; exact hlt)]; simp [dropO, ho]
  · rw [List.getElem?_set_ne (Ne.symm e), rdropK_get, rdropK_get]
    have : (j < k + 1) = (j < k) := by simp; omega
    simp only [this]
theorem rdropN_succ {R : RSt} {own : Int} {k : Nat} {o : Option TT} (h : R[k]? = some o) : rdropN R own (k + 1) = rdropN R own k + (if isOwn own o then 1 else 0) := by
  unfold rdropN; rw [List.take_add_one, h, List.countP_append]
  cases hx : isOwn own o <;> simp [hx]
theorem rdropN_le (R : RSt) (own : Int) (k : Nat) : rdropN R own k ≤ k := by
  unfold rdropN
  exact Nat.le_trans List.countP_le_length (by rw [List.length_take]; omega)

set_option maxRecDepth 100000 in
set_option maxHeartbeats 1000000 in
theorem rdrop_any (q : Nat) (v : Value) (clk : Int) (R : RSt) (own : Int) (w : World) (h : RS w q v clk R) :
    Calls Try.prog 39 #[.pointer (some ⟨q, 0, none⟩), .int .i64 own] w fun e w' => e = .returned (.int .i64 (rdropN R own R.length)) ∧ RS w' q v clk (rdropK R own R.length) ∧ Keeps w w' (ROwn q v) := by
  have HS := Lib.hid h
  have HL := Lib.hid h.len
  have HV := Lib.hid h.row.2
  clear h
  go_enter Try.func39, Try.ntmps39
  go_wp2
  go_loopw [5, 6] (fun n i wr => ∃ k : Nat, k ≤ R.length ∧ i = .int .i64 k ∧ n = .int .i64 (rdropN R own k) ∧ Hid (RS wr q v clk (rdropK R own k) ∧ Keeps w wr (ROwn q v))) (fun _ i _ => R.length - (RowKit.intOf i).toNat)
  case atStart => exact ⟨0, Nat.zero_le _, rfl, rfl, Lib.hid ⟨by rw [rdropK_zero]; exact HS.out, Keeps.refl _ _⟩⟩
  case round =>
    obtain ⟨k, hk, rfl, rfl, hB⟩ := hrel
    have hS := hB.out.1
    have c0 : wr.cell? ⟨q, 0, none⟩ = some v := blk_cell hS.hdr 0
    by_cases hlt : k < R.length
    · obtain ⟨o, ho⟩ : ∃ o, R[k]? = some o := ⟨_, List.getElem?_eq_getElem hlt⟩
      have hK := rdropK_at (own := own) ho
      obtain ⟨g, cap, cur, rfl, hqg, hb, hc1, hc2, hc3, ht⟩ := hS.open (by rw [rdropK_len]; omega)
      have c1 := rs_in hb ht hK
      have hlen := rdropK_len R own k
      rw [hlen] at hS hB HS c0 hc1 ⊢
      have h0 : (0 : Int) ≤ k := by omega
      have hlt' : (k : Int) < (R.length : Int) := by omega
      have hlr : (R.length : Int) ≤ 1000 := by have := HL.out; omega
      have hn0 : (rdropN R own k : Int) ≤ 1000 := by have := rdropN_le R own k; omega
      have HN := Lib.hid (rdropN_succ (own := own) ho)
      cases o with
      | none =>
        simp only [Option.isSome_none] at c1
        have HK := Lib.hid (rdropK_no (own := own) ho rfl)
        clear hS hb ht ho hqg hc1 hc2 hc3 hlen hK
        go_wp2
        go_roundw
        case rel => exact ⟨k + 1, by omega, by go_num, by rw [HN.out]; rfl, Lib.hid (by rw [HK.out]; exact hB.out)⟩
        case measure => simp [RowKit.intOf]; omega
      | some t =>
        simp only [Option.isSome_some] at c1
        have c2 := (rs_t hb ht hK).1
        by_cases he : t.own = own
        · have d1 : (t.own == own) = true := by simpa using he
          have HI := Lib.hid (show isOwn own (some t) = true by simp [isOwn, he])
          have HK := Lib.hid (rdropK_yes (own := own) ho HI.out)
          have HT := Lib.hid (rs_there (cap := cap) hb (o := k * 10) (n := 10) (by omega))
          have HBK := Lib.hid hb
          have HQ := Lib.hid (Nat.ne_of_lt hqg)
          have HLE := Lib.hid (show k * 10 + 10 ≤ cur.size by omega)
          have HKK := Lib.hid hK
          rw [he] at c2
          clear hS hb ht ho hqg hc1 hc2 hc3 hlen hK he d1
          have d1 : (own == own) = true := by simp
          go_wp2_with (refine gate_ (.store 96 (.tmp 42) (.tmp 41)) rfl ?_; refine wpList_store_mid rfl 96 (.tmp 42) (.tmp 41) rfl g (k * 10) zcells (by rfl) (by rfl) HT.out (by kernel_rfl) (by kernel_rfl) ?_; clear c0 c1 c2)
          go_roundw
          case rel =>
            refine ⟨k + 1, by omega, by go_num, by rw [HN.out, HI.out]; go_num, Lib.hid ⟨?_, hB.out.2.trans (keeps_setCells wr g _ _) (fun b hb => .inl (.inr (by rw [hb]; rfl)))⟩⟩
            rw [HK.out]
            have hS := hB.out.1
            have e := rdropK_len R own k
            have := RS.put (W := wr) (W' := wr.setCells g (k * 10) zcells.toList) (cap := cap) (by rw [e]; exact hS) (o' := none) (j := 0) (vs := zcells.toList) HKK.out (by decide) rfl (setCells_far _ _ _ HQ.out) (fun cur' hb' => by
              rw [HBK.out] at hb'
              cases hb'
              exact setCells_row _ _ _ _ HBK.out HLE.out)
            rwa [e] at this
          case measure => simp [RowKit.intOf]; omega
        · have d1 : (t.own == own) = false := by simpa using he
          have HI := Lib.hid (show isOwn own (some t) = false by simp [isOwn, he])
          have HK := Lib.hid (rdropK_no (own := own) ho HI.out)
          clear hS hb ht ho hqg hc1 hc2 hc3 hlen hK he
          go_wp2
          go_roundw
          case rel => exact ⟨k + 1, by omega, by go_num, by rw [HN.out, HI.out]; go_num, Lib.hid (by rw [HK.out]; exact hB.out)⟩
          case measure => simp [RowKit.intOf]; omega
    · obtain rfl : k = R.length := by omega
      clear hS hlt hk
      rcases HV.out with ⟨rfl, hz⟩ | ⟨g, cap, cur, rfl, -⟩
      · obtain rfl : R = [] := List.eq_nil_of_length_eq_zero hz
        go_wp2
        go_ret
        exact ⟨rfl, hB.out⟩
      · go_wp2
        go_ret
        exact ⟨rfl, hB.out⟩
end
section
set_option linter.unusedVariables false
set_option linter.unusedSimpArgs false
open Go.RowKit Go.Maps Go.Sort Go.Proofs.YtodgbpggkikbcaaW.PrintWords Go.Proofs.YtodgbpggkikbcaaW.PrintLast Go.Proofs.YtodgbpggkikbcaaW.PrintMore FLib
attribute [local go_sem] below_alloc_T below_drew_T below_drewN_T

theorem addmk (q j k : Nat) : (⟨q, j, none⟩ : Addr).add k = ⟨q, j + k, none⟩ := by simp [Addr.add]
theorem below_grown {B : Nat} {a w w' : World} {row : Option Nat} (h : Below B a w) (hB : B ≤ w.heap.size) (hg : w.grownBy w' row) (hr : ∀ k, row = some k → B ≤ k) : Below B a w' :=
  ⟨hg.os.trans h.os, hg.tape.trans h.tape, hg.output.trans h.output, Nat.le_trans h.size hg.size, fun k hk => (hg.block k (by omega) (fun e => by have := hr k e.symm; omega)).trans (h.block k hk)⟩
theorem info3 : (Try.prog.info? 3).map (fun i => (i.zero, i.size, i.bytes)) = some (some (.int .i64 0), 1, 8) := by kernel_rfl
def encN (i : Nat) : Value := .int .i64 (i : Int)
/-- A row of numbers of the call's own. -/
def NRow (w : World) (base : Nat) (v : Value) (l : List Nat) : Prop := w.ownsRow base 3 1 v l.length (l.map encN)
theorem NRow.below {w w' : World} {base : Nat} {v : Value} {l : List Nat} (h : NRow w base v l) (hb : Below w.heap.size w w') : NRow w' base v l := pw_own_below h hb
theorem NRow.cell {w : World} {base : Nat} {v : Value} {l : List Nat} (h : NRow w base v l) {k i : Nat} (hk : l[k]? = some i) : ∃ g cap, v = .slice (some ⟨g, 0, none⟩) l.length cap ∧ w.cell? ⟨g, k, none⟩ = some (.int .i64 (i : Int)) := by
  have hlt := (List.getElem?_eq_some_iff.1 hk).1
  rcases h.2 with ⟨-, h2⟩ | ⟨g, cap, cur, h1, h2, h3, h4, h5, h6, h7⟩
  · omega
  · refine ⟨g, cap, h1, ?_⟩
    have := h.cells (g := g) (by rw [h1]; rfl) k (encN i) (by rw [List.getElem?_map, hk]; rfl)
    rw [addmk, Nat.zero_add] at this
    exact this
theorem NRow.form {w : World} {base : Nat} {v : Value} {l : List Nat} (h : NRow w base v l) : (v = .slice none 0 0 ∧ l.length = 0) ∨ ∃ g cap, v = .slice (some ⟨g, 0, none⟩) l.length cap := by
  rcases h.2 with h2 | ⟨g, cap, cur, h1, -⟩
  · exact .inl h2
  · exact .inr ⟨g, cap, h1⟩
theorem NRow.snoc {w : World} {base : Nat} {v : Value} {l : List Nat} {i : Nat} (h : w.ownsRow base 3 1 v (l.length + 1) (l.map encN ++ [encN i])) : NRow w base v (l ++ [i]) := by
  unfold NRow; rw [List.length_append, List.map_append]; exact h
def rin (R : RSt) (i : Nat) : Bool := ((R[i]?).join).isSome
def rids (R : RSt) (k : Nat) : List Nat := (List.range k).filter (rin R)
theorem rids_succ (R : RSt) (k : Nat) : rids R (k + 1) = rids R k ++ (if rin R k then [k] else []) := by
  unfold rids
  rw [List.range_succ, List.filter_append]
  cases h : rin R k <;> simp [h]
theorem rids_le (R : RSt) (k : Nat) : (rids R k).length ≤ k := by
  unfold rids
  have := List.length_filter_le (rin R) (List.range k)
  simpa using this

set_option maxRecDepth 100000 in
set_option maxHeartbeats 1000000 in
theorem rlist_any (q : Nat) (v : Value) (clk : Int) (R : RSt) (w : World) (h : RS w q v clk R) :
    Calls Try.prog 24 #[.pointer (some ⟨q, 0, none⟩)] w fun e w' => (∃ u, e = .returned u ∧ NRow w' w.heap.size u (rids R R.length)) ∧ Below w.heap.size w w' := by
  have HS := Lib.hid h
  have HL := Lib.hid h.len
  have HV := Lib.hid h.row.2
  clear h
  obtain ⟨i0, hi0, hz0, hz1, hz2⟩ := info_parts info3
  have HI := Lib.hid (And.intro hi0 (And.intro hz0 (And.intro hz1 hz2)))
  clear hi0 hz0 hz1 hz2
  go_enter Try.func24, Try.ntmps24
  go_wp2
  go_loopw [3, 4] (fun u i wr => ∃ k : Nat, k ≤ R.length ∧ i = .int .i64 k ∧ Hid (NRow wr w.heap.size u (rids R k) ∧ Below w.heap.size w wr)) (fun _ i _ => R.length - (RowKit.intOf i).toNat)
  case atStart => exact ⟨0, Nat.zero_le _, rfl, Lib.hid ⟨World.ownsRow_made w #[] 0 (Nat.le_refl _) (by unfold maxLen; omega) rfl, below_alloc (Below.refl _ _) _⟩⟩
  case round =>
    obtain ⟨k, hk, rfl, hB⟩ := hrel
    have hS := HS.out.below hB.out.2
    have c0 : wr.cell? ⟨q, 0, none⟩ = some v := blk_cell hS.hdr 0
    by_cases hlt : k < R.length
    · obtain ⟨o, ho⟩ : ∃ o, R[k]? = some o := ⟨_, List.getElem?_eq_getElem hlt⟩
      obtain ⟨g, cap, cur, rfl, hqg, hb, hc1, hc2, hc3, ht⟩ := hS.open (by omega)
      have c1 := rs_in hb ht ho
      have h0 : (0 : Int) ≤ k := by omega
      have hlt' : (k : Int) < (R.length : Int) := by omega
      have hlr : (R.length : Int) ≤ 1000 := by have := HL.out; omega
      have HK := Lib.hid (rids_succ R k)
      have HO := Lib.hid (show rin R k = o.isSome by unfold rin; rw [ho]; rfl)
      cases o with
      | none =>
        simp only [Option.isSome_none] at c1 HO
        clear hS hb ht ho hqg hc1 hc2 hc3
        go_wp2
        go_roundw
        case rel => exact ⟨k + 1, by omega, by go_num, Lib.hid (by rw [HK.out, HO.out]; simpa using hB.out)⟩
        case measure => simp [RowKit.intOf]; omega
      | some t =>
        simp only [Option.isSome_some] at c1 HO
        clear hS hb ht ho hqg hc1 hc2 hc3
        have hle := rids_le R k
        have HLE := Lib.hid hle
        clear hle
        go_wp2_with (refine gate_builtin (b := .append) (xs := #[.tmp 23, .tmp 25]) (ts := #[49, 49]) rfl ?_; go_must (refine wpList_append_own_at _ rfl (.tmp 23) (.tmp 25) 49 rfl w.heap.size 3 i0 (.int .i64 0) 1 8 Try.underlying49 HI.out.1 HI.out.2.1 HI.out.2.2.1 HI.out.2.2.2 rfl (by decide) _ _ _ rfl (World.ownsRow.alloc hB.out.1 _) ⟨wr.heap.size, 0, none⟩ 1 1 [.int .i64 (k : Int)] rfl rfl ?c1 ?c2 ?c3 ?c4 ?c5 ?_))
        case c1 =>
          intro j u hu
          rw [addmk, blk_cell (blk_new wr _)]
          simpa using hu
        case c2 => intro u hu; rw [List.mem_singleton.1 hu]; rfl
        case c3 => have := HLE.out; have := HL.out; unfold maxLen; omega
        case c4 => have := HLE.out; have := HL.out; omega
        case c5 => have := hB.out.2.size; simp; omega
        intro v' w' hown' hg' hnil' hblk'
        have HX := Lib.hid (And.intro hown' hg')
        clear hown' hg' hnil' hblk' c0 c1
        go_wp2
        go_roundw
        case rel =>
          refine ⟨k + 1, by omega, by go_num, Lib.hid ⟨?_, ?_⟩⟩
          · rw [HK.out, HO.out, if_pos rfl]
            exact NRow.snoc HX.out.1
          · refine below_grown (below_alloc hB.out.2 _) (by have := hB.out.2.size; simp; omega) HX.out.2 (fun j hj => (World.ownsRow.lt hB.out.1 _ hj).1)
        case measure => simp [RowKit.intOf]; omega
    · obtain rfl : k = R.length := by omega
      clear hS hlt hk
      rcases HV.out with ⟨rfl, hz⟩ | ⟨g, cap, cur, rfl, -⟩
      · obtain rfl : R = [] := List.eq_nil_of_length_eq_zero hz
        go_wp2
        go_ret
        exact ⟨⟨_, rfl, hB.out.1⟩, hB.out.2⟩
      · go_wp2
        go_ret
        exact ⟨⟨_, rfl, hB.out.1⟩, hB.out.2⟩
end
section
set_option linter.unusedVariables false
set_option linter.unusedSimpArgs false
open Go.RowKit Go.Maps Go.Sort Go.Proofs.YtodgbpggkikbcaaW.PrintWords Go.Proofs.YtodgbpggkikbcaaW.PrintLast Go.Proofs.YtodgbpggkikbcaaW.PrintMore FLib
attribute [local go_sem] below_alloc_T below_drew_T below_drewN_T

theorem info96 : (Try.prog.info? 96).map (fun i => (i.zero, i.size, i.bytes)) = some (some (.agg zcells), 10, 80) := by kernel_rfl
/-- The least free number. -/
def rfree (R : RSt) : Nat := R.findIdx (·.isNone)
theorem rfree_le (R : RSt) : rfree R ≤ R.length := List.findIdx_le_length
theorem rfree_none (R : RSt) : rAt R (rfree R) = none := by
  rw [rAt_nat]
  by_cases h : rfree R < R.length
  · have h2 : (R[rfree R]).isNone = true := List.findIdx_getElem (w := h)
    rw [List.getElem?_eq_getElem h]
    generalize R[rfree R] = y at h2
    cases y with
    | none => rfl
    | some y => cases h2
  · rw [List.getElem?_eq_none (by omega)]; rfl
theorem rfree_some {R : RSt} {k : Nat} (h : k < rfree R) : (rAt R (k : Int)).isSome = true := by
  have hl := rfree_le R
  have h2 : (R[k]'(by omega)).isNone = false := by
    have := List.not_of_lt_findIdx (p := (·.isNone)) (xs := R) h
    simpa using this
  rw [rAt_nat, List.getElem?_eq_getElem (by omega)]
  generalize R[k]'(by omega) = y at h2
  cases y with
  | none => cases h2
  | some y => rfl
def rcreC (R : RSt) (own e0 e1 e2 e3 : Int) : Int :=
  if decide (own < 0) || decide (64 ≤ own) then 34 else if chkE e0 e1 e2 e3 = 0 then (if rfree R = 1000 then 18 else 0) else chkE e0 e1 e2 e3
def rcreI (R : RSt) (own e0 e1 e2 e3 : Int) : Int := if rcreC R own e0 e1 e2 e3 = 0 then (rfree R : Int) else 0
def rputAt (R : RSt) (i : Nat) (t : TT) : RSt := if i < R.length then R.set i (some t) else R ++ [some t]
def rcreR (R : RSt) (own e0 e1 e2 e3 e4 : Int) : RSt := if rcreC R own e0 e1 e2 e3 = 0 then rputAt R (rfree R) (newT own e0 e1 e2 e3 e4) else R
/-- Behind Create. -/
structure RCre (q : Nat) (v : Value) (clk : Int) (R R' : RSt) (w w' : World) : Prop where
  keep : Keeps w w' (ROwn q v)
  set : ∃ v', RS w' q v' clk R' ∧ ∀ k, v'.ownBlock = some k → v.ownBlock = some k ∨ w.heap.size ≤ k
/-- Where the timer is to be put. -/
def MidC (q : Nat) (v : Value) (clk : Int) (R R2 : RSt) (v2 : Value) (e0 e1 e2 e3 e4 : Int) (w W : World) : Prop :=
  RS W q v2 clk R2 ∧ rfree R < R2.length ∧ W.heap[w.heap.size]? = some (.cells #[.int .i64 e0, .int .i64 e1, .int .i64 e2, .int .i64 e3, .int .i64 e4] 38 (0, 0)) ∧ Keeps w W (ROwn q v) ∧ (∀ k, v2.ownBlock = some k → v.ownBlock = some k ∨ w.heap.size ≤ k) ∧
    (∀ t, R2.set (rfree R) (some t) = rputAt R (rfree R) t)
theorem rcre_end {q : Nat} {v : Value} {clk : Int} {R R2 : RSt} {g cap : Nat} {own e0 e1 e2 e3 e4 : Int} {w W : World} {cur : Array Value} {o2 : Option TT} (h : MidC q v clk R R2 (.slice (some ⟨g, 0, none⟩) R2.length cap) e0 e1 e2 e3 e4 w W) (ho : R2[rfree R]? = some o2) (hq : q ≠ g)
    (hb : W.drew.heap[g]? = some (.cells cur 96 (0, 0))) (hle : rfree R * 10 + 10 ≤ cur.size) (hc : rcreC R own e0 e1 e2 e3 = 0) :
    RCre q v clk R (rcreR R own e0 e1 e2 e3 e4) w (W.drew.setCells g (rfree R * 10) (rcell (some (newT own e0 e1 e2 e3 e4)))) := by
  obtain ⟨h1, h2, h3, h4, h5, h6⟩ := h
  have h1' : RS W.drew q (.slice (some ⟨g, 0, none⟩) R2.length cap) clk R2 := h1.below (below_drew (Below.refl _ _))
  refine ⟨(h4.drew).trans (keeps_setCells _ g _ _) (fun k hk => ?_), .slice (some ⟨g, 0, none⟩) R2.length cap, ?_, h5⟩
  · rcases h5 g rfl with hx | hx
    · exact .inl (.inr (by rw [hk]; exact hx))
    · exact .inr (by rw [hk]; exact hx)
  · unfold rcreR
    rw [if_pos hc, ← h6]
    exact h1'.put (o' := some (newT own e0 e1 e2 e3 e4)) (j := 0) (vs := rcell (some (newT own e0 e1 e2 e3 e4))) ho (by rw [rcell_len]; decide) (by cases o2 <;> rfl) (setCells_far _ _ _ hq) (fun cur' hb' => by
      rw [hb] at hb'
      cases hb'
      exact setCells_row _ _ _ _ hb (by rw [rcell_len]; exact hle))

theorem mid_hdr {q : Nat} {v : Value} {clk : Int} {R : RSt} {wr w2 : World} {o : Obj} (h : RS wr q v clk R) (hg : (wr.alloc o).grownBy w2 v.ownBlock) : w2.heap[q]? = some (.cells #[v, .int .i64 clk] 85 (0, 0)) :=
  blk_oth (blk_alloc h.hdr o) hg (fun e => by have := (h.row.lt _ e).1; omega)
theorem mid_app {q : Nat} {v : Value} {clk : Int} {R R2 : RSt} {e0 e1 e2 e3 e4 : Int} {w wr w2 : World} {o : Obj} {g0 cap0 : Nat} (h : RS wr q v clk R) (hown : w2.ownsRow (q + 1) 96 10 (.slice (some ⟨g0, 0, none⟩) (R.length + 1) cap0) (R.length + 1) (rflat R ++ zcells.toList)) (hg : (wr.alloc o).grownBy w2 v.ownBlock)
    (hl : rfree R = R.length) (hf : rfree R ≠ 1000) (hb : Below w.heap.size w wr) (he : wr.heap[w.heap.size]? = some (.cells #[.int .i64 e0, .int .i64 e1, .int .i64 e2, .int .i64 e3, .int .i64 e4] 38 (0, 0)))
    (hblk : (Value.slice (some ⟨g0, 0, none⟩) (R.length + 1) cap0).ownBlock = v.ownBlock ∨ (Value.slice (some ⟨g0, 0, none⟩) (R.length + 1) cap0).ownBlock = some (wr.heap.size + 1)) (hqw : q < w.heap.size) (hvw : ∀ k, v.ownBlock = some k → k < w.heap.size) (hR2 : R2 = R ++ [none]) :
    MidC q v clk R R2 (.slice (some ⟨g0, 0, none⟩) (R.length + 1) cap0) e0 e1 e2 e3 e4 w (w2.setCell ⟨q, 0, none⟩ (.slice (some ⟨g0, 0, none⟩) (R.length + 1) cap0)) := by
  have hq2 := mid_hdr h hg
  have hlen := h.len
  have hgq : q < g0 := by
    have := (hown.lt g0 rfl).1
    omega
  have hk1 : Keeps w w2 (ROwn q v) := ((Keeps.of_below hb _).alloc _).grown hg (fun k e => .inl (.inr e))
  have hk2 := hk1.set ⟨q, 0, none⟩ (.slice (some ⟨g0, 0, none⟩) (R.length + 1) cap0) (.inl (.inl rfl))
  have h2 : ∀ k, (Value.slice (some ⟨g0, 0, none⟩) (R.length + 1) cap0).ownBlock = some k → v.ownBlock = some k ∨ w.heap.size ≤ k := fun k hk => by
    rcases hblk with e | e
    · exact .inl (e ▸ hk)
    · rw [e] at hk
      injection hk with hk
      right
      have := hb.size
      omega
  have h3 : (w2.setCell ⟨q, 0, none⟩ (.slice (some ⟨g0, 0, none⟩) (R.length + 1) cap0)).heap[w.heap.size]? = some (.cells #[.int .i64 e0, .int .i64 e1, .int .i64 e2, .int .i64 e3, .int .i64 e4] 38 (0, 0)) := by
    rw [Below.heap_setCell _ _ _ _ (show w.heap.size ≠ q by omega)]
    exact blk_oth (blk_alloc he o) hg (fun e => by have := hvw _ e; omega)
  have h1 : RS (w2.setCell ⟨q, 0, none⟩ (.slice (some ⟨g0, 0, none⟩) (R.length + 1) cap0)) q (.slice (some ⟨g0, 0, none⟩) (R.length + 1) cap0) clk R2 := by
    subst hR2
    have e1 : rflat (R ++ [none]) = rflat R ++ zcells.toList := by rw [rflat_app]; rfl
    refine ⟨blk_put (cs := #[v, .int .i64 clk]) hq2 0 _ rfl, ?_, by rw [List.length_append]; simp; omega⟩
    rw [e1, List.length_append]
    refine own_move hown (fun k hk => ?_)
    have : g0 = k := by simpa [Value.ownBlock] using hk
    exact Below.heap_setCell _ _ _ _ (by show k ≠ q; omega)
  refine ⟨h1, ?_, h3, hk2, h2, fun t => ?_⟩
  · rw [hR2, hl, List.length_append]; simp
  · rw [hR2]
    unfold rputAt
    rw [if_neg (by omega), hl]
    simp

set_option maxRecDepth 100000 in
set_option maxHeartbeats 1000000 in
theorem rcre_any (q : Nat) (v : Value) (clk : Int) (R : RSt) (own e0 e1 e2 e3 e4 : Int) (w : World) (h : RS w q v clk R) :
    Calls Try.prog 34 #[.pointer (some ⟨q, 0, none⟩), .int .i64 own, evV e0 e1 e2 e3 e4] w fun e w' =>
      e = .returned (.tuple #[.int .i64 (rcreI R own e0 e1 e2 e3), .int .i64 (rcreC R own e0 e1 e2 e3)]) ∧ RCre q v clk R (rcreR R own e0 e1 e2 e3 e4) w w' := by
  have HK := Lib.hid (fun w => valid_any e0 e1 e2 e3 e4 w)
  have HS := Lib.hid h
  have HI := Lib.hid (show rcreI R own e0 e1 e2 e3 = if rcreC R own e0 e1 e2 e3 = 0 then (rfree R : Int) else 0 from rfl)
  have HC := Lib.hid (show rcreC R own e0 e1 e2 e3 = if decide (own < 0) || decide (64 ≤ own) then 34 else if chkE e0 e1 e2 e3 = 0 then (if rfree R = 1000 then 18 else 0) else chkE e0 e1 e2 e3 from rfl)
  have hno : ∀ w', Below w.heap.size w w' → rcreC R own e0 e1 e2 e3 ≠ 0 → RCre q v clk R (rcreR R own e0 e1 e2 e3 e4) w w' := fun w' hb hc => ⟨Keeps.of_below hb _, v, by unfold rcreR; rw [if_neg hc]; exact h.below hb, fun k hk => .inl hk⟩
  have HN := Lib.hid hno
  have HH := Lib.hid (fun (i : Int) w' hb => rhas_any q v clk R i w' (h.below hb))
  clear h hno
  unfold evV at HK ⊢
  cases d1 : decide (own < 0) <;> cases d2 : decide (64 ≤ own)
  case false.false =>
    rw [d1, d2] at HC
    simp only [Bool.or_self, Bool.false_eq_true, if_false] at HC
    by_cases hc : chkE e0 e1 e2 e3 = 0
    · rw [if_pos hc] at HC
      have HR := Lib.hid (rfree_le R)
      by_cases hf : rfree R = 1000
      · rw [if_pos hf] at HC
        have d3 : ((rfree R : Int) == 1000) = true := by simp [hf]
        have HI' := Lib.hid (HI.out.trans (if_neg (by rw [HC.out]; decide)))
        rw [HI'.out]
        rw [HC.out]
        clear hf
        go_enter Try.func34, Try.ntmps34
        go_wp2_with fail
        refine (HK.out _).mono ?_
        rintro e w1 ⟨rfl, hb1⟩
        rw [hc]
        have HB := Lib.hid (below_step (below_alloc (Below.refl _ _) _) hb1)
        have HE := Lib.hid (blk_below (blk_new w _) hb1 : w1.heap[w.heap.size]? = some (.cells #[.int .i64 e0, .int .i64 e1, .int .i64 e2, .int .i64 e3, .int .i64 e4] 38 (0, 0)))
        clear hb1 hc
        go_wp2
        go_loopw [9] (fun i wr => ∃ k : Nat, k ≤ rfree R ∧ i = .int .i64 k ∧ wr = w1) (fun i _ => rfree R - (RowKit.intOf i).toNat)
        case atStart => exact ⟨0, Nat.zero_le _, rfl, rfl⟩
        case round =>
          obtain ⟨k, hk, rfl, rfl⟩ := hrel
          have hlr : (R.length : Int) ≤ 1000 := by have := HS.out.len; omega
          have hkr : (k : Int) ≤ 1000 := by have := HR.out; omega
          by_cases hkf : k < rfree R
          · have HX := Lib.hid (rfree_some hkf)
            go_wp2_with fail
            refine (HH.out _ _ HB.out).mono ?_
            rintro e w2 ⟨rfl, rfl⟩
            rw [rhas_at, HX.out]
            go_wp2
            go_roundw
            case rel => exact ⟨k + 1, by omega, by go_num, trivial⟩
            case measure => simp [RowKit.intOf]; omega
          · obtain rfl : k = rfree R := by omega
            have HX := Lib.hid (rfree_none R)
            go_wp2_with fail
            refine (HH.out _ _ HB.out).mono ?_
            rintro e w2 ⟨rfl, rfl⟩
            rw [rhas_at, HX.out]
            simp only [Option.isSome_none]
            clear hk hkf
            go_wp2
            go_ret2
            exact ⟨rfl, HN.out _ HB.out (by rw [HC.out]; decide)⟩
      · rw [if_neg hf] at HC
        have d3 : ((rfree R : Int) == 1000) = false := by simpa using (by omega : ¬ (rfree R : Int) = 1000)
        have HI' := Lib.hid (HI.out.trans (if_pos HC.out))
        rw [HI'.out]
        rw [HC.out]
        have HF := Lib.hid hf
        clear hf
        by_cases hl : rfree R = R.length
        · have d4 : ((rfree R : Int) == (R.length : Int)) = true := by simp [hl]
          have HLL := Lib.hid hl
          have HVV := Lib.hid (show (v = .slice none 0 0 ∧ R.length = 0) ∨ ∃ g cap, v = .slice (some ⟨g, 0, none⟩) R.length cap from by
            rcases HS.out.row.2 with h2 | ⟨g, cap, cur, h1, -⟩
            · exact .inl h2
            · exact .inr ⟨g, cap, h1⟩)
          obtain ⟨i0, hi0, hz0, hz1, hz2⟩ := info_parts info96
          have HIN := Lib.hid (And.intro hi0 (And.intro hz0 (And.intro hz1 hz2)))
          clear hl hi0 hz0 hz1 hz2
          go_enter Try.func34, Try.ntmps34
          go_wp2_with fail
          refine (HK.out _).mono ?_
          rintro e w1 ⟨rfl, hb1⟩
          rw [hc]
          have HB := Lib.hid (below_step (below_alloc (Below.refl _ _) _) hb1)
          have HE := Lib.hid (blk_below (blk_new w _) hb1 : w1.heap[w.heap.size]? = some (.cells #[.int .i64 e0, .int .i64 e1, .int .i64 e2, .int .i64 e3, .int .i64 e4] 38 (0, 0)))
          clear hb1 hc
          go_wp2
          go_loopw [9] (fun i wr => ∃ k : Nat, k ≤ rfree R ∧ i = .int .i64 k ∧ wr = w1) (fun i _ => rfree R - (RowKit.intOf i).toNat)
          case atStart => exact ⟨0, Nat.zero_le _, rfl, rfl⟩
          case round =>
            obtain ⟨k, hk, rfl, rfl⟩ := hrel
            have hlr : (R.length : Int) ≤ 1000 := by have := HS.out.len; omega
            have hkr : (k : Int) ≤ 1000 := by have := HR.out; omega
            by_cases hkf : k < rfree R
            · have HX := Lib.hid (rfree_some hkf)
              go_wp2_with fail
              refine (HH.out _ _ HB.out).mono ?_
              rintro e w2 ⟨rfl, rfl⟩
              rw [rhas_at, HX.out]
              go_wp2
              go_roundw
              case rel => exact ⟨k + 1, by omega, by go_num, trivial⟩
              case measure => simp [RowKit.intOf]; omega
            · obtain rfl : k = rfree R := by omega
              have HX := Lib.hid (rfree_none R)
              go_wp2_with fail
              refine (HH.out _ _ HB.out).mono ?_
              rintro e w2 ⟨rfl, rfl⟩
              rw [rhas_at, HX.out]
              simp only [Option.isSome_none]
              clear hk hkf
              have hS1 := HS.out.below HB.out
              have c0 : wr.cell? ⟨q, 0, none⟩ = some v := blk_cell hS1.hdr 0
              have fq : wr.frozen? ⟨q, 0, none⟩ = false := blk_frozen hS1.hdr 0
              have HS1 := Lib.hid hS1
              clear hS1
              have HSZ := Lib.hid HB.out.size
              have HD5 := Lib.hid (show v = .slice none 0 0 → ((rfree R : Int) == 0) = true from fun e => by
                rcases HVV.out with ⟨-, hz⟩ | ⟨gg, cc, hv⟩
                · rw [HLL.out, hz]; rfl
                · rw [hv] at e; cases e)
              rcases HVV.out with ⟨rfl, -⟩ | ⟨gg, cc, rfl⟩
              all_goals
                try have d5 := HD5.out rfl
                clear HD5
                go_wp2_with (refine gate_builtin (b := .append) (xs := #[.tmp 39, .tmp 41]) (ts := #[83, 83]) rfl ?_; go_must (refine wpList_append_own_at _ rfl (.tmp 39) (.tmp 41) 83 rfl (q + 1) 96 i0 (.agg zcells) 10 80 Try.underlying83 HIN.out.1 HIN.out.2.1 HIN.out.2.2.1 HIN.out.2.2.2 rfl (by decide) _ R.length (rflat R) rfl (World.ownsRow.alloc HS1.out.row _) ⟨wr.heap.size, 0, none⟩ 1 1 zcells.toList rfl rfl ?c1 (by intro u hu; simp [zcells] at hu; rcases hu with rfl | rfl | rfl | rfl | rfl | rfl | rfl | rfl | rfl | rfl <;> rfl) (by have := HS1.out.len; unfold maxLen; omega) (by have := HS1.out.len; omega) (by have := blk_lt HS1.out.hdr; simp; omega) ?_))
                case c1 =>
                  intro j u hu
                  first
                    | (simpa [zcells] using hu)
                    | (rw [addmk, blk_cell (blk_new wr _), Nat.zero_add, ← Array.getElem?_toList]; exact hu)
                intro v' w2 hown' hg' hnil' hblk'
                obtain ⟨g0, cap0, rfl⟩ : ∃ g0 cap0, v' = .slice (some ⟨g0, 0, none⟩) (R.length + 1) cap0 := by
                  rcases hown'.2 with ⟨-, h2⟩ | ⟨g, cap, cur, h1, -⟩
                  · omega
                  · exact ⟨g, cap, h1⟩
                obtain ⟨R2, hR2⟩ : ∃ R2 : RSt, R2 = R ++ [none] := ⟨_, rfl⟩
                have hlen2 : R.length + 1 = R2.length := by rw [hR2]; simp
                have HX := Lib.hid (mid_app HS1.out hown' hg' HLL.out HF.out HB.out HE.out hblk' (blk_lt HS.out.hdr) (fun k hk => (HS.out.row.lt _ hk).2) hR2)
                have c0' : w2.cell? ⟨q, 0, none⟩ = some _ := blk_cell (mid_hdr HS1.out hg') 0
                have fq' : w2.frozen? ⟨q, 0, none⟩ = false := blk_frozen (mid_hdr HS1.out hg') 0
                rw [hlen2] at HX ⊢
                clear hown' hg' hnil' hblk' c0 fq hR2 hlen2
                go_wp2
                clear c0' fq' d3 d4
                refine abs_w (MidC q _ clk R R2 (.slice (some ⟨g0, 0, none⟩) R2.length cap0) e0 e1 e2 e3 e4 w) HX.out ?_
                intro W hMID
                have H2 := Lib.hid hMID
                clear hMID
                obtain ⟨o2, ho2⟩ : ∃ o2, R2[rfree R]? = some o2 := ⟨_, List.getElem?_eq_getElem H2.out.2.1⟩
                obtain ⟨g, cap, cur, hvv, hqg, hb, hc1, hc2, hc3, ht⟩ := H2.out.1.open (by have := H2.out.2.1; omega)
                obtain ⟨rfl, rfl⟩ : g0 = g ∧ cap0 = cap := by simpa using hvv
                clear hvv
                have c0 : W.cell? ⟨q, 0, none⟩ = some (.slice (some ⟨g0, 0, none⟩) R2.length cap0) := blk_cell H2.out.1.hdr 0
                have b0 : W.cell? ⟨w.heap.size, 0, none⟩ = some (.int .i64 e0) := blk_cell H2.out.2.2.1 0
                have b1 : W.cell? ⟨w.heap.size, 1, none⟩ = some (.int .i64 e1) := blk_cell H2.out.2.2.1 1
                have b2 : W.cell? ⟨w.heap.size, 2, none⟩ = some (.int .i64 e2) := blk_cell H2.out.2.2.1 2
                have b3 : W.cell? ⟨w.heap.size, 3, none⟩ = some (.int .i64 e3) := blk_cell H2.out.2.2.1 3
                have b4 : W.cell? ⟨w.heap.size, 4, none⟩ = some (.int .i64 e4) := blk_cell H2.out.2.2.1 4
                have hi0 : (0 : Int) ≤ (rfree R : Int) := by omega
                have hi1 : (rfree R : Int) < (R2.length : Int) := by have := H2.out.2.1; omega
                have HTH := Lib.hid (rs_there (cap := cap0) (blk_drew hb) (o := rfree R * 10) (n := 10) (by have := H2.out.2.1; omega))
                have HQ := Lib.hid (Nat.ne_of_lt hqg)
                have HBK := Lib.hid (blk_drew hb)
                have HLE := Lib.hid (show rfree R * 10 + 10 ≤ cur.size by have := H2.out.2.1; omega)
                have HO2 := Lib.hid ho2
                clear hb ht hc1 hc2 hc3 hqg ho2
                refine still_tail 9 (by kernel_rfl) (by kernel_rfl) ?_
                simp only [List.take_succ_cons, List.take_zero, List.drop_succ_cons, List.drop_zero]
                repeat still_step
                refine wpStill_nil ?_
                clear c0 b0 b1 b2 b3 b4 hi0 hi1
                refine wpList_store_mid rfl 96 (.tmp 53) (.tmp 52) rfl g0 (rfree R * 10) (rcell (some (newT own e0 e1 e2 e3 e4))).toArray (by rfl) (by rfl) HTH.out (by kernel_rfl) (by kernel_rfl) ?_
                go_wp2
                go_ret2
                exact ⟨rfl, rcre_end H2.out HO2.out HQ.out HBK.out HLE.out HC.out⟩
        · have d4 : ((rfree R : Int) == (R.length : Int)) = false := by simpa using (by omega : ¬ (rfree R : Int) = (R.length : Int))
          have HLT := Lib.hid (show rfree R < R.length by have := HR.out; omega)
          clear hl
          go_enter Try.func34, Try.ntmps34
          go_wp2_with fail
          refine (HK.out _).mono ?_
          rintro e w1 ⟨rfl, hb1⟩
          rw [hc]
          have HB := Lib.hid (below_step (below_alloc (Below.refl _ _) _) hb1)
          have HE := Lib.hid (blk_below (blk_new w _) hb1 : w1.heap[w.heap.size]? = some (.cells #[.int .i64 e0, .int .i64 e1, .int .i64 e2, .int .i64 e3, .int .i64 e4] 38 (0, 0)))
          clear hb1 hc
          go_wp2
          go_loopw [9] (fun i wr => ∃ k : Nat, k ≤ rfree R ∧ i = .int .i64 k ∧ wr = w1) (fun i _ => rfree R - (RowKit.intOf i).toNat)
          case atStart => exact ⟨0, Nat.zero_le _, rfl, rfl⟩
          case round =>
            obtain ⟨k, hk, rfl, rfl⟩ := hrel
            have hlr : (R.length : Int) ≤ 1000 := by have := HS.out.len; omega
            have hkr : (k : Int) ≤ 1000 := by have := HR.out; omega
            by_cases hkf : k < rfree R
            · have HX := Lib.hid (rfree_some hkf)
              go_wp2_with fail
              refine (HH.out _ _ HB.out).mono ?_
              rintro e w2 ⟨rfl, rfl⟩
              rw [rhas_at, HX.out]
              go_wp2
              go_roundw
              case rel => exact ⟨k + 1, by omega, by go_num, trivial⟩
              case measure => simp [RowKit.intOf]; omega
            · obtain rfl : k = rfree R := by omega
              have HX := Lib.hid (rfree_none R)
              go_wp2_with fail
              refine (HH.out _ _ HB.out).mono ?_
              rintro e w2 ⟨rfl, rfl⟩
              rw [rhas_at, HX.out]
              simp only [Option.isSome_none]
              clear hk hkf
              have hS1 := HS.out.below HB.out
              obtain ⟨g0, cap0, cur0, hv0, -⟩ := hS1.open (by have := HLT.out; omega)
              have HMID : MidC q v clk R R v e0 e1 e2 e3 e4 w wr := ⟨hS1, HLT.out, HE.out, Keeps.of_below HB.out _, fun k hk => .inl hk, fun t => by unfold rputAt; rw [if_pos HLT.out]⟩
              have H2 := Lib.hid HMID
              subst hv0
              have c0 : wr.cell? ⟨q, 0, none⟩ = some (.slice (some ⟨g0, 0, none⟩) R.length cap0) := blk_cell hS1.hdr 0
              clear HMID hS1
              go_wp2
              clear d3 d4 c0
              obtain ⟨o2, ho2⟩ : ∃ o2, R[rfree R]? = some o2 := ⟨_, List.getElem?_eq_getElem H2.out.2.1⟩
              obtain ⟨g, cap, cur, hvv, hqg, hb, hc1, hc2, hc3, ht⟩ := H2.out.1.open (by have := H2.out.2.1; omega)
              obtain ⟨rfl, rfl⟩ : g0 = g ∧ cap0 = cap := by simpa using hvv
              clear hvv
              have c0 : wr.cell? ⟨q, 0, none⟩ = some (.slice (some ⟨g0, 0, none⟩) R.length cap0) := blk_cell H2.out.1.hdr 0
              have b0 : wr.cell? ⟨w.heap.size, 0, none⟩ = some (.int .i64 e0) := blk_cell H2.out.2.2.1 0
              have b1 : wr.cell? ⟨w.heap.size, 1, none⟩ = some (.int .i64 e1) := blk_cell H2.out.2.2.1 1
              have b2 : wr.cell? ⟨w.heap.size, 2, none⟩ = some (.int .i64 e2) := blk_cell H2.out.2.2.1 2
              have b3 : wr.cell? ⟨w.heap.size, 3, none⟩ = some (.int .i64 e3) := blk_cell H2.out.2.2.1 3
              have b4 : wr.cell? ⟨w.heap.size, 4, none⟩ = some (.int .i64 e4) := blk_cell H2.out.2.2.1 4
              have hi0 : (0 : Int) ≤ (rfree R : Int) := by omega
              have hi1 : (rfree R : Int) < (R.length : Int) := by have := H2.out.2.1; omega
              have HTH := Lib.hid (rs_there (cap := cap0) (blk_drew hb) (o := rfree R * 10) (n := 10) (by have := H2.out.2.1; omega))
              have HQ := Lib.hid (Nat.ne_of_lt hqg)
              have HBK := Lib.hid (blk_drew hb)
              have HLE := Lib.hid (show rfree R * 10 + 10 ≤ cur.size by have := H2.out.2.1; omega)
              have HO2 := Lib.hid ho2
              clear hb ht hc1 hc2 hc3 hqg ho2
              refine still_tail 9 (by kernel_rfl) (by kernel_rfl) ?_
              simp only [List.take_succ_cons, List.take_zero, List.drop_succ_cons, List.drop_zero]
              repeat still_step
              refine wpStill_nil ?_
              clear c0 b0 b1 b2 b3 b4 hi0 hi1
              refine wpList_store_mid rfl 96 (.tmp 53) (.tmp 52) rfl g0 (rfree R * 10) (rcell (some (newT own e0 e1 e2 e3 e4))).toArray (by rfl) (by rfl) HTH.out (by kernel_rfl) (by kernel_rfl) ?_
              go_wp2
              go_ret2
              exact ⟨rfl, rcre_end H2.out HO2.out HQ.out HBK.out HLE.out HC.out⟩
    · rw [if_neg hc] at HC
      have d3 : (chkE e0 e1 e2 e3 != 0) = true := by simpa using hc
      have d4 : (chkE e0 e1 e2 e3 == 0) = false := by simpa using hc
      have HI' := Lib.hid (HI.out.trans (if_neg (by rw [HC.out]; exact hc)))
      have HZ := Lib.hid hc
      rw [HI'.out]
      go_enter Try.func34, Try.ntmps34
      go_wp2_with fail
      refine (HK.out _).mono ?_
      rintro e w1 ⟨rfl, hb1⟩
      have HB := Lib.hid (below_step (below_alloc (Below.refl _ _) _) hb1)
      clear hb1 hc
      go_wp2
      go_ret2
      exact ⟨by rw [HC.out]; rfl, HN.out _ HB.out (by rw [HC.out]; exact HZ.out)⟩
  all_goals
    rw [d1, d2] at HC
    have HC' := Lib.hid (HC.out.trans (if_pos rfl))
    have HI' := Lib.hid (HI.out.trans (if_neg (by rw [HC'.out]; decide)))
    rw [HI'.out]
    go_enter Try.func34, Try.ntmps34
    go_wp2
    go_ret2
    exact ⟨by rw [HC'.out]; rfl, HN.out _ (below_alloc (Below.refl _ _) _) (by rw [HC'.out]; decide)⟩
end
end Go.Proofs.Ytodgbpggkikbcaa
