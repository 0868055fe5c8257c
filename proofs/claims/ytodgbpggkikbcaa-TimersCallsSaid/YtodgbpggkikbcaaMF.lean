/- Timers: Expire. -/
import Derived.Test.YtodgbpggkikbcaaME
import Derived.Test.YtodgbpggkikbcaaMC
import Derived.Maps.AppendAt
namespace Go.Proofs.Ytodgbpggkikbcaa
section
set_option linter.unusedVariables false
set_option linter.unusedSimpArgs false
set_option maxRecDepth 100000
open Go.RowKit Go.Maps Go.Sort Go.Lib Go.Shelf Go.Proofs.YtodgbpggkikbcaaW.PrintWords Go.Proofs.YtodgbpggkikbcaaW.PrintLast Go.Proofs.YtodgbpggkikbcaaW.PrintMore FLib

theorem ops17_size : (opsOf Try.f13 17).size = 13 := by kernel_rfl
theorem ops17_deps : (List.range 13).map (fun i => depsOf (opsOf Try.f13 17) i) = [[], [], [], [2], [3], [4], [], [], [6, 7], [1, 5, 8], [9], [0, 10, 8], [11, 11, 0, 1, 2, 3, 4, 5, 6, 7, 8, 9, 10, 11]] := by kernel_rfl
theorem ops17_dep {i : Nat} (h : i < 13) : depsOf (opsOf Try.f13 17) i = ([[], [], [], [2], [3], [4], [], [], [6, 7], [1, 5, 8], [9], [0, 10, 8], [11, 11, 0, 1, 2, 3, 4, 5, 6, 7, 8, 9, 10, 11]] : List (List Nat)).getD i [] := by
  have e : ((List.range 13).map (fun i => depsOf (opsOf Try.f13 17) i)).getD i [] = depsOf (opsOf Try.f13 17) i := by simp [List.getD_eq_getElem?_getD, h]
  rw [← e, ops17_deps]
theorem ops17_low : (List.range (opsOf Try.f13 17).size).all (fun j => (depsOf (opsOf Try.f13 17) j).all (fun d => decide (d < j))) = true := by
  rw [ops17_size]
  kernel_rfl
theorem op_at {i : Nat} {op : Op} {d : Option Nat} (h : ((opsOf Try.f13 17)[i]?).map (fun o => (o.op, o.dst, o.guard)) = some (op, d, none)) : ∃ o, (opsOf Try.f13 17)[i]? = some o ∧ o.op = op ∧ o.dst = d ∧ o.guard = none := by
  obtain ⟨o, ho, he⟩ := Option.map_eq_some_iff.1 h
  simp only [Prod.mk.injEq] at he
  exact ⟨o, ho, he.1, he.2.1, he.2.2⟩

/-- The cells of a timer that fires. -/
def firedC (i : Int) (t : TT) (now : Int) : List Value := [.int .i64 i, .int .i64 t.e0, .int .i64 t.e1, .int .i64 t.e2, .int .i64 t.e3, .int .i64 t.e4, .int .i64 (overs t now)]

structure Env where
  W1 : World
  qo : Nat
  qn : Nat
  b : Nat
  hi : Nat
  i : Int
  t : TT
  now : Int
  v : Value
  n : Nat
  xs : List Value
/-- What the operations give. -/
def Env.V (E : Env) : Nat → Value
  | 0 => E.v
  | 1 => .int .i64 E.i
  | 2 => .pointer (some ⟨E.b, 0, none⟩)
  | 3 => .pointer (some ⟨E.b, 0, none⟩)
  | 4 => .pointer (some ⟨E.b, 1, none⟩)
  | 5 => evV E.t.e0 E.t.e1 E.t.e2 E.t.e3 E.t.e4
  | 6 => .pointer (some ⟨E.b, 0, none⟩)
  | 7 => .int .i64 E.now
  | 8 => .int .i64 (overs E.t E.now)
  | 9 => .agg (firedC E.i E.t E.now).toArray
  | _ => undef
/-- Behind fire. -/
def Env.P1 (E : Env) (w : World) : Prop := Keeps E.W1 w (fun k => k = E.b) ∧ w.heap[E.b]? = some (.cells (fireT E.t E.now).cells 69 (0, 0))
def Env.P2 (E : Env) (g : Nat) (w : World) : Prop := ∃ wf, E.P1 wf ∧ g = wf.heap.size ∧ w = wf.alloc (.cells (firedC E.i E.t E.now).toArray 40)
def Env.P3 (E : Env) (v' : Value) (w : World) : Prop := ∃ g w2, E.P2 g w2 ∧ w.ownsRow E.hi 40 7 v' (E.n + 1) (E.xs ++ firedC E.i E.t E.now) ∧ w2.grownBy w E.v.ownBlock ∧ v' ≠ .slice none 0 0
def Env.P4 (E : Env) (w : World) : Prop := ∃ v' w3, E.P3 v' w3 ∧ w = w3.setCell ⟨E.qo, 0, none⟩ v'
structure Env.Ok (E : Env) : Prop where
  out : E.W1.heap[E.qo]? = some (.cells #[E.v] 34 (0, 0))
  now : E.W1.heap[E.qn]? = some (.cells #[.int .i64 E.now] 2 (0, 0))
  tim : E.W1.heap[E.b]? = some (.cells E.t.cells 69 (0, 0))
  no : E.qo ≠ E.b
  nn : E.qn ≠ E.b
  tok : TOk E.t
  fst : E.t.fst ≤ E.now
  lim : E.now ≤ 1099511627776
  row : E.W1.ownsRow E.hi 40 7 E.v E.n E.xs
  low : E.qo < E.hi
  lowb : E.b < E.hi
  hiw : E.hi ≤ E.W1.heap.size
  max : E.n ≤ 1000
def Env.Ph (E : Env) (listed : Array Bool) (a : Act) (w : World) : Prop :=
  if don listed 12 = true then E.P4 w else if don listed 11 = true then E.P3 (a.eval (.tmp 65)) w
  else if don listed 10 = true then ∃ g, a.eval (.tmp 64) = .slice (some ⟨g, 0, none⟩) 1 1 ∧ E.P2 g w else if don listed 8 = true then E.P1 w else w = E.W1
structure Env.I (E : Env) (fuel : Nat) (listed : Array Bool) (a : Act) (w : World) : Prop where
  size : listed.size = 13
  left : leftN listed = fuel
  tsz : a.tmps.size = 67
  s3 : a.eval (.tmp 3) = .pointer (some ⟨E.qn, 0, none⟩)
  s8 : a.eval (.tmp 8) = .pointer (some ⟨E.qo, 0, none⟩)
  s10 : a.eval (.tmp 10) = .int .i64 E.i
  s11 : a.eval (.tmp 11) = .pointer (some ⟨E.b, 0, none⟩)
  sl : ∀ j, j < 10 → don listed j = true → a.eval (.tmp (54 + j)) = E.V j
  cl : ∀ j, j < 13 → don listed j = true → ∀ d ∈ depsOf (opsOf Try.f13 17) j, don listed d = true
  ph : E.Ph listed a w

theorem Env.I.step {E : Env} {fuel : Nat} {listed : Array Bool} {a : Act} {w : World} (h : E.I (fuel + 1) listed a w) {i : Nat} (hi : i ∈ Region.ready .any (opsOf Try.f13 17) listed) (d : Option Nat) (u : Value)
    (hd : ∀ k, d = some k → k = 54 + i) (hV : i < 10 → d = some (54 + i) ∧ u = E.V i) {w' : World} (hph : E.Ph (listed.setIfInBounds i true) (a.put d u) w') : E.I fuel (listed.setIfInBounds i true) (a.put d u) w' := by
  obtain ⟨r1, r2, r3⟩ := ready_deps hi
  rw [ops17_size] at r2
  have hev : ∀ s, s ≠ 54 + i → (a.put d u).eval (.tmp s) = a.eval (.tmp s) := fun s hs => by
    cases d with
    | none => rfl
    | some k =>
      have := hd k rfl
      subst this
      rw [eval_put (by rw [h.tsz]; omega), if_neg hs]
  refine ⟨by rw [Array.size_setIfInBounds]; exact h.size, ?_, by rw [size_put]; exact h.tsz, (hev 3 (by omega)).trans h.s3, (hev 8 (by omega)).trans h.s8, (hev 10 (by omega)).trans h.s10, (hev 11 (by omega)).trans h.s11, fun j hj hd' => ?_, fun j hj hd' e he => ?_, hph⟩
  · have := leftN_set r1
    have := h.left
    omega
  · by_cases e : j = i
    · subst e
      obtain ⟨e1, e2⟩ := hV hj
      subst e1
      rw [eval_put (by rw [h.tsz]; omega), if_pos rfl, e2]
    · rw [don_set r1, if_neg e] at hd'
      rw [hev _ (by omega)]
      exact h.sl j hj hd'
  · rw [don_set r1]
    split
    · rfl
    · by_cases e2 : j = i
      · subst e2; exact r3 e he
      · rw [don_set r1, if_neg e2] at hd'
        exact h.cl j hj hd' e he
end
section
set_option linter.unusedVariables false
set_option linter.unusedSimpArgs false
set_option maxRecDepth 100000
open Go.RowKit Go.Maps Go.Sort Go.Lib Go.Shelf Go.Proofs.YtodgbpggkikbcaaW.PrintWords Go.Proofs.YtodgbpggkikbcaaW.PrintLast Go.Proofs.YtodgbpggkikbcaaW.PrintMore FLib

theorem info40 : (Try.prog.info? 40).map (fun i => (i.zero, i.size, i.bytes)) = some (some (.agg #[.int .i64 0, .int .i64 0, .int .i64 0, .int .i64 0, .int .i64 0, .int .i64 0, .int .i64 0]), 7, 56) := by kernel_rfl

/-- The operations are done in their order, as far as it is forced. -/
theorem Env.I.chain {E : Env} {fuel : Nat} {listed : Array Bool} {a : Act} {w : World} (h : E.I fuel listed a w) :
    (don listed 12 = true → don listed 11 = true) ∧ (don listed 11 = true → don listed 10 = true ∧ don listed 0 = true) ∧ (don listed 10 = true → don listed 9 = true) ∧ (don listed 9 = true → don listed 8 = true ∧ don listed 5 = true ∧ don listed 1 = true) ∧
    (don listed 8 = true → don listed 7 = true ∧ don listed 6 = true) ∧ (don listed 5 = true → don listed 4 = true) ∧ (don listed 4 = true → don listed 3 = true) ∧ (don listed 3 = true → don listed 2 = true) := by
  have hc : ∀ j d, j < 13 → d ∈ depsOf (opsOf Try.f13 17) j → don listed j = true → don listed d = true := fun j d hj hd hx => h.cl j hj hx d hd
  refine ⟨hc 12 11 (by omega) (by rw [ops17_dep (by omega)]; decide), fun hx => ⟨hc 11 10 (by omega) (by rw [ops17_dep (by omega)]; decide) hx, hc 11 0 (by omega) (by rw [ops17_dep (by omega)]; decide) hx⟩, hc 10 9 (by omega) (by rw [ops17_dep (by omega)]; decide),
    fun hx => ⟨hc 9 8 (by omega) (by rw [ops17_dep (by omega)]; decide) hx, hc 9 5 (by omega) (by rw [ops17_dep (by omega)]; decide) hx, hc 9 1 (by omega) (by rw [ops17_dep (by omega)]; decide) hx⟩,
    fun hx => ⟨hc 8 7 (by omega) (by rw [ops17_dep (by omega)]; decide) hx, hc 8 6 (by omega) (by rw [ops17_dep (by omega)]; decide) hx⟩,
    hc 5 4 (by omega) (by rw [ops17_dep (by omega)]; decide), hc 4 3 (by omega) (by rw [ops17_dep (by omega)]; decide), hc 3 2 (by omega) (by rw [ops17_dep (by omega)]; decide)⟩
theorem Env.I.late {E : Env} {fuel : Nat} {listed : Array Bool} {a : Act} {w : World} (h : E.I fuel listed a w) {i : Nat} (hi : i ≤ 10) (hn : don listed i = false) : don listed 11 = false ∧ don listed 12 = false := by
  obtain ⟨c12, c11, c10, c9, c8, c5, c4, c3⟩ := h.chain
  have h11 : don listed 11 = false := by
    cases hx : don listed 11 with
    | false => rfl
    | true =>
      exfalso
      obtain ⟨x10, x0⟩ := c11 hx
      have x9 := c10 x10
      obtain ⟨x8, x5, x1⟩ := c9 x9
      obtain ⟨x7, x6⟩ := c8 x8
      have x4 := c5 x5
      have x3 := c4 x4
      have x2 := c3 x3
      have hcase : i = 0 ∨ i = 1 ∨ i = 2 ∨ i = 3 ∨ i = 4 ∨ i = 5 ∨ i = 6 ∨ i = 7 ∨ i = 8 ∨ i = 9 ∨ i = 10 := by omega
      rcases hcase with rfl | rfl | rfl | rfl | rfl | rfl | rfl | rfl | rfl | rfl | rfl <;> simp_all
  refine ⟨h11, ?_⟩
  cases hx : don listed 12 with
  | false => rfl
  | true => rw [c12 hx] at h11; cases h11

/-- Where nothing has been appended, what the operations read is as it was. -/
structure Env.Rd (E : Env) (w : World) : Prop where
  out : w.heap[E.qo]? = some (.cells #[E.v] 34 (0, 0))
  now : w.heap[E.qn]? = some (.cells #[.int .i64 E.now] 2 (0, 0))
  tim : ∃ f : Int, w.heap[E.b]? = some (.cells ({ E.t with fst := f } : TT).cells 69 (0, 0))
theorem Env.P1.rd {E : Env} (hE : E.Ok) {w : World} (h : E.P1 w) : E.Rd w := ⟨h.1.blk hE.out hE.no, h.1.blk hE.now hE.nn, _, h.2⟩
theorem Env.Ph.rd {E : Env} (hE : E.Ok) {listed : Array Bool} {a : Act} {w : World} (h : E.Ph listed a w) (h11 : don listed 11 = false) (h12 : don listed 12 = false) : E.Rd w := by
  unfold Env.Ph at h
  rw [if_neg (by rw [h12]; decide), if_neg (by rw [h11]; decide)] at h
  split at h
  · obtain ⟨g, -, wf, h1, -, rfl⟩ := h
    obtain ⟨x1, x2, f, x3⟩ := h1.rd hE
    exact ⟨blk_alloc x1 _, blk_alloc x2 _, f, blk_alloc x3 _⟩
  · split at h
    · exact Env.P1.rd hE h
    · subst h; exact ⟨hE.out, hE.now, E.t.fst, hE.tim⟩
/-- A reading operation leaves the phase. -/
theorem Env.Ph.same {E : Env} {listed : Array Bool} {a : Act} {w : World} (h : E.Ph listed a w) {i : Nat} (r1 : listed.getD i true = false) (hi : i < 10) (h8 : i ≠ 8) (ht : a.tmps.size = 67) (u : Value) : E.Ph (listed.setIfInBounds i true) (a.put (some (54 + i)) u) w := by
  unfold Env.Ph at h ⊢
  have hn : ∀ j, j ≠ i → don (listed.setIfInBounds i true) j = don listed j := fun j hj => by rw [don_set r1, if_neg hj]
  have he : ∀ s, s ≠ 54 + i → (a.put (some (54 + i)) u).eval (.tmp s) = a.eval (.tmp s) := fun s hs => by rw [eval_put (by omega), if_neg hs]
  rw [hn 12 (by omega), hn 11 (by omega), hn 10 (by omega), hn 8 (by omega), he 65 (by omega), he 64 (by omega)]
  exact h
theorem rd_step {E : Env} {F : Fence} {n l₀ : Nat} {Q : Exit → Act → World → Prop} (hE : E.Ok) (hF : F.round = some l₀) (hFn : ∀ f, F.fn f) {fuel : Nat} {listed : Array Bool} {a : Act} {w : World} (h : E.I (fuel + 1) listed a w) {i : Nat} (hi : i ∈ Region.ready .any (opsOf Try.f13 17) listed) (h10 : i < 10) (h8 : i ≠ 8)
    {op : Op} (ho : (((opsOf Try.f13 17))[i]?).map (fun o => (o.op, o.dst, o.guard)) = some (op, some (54 + i), none)) (hd : ∀ c, op ≠ .defer c)
    (hr : ∀ o : Oper, o.op = op → E.Rd w → (execOp a.eval o).run Try.prog w = .ok (.value (E.V i)) w) : wpOpIn F n Try.prog (opsOf Try.f13 17) Q i (E.I fuel (listed.setIfInBounds i true)) a w := by
  obtain ⟨o, ho1, ho2, ho3, ho4⟩ := op_at ho
  have r1 := (ready_deps hi).1
  obtain ⟨h11, h12⟩ := h.late (by omega) (not_don r1)
  refine step_value ho1 ho4 (by rw [hF]; exact Oper.semAt_some _ _ _ (by rw [ho2]; exact hd)) hFn (hr o ho2 (h.ph.rd hE h11 h12)) ?_
  rw [ho3]
  exact h.step hi _ _ (fun k e => by injection e with e; exact e.symm) (fun _ => ⟨rfl, rfl⟩) (h.ph.same r1 h10 h8 h.tsz _)
end
section
set_option linter.unusedVariables false
set_option linter.unusedSimpArgs false
set_option maxRecDepth 100000
open Go.RowKit Go.Maps Go.Sort Go.Lib Go.Shelf Go.Proofs.YtodgbpggkikbcaaW.PrintWords Go.Proofs.YtodgbpggkikbcaaW.PrintLast Go.Proofs.YtodgbpggkikbcaaW.PrintMore FLib

theorem op17_0 : (((opsOf Try.f13 17))[0]?).map (fun o => (o.op, o.dst, o.guard)) = some (Op.load 34 (.tmp 8), some 54, none) := by kernel_rfl
theorem op17_1 : (((opsOf Try.f13 17))[1]?).map (fun o => (o.op, o.dst, o.guard)) = some (Op.move (.tmp 10), some 55, none) := by kernel_rfl
theorem op17_2 : (((opsOf Try.f13 17))[2]?).map (fun o => (o.op, o.dst, o.guard)) = some (Op.move (.tmp 11), some 56, none) := by kernel_rfl
theorem op17_3 : (((opsOf Try.f13 17))[3]?).map (fun o => (o.op, o.dst, o.guard)) = some (Op.nilCheck (.tmp 56), some 57, none) := by kernel_rfl
theorem op17_4 : (((opsOf Try.f13 17))[4]?).map (fun o => (o.op, o.dst, o.guard)) = some (Op.fieldAddr 69 (.tmp 57) 1, some 58, none) := by kernel_rfl
theorem op17_5 : (((opsOf Try.f13 17))[5]?).map (fun o => (o.op, o.dst, o.guard)) = some (Op.load 38 (.tmp 58), some 59, none) := by kernel_rfl
theorem op17_6 : (((opsOf Try.f13 17))[6]?).map (fun o => (o.op, o.dst, o.guard)) = some (Op.move (.tmp 11), some 60, none) := by kernel_rfl
theorem op17_7 : (((opsOf Try.f13 17))[7]?).map (fun o => (o.op, o.dst, o.guard)) = some (Op.load 2 (.tmp 3), some 61, none) := by kernel_rfl
theorem op17_8 : (((opsOf Try.f13 17))[8]?).map (fun o => (o.op, o.dst, o.guard)) = some (Op.call { callee := .value (.func 28), args := #[.tmp 60, .tmp 61], argTypes := #[67, 2] }, some 62, none) := by kernel_rfl
theorem op17_9 : (((opsOf Try.f13 17))[9]?).map (fun o => (o.op, o.dst, o.guard)) = some (Op.build 40 #[(0, .tmp 55), (1, .tmp 59), (2, .tmp 62)], some 63, none) := by kernel_rfl
theorem op17_10 : (((opsOf Try.f13 17))[10]?).map (fun o => (o.op, o.dst, o.guard)) = some (Op.buildSlice 34 1 #[(0, .tmp 63)], some 64, none) := by kernel_rfl
theorem op17_11 : (((opsOf Try.f13 17))[11]?).map (fun o => (o.op, o.dst, o.guard)) = some (Op.call { callee := .builtin .append, args := #[.tmp 54, .tmp 64], argTypes := #[34, 34] }, some 65, none) := by kernel_rfl
theorem op17_12 : (((opsOf Try.f13 17))[12]?).map (fun o => (o.op, o.dst, o.guard)) = some (Op.store 34 (.tmp 8) (.tmp 65), none, none) := by kernel_rfl

theorem add_mk (q j k : Nat) : (⟨q, j, none⟩ : Addr).add k = ⟨q, j + k, none⟩ := by simp [Addr.add]
theorem own_form {w : World} {base n : Nat} {e : TypeId} {v : Value} {xs : List Value} (h : w.ownsRow base e 7 v n xs) : v = .slice none 0 0 ∨ ∃ g cap, v = .slice (some ⟨g, 0, none⟩) n cap := by
  rcases h.2 with ⟨rfl, _⟩ | ⟨g, cap, cur, rfl, _⟩
  · exact .inl rfl
  · exact .inr ⟨g, cap, rfl⟩

set_option maxHeartbeats 1000000 in
theorem fire_step {E : Env} {F : Fence} {n l₀ : Nat} {Q : Exit → Act → World → Prop} (hE : E.Ok) (hF : F.round = some l₀) (hFn : ∀ f, F.fn f) (hn : 1 ≤ n) (hcall : ∀ w, w = E.W1 → CallsIn F (n - 1) Try.prog 28 #[.pointer (some ⟨E.b, 0, none⟩), .int .i64 E.now] w fun e w' => e = .returned (.int .i64 (overs E.t E.now)) ∧ E.P1 w')
    (fuel : Nat) (listed : Array Bool) (a : Act) (w : World) (i : Nat) (h : E.I (fuel + 1) listed a w) (hi : i ∈ Region.ready .any (opsOf Try.f13 17) listed) :
    wpOpIn F n Try.prog (opsOf Try.f13 17) Q i (E.I fuel (listed.setIfInBounds i true)) a w := by
  obtain ⟨r1, r2, r3⟩ := ready_deps hi
  rw [ops17_size] at r2
  have hcase : i = 0 ∨ i = 1 ∨ i = 2 ∨ i = 3 ∨ i = 4 ∨ i = 5 ∨ i = 6 ∨ i = 7 ∨ i = 8 ∨ i = 9 ∨ i = 10 ∨ i = 11 ∨ i = 12 := by omega
  have hsl := h.sl
  have hs3 := h.s3
  have hs8 := h.s8
  have hs10 := h.s10
  have hs11 := h.s11
  have hdep : ∀ d, d ∈ depsOf (opsOf Try.f13 17) i → don listed d = true := r3
  rw [ops17_dep r2] at hdep
  rcases hcase with rfl | rfl | rfl | rfl | rfl | rfl | rfl | rfl | rfl | rfl | rfl | rfl | rfl
  · -- 0: the slice
    refine rd_step hE hF hFn h hi (by omega) (by omega) op17_0 (by intro c hc; cases hc) (fun o ho hr => ?_)
    generalize a.eval = ρ at hs3 hs8 hs10 hs11 hsl ⊢
    have c0 := blk_cell hr.out 0
    simp only [List.getElem?_toArray, List.getElem?_cons_zero] at c0
    have hv : E.V 0 = E.v := rfl
    rcases own_form hE.row with hf | ⟨g, cap, hf⟩
    all_goals
      rw [hv, hf]
      rw [hf] at c0
      simp [execOp, ho, hs8, go_sem, c0]
  · refine rd_step hE hF hFn h hi (by omega) (by omega) op17_1 (by intro c hc; cases hc) (fun o ho hr => ?_)
    generalize a.eval = ρ at hs3 hs8 hs10 hs11 hsl ⊢
    simp [execOp, ho, hs10, go_sem, Env.V]
  · refine rd_step hE hF hFn h hi (by omega) (by omega) op17_2 (by intro c hc; cases hc) (fun o ho hr => ?_)
    generalize a.eval = ρ at hs3 hs8 hs10 hs11 hsl ⊢
    simp [execOp, ho, hs11, go_sem, Env.V]
  · refine rd_step hE hF hFn h hi (by omega) (by omega) op17_3 (by intro c hc; cases hc) (fun o ho hr => ?_)
    generalize a.eval = ρ at hs3 hs8 hs10 hs11 hsl ⊢
    have e2 : ρ (.tmp 56) = .pointer (some ⟨E.b, 0, none⟩) := hsl 2 (by omega) (hdep 2 (by simp))
    simp [execOp, ho, e2, go_sem, Env.V]
  · refine rd_step hE hF hFn h hi (by omega) (by omega) op17_4 (by intro c hc; cases hc) (fun o ho hr => ?_)
    generalize a.eval = ρ at hs3 hs8 hs10 hs11 hsl ⊢
    have e3 : ρ (.tmp 57) = .pointer (some ⟨E.b, 0, none⟩) := hsl 3 (by omega) (hdep 3 (by simp))
    simp [execOp, ho, e3, go_sem, Env.V]
  · refine rd_step hE hF hFn h hi (by omega) (by omega) op17_5 (by intro c hc; cases hc) (fun o ho hr => ?_)
    generalize a.eval = ρ at hs3 hs8 hs10 hs11 hsl ⊢
    have e4 : ρ (.tmp 58) = .pointer (some ⟨E.b, 1, none⟩) := hsl 4 (by omega) (hdep 4 (by simp))
    obtain ⟨f, ht⟩ := hr.tim
    unfold TT.cells at ht
    have c1 := blk_cell ht 1
    have c2 := blk_cell ht 2
    have c3 := blk_cell ht 3
    have c4 := blk_cell ht 4
    have c5 := blk_cell ht 5
    simp only [List.getElem?_toArray, List.getElem?_cons_zero, List.getElem?_cons_succ] at c1 c2 c3 c4 c5
    simp [execOp, ho, e4, go_sem, Env.V, evV, c1, c2, c3, c4, c5]
  · refine rd_step hE hF hFn h hi (by omega) (by omega) op17_6 (by intro c hc; cases hc) (fun o ho hr => ?_)
    generalize a.eval = ρ at hs3 hs8 hs10 hs11 hsl ⊢
    simp [execOp, ho, hs11, go_sem, Env.V]
  · refine rd_step hE hF hFn h hi (by omega) (by omega) op17_7 (by intro c hc; cases hc) (fun o ho hr => ?_)
    generalize a.eval = ρ at hs3 hs8 hs10 hs11 hsl ⊢
    have c0 := blk_cell hr.now 0
    simp only [List.getElem?_toArray, List.getElem?_cons_zero] at c0
    simp [execOp, ho, hs3, go_sem, Env.V, c0]
  · -- 8: fire
    obtain ⟨o, ho1, ho2, ho3, ho4⟩ := op_at op17_8
    have hnd := not_don r1
    obtain ⟨h11, h12⟩ := h.late (by omega) hnd
    obtain ⟨c12, c11, c10, c9, c8, c5, c4, c3⟩ := h.chain
    have h10 : don listed 10 = false := by
      cases hx : don listed 10 with
      | false => rfl
      | true => rw [(c9 (c10 hx)).1] at hnd; cases hnd
    have hph := h.ph
    unfold Env.Ph at hph
    rw [if_neg (by rw [h12]; decide), if_neg (by rw [h11]; decide), if_neg (by rw [h10]; decide), if_neg (by rw [hnd]; decide)] at hph
    have e6 : a.eval (.tmp 60) = .pointer (some ⟨E.b, 0, none⟩) := hsl 6 (by omega) (hdep 6 (by simp))
    have e7 : a.eval (.tmp 61) = .int .i64 E.now := hsl 7 (by omega) (hdep 7 (by simp))
    refine step_call (args := #[.pointer (some ⟨E.b, 0, none⟩), .int .i64 E.now]) (f := 28) ho1 ho4 (by rw [hF]; exact Oper.semAt_some _ _ _ (by rw [ho2]; intro c hc; cases hc)) hFn ?_ hn (hcall w hph) ?_
    · have ef : a.eval (.func 28) = .func (.func 28) #[] #[] := rfl
      generalize a.eval = ρ at e6 e7 ef ⊢
      have e28 := fun args w => enters_of (P := Try.prog) Try.func28 (by kernel_rfl) rfl args w
      simp [execOp, ho2, e6, e7, ef, go_sem, e28]
    · rintro e w'' ⟨rfl, hp⟩
      refine ⟨_, rfl, ?_⟩
      rw [ho3]
      refine h.step hi _ _ (fun k e => by injection e with e; exact e.symm) (fun _ => ⟨rfl, rfl⟩) ?_
      unfold Env.Ph
      rw [don_set r1, don_set r1, don_set r1, don_set r1]
      rw [if_neg (by simp [h12]), if_neg (by simp [h11]), if_neg (by simp [h10]), if_pos (by simp)]
      exact hp
  · refine rd_step hE hF hFn h hi (by omega) (by omega) op17_9 (by intro c hc; cases hc) (fun o ho hr => ?_)
    generalize a.eval = ρ at hs3 hs8 hs10 hs11 hsl ⊢
    have e1 : ρ (.tmp 55) = .int .i64 E.i := hsl 1 (by omega) (hdep 1 (by simp))
    have e5 : ρ (.tmp 59) = evV E.t.e0 E.t.e1 E.t.e2 E.t.e3 E.t.e4 := hsl 5 (by omega) (hdep 5 (by simp))
    have e8 : ρ (.tmp 62) = .int .i64 (overs E.t E.now) := hsl 8 (by omega) (hdep 8 (by simp))
    simp [execOp, ho, e1, e5, e8, go_sem, Env.V, evV, firedC]
  · -- 10: the one cell
    obtain ⟨o, ho1, ho2, ho3, ho4⟩ := op_at op17_10
    have hnd := not_don r1
    obtain ⟨h11, h12⟩ := h.late (by omega) hnd
    obtain ⟨c12, c11, c10, c9, c8, c5, c4, c3⟩ := h.chain
    have h9 := hdep 9 (by simp)
    have h8 := (c9 h9).1
    have hph := h.ph
    unfold Env.Ph at hph
    rw [if_neg (by rw [h12]; decide), if_neg (by rw [h11]; decide), if_neg (by rw [hnd]; decide), if_pos h8] at hph
    have e9 : a.eval (.tmp 63) = .agg (firedC E.i E.t E.now).toArray := hsl 9 (by omega) h9
    refine step_value (v := .slice (some ⟨w.heap.size, 0, none⟩) 1 1) (w' := w.alloc (.cells (firedC E.i E.t E.now).toArray 40)) ho1 ho4 (by rw [hF]; exact Oper.semAt_some _ _ _ (by rw [ho2]; intro c hc; cases hc)) hFn ?_ ?_
    · generalize a.eval = ρ at e9 ⊢
      unfold firedC at e9 ⊢
      simp [execOp, ho2, e9, go_sem]
    · rw [ho3]
      refine h.step hi _ _ (fun k e => by injection e with e; exact e.symm) (fun hx => absurd hx (by omega)) ?_
      unfold Env.Ph
      rw [don_set r1, don_set r1, don_set r1, don_set r1]
      rw [if_neg (by simp [h12]), if_neg (by simp [h11]), if_pos (by simp)]
      exact ⟨_, by rw [eval_put (by rw [h.tsz]; omega), if_pos rfl], w, hph, rfl, rfl⟩
  · -- 11: append
    obtain ⟨o, ho1, ho2, ho3, ho4⟩ := op_at op17_11
    have hnd := not_don r1
    obtain ⟨c12, c11, c10, c9, c8, c5, c4, c3⟩ := h.chain
    have h12 : don listed 12 = false := by
      cases hx : don listed 12 with
      | false => rfl
      | true => rw [c12 hx] at hnd; cases hnd
    have h10 := hdep 10 (by simp)
    have h0 := hdep 0 (by simp)
    have hph := h.ph
    unfold Env.Ph at hph
    rw [if_neg (by rw [h12]; decide), if_neg (by rw [hnd]; decide), if_pos h10] at hph
    obtain ⟨g, e10, hp2⟩ := hph
    have hp2' := hp2
    obtain ⟨wf, hp1, hg, hw⟩ := hp2
    have e0 : a.eval (.tmp 54) = E.v := hsl 0 (by omega) h0
    obtain ⟨i0, hi0, hz0, hz1, hz2⟩ := info_parts info40
    have hgb : E.W1.grownBy wf (some E.b) := ⟨hp1.1.os, hp1.1.tape, hp1.1.output, hp1.1.size, fun k hk hne => hp1.1.block k hk (fun e => hne (by rw [e]))⟩
    have hrow : w.ownsRow E.hi 40 7 E.v E.n E.xs := by
      rw [hw]
      exact (hE.row.kept hgb (.inr (fun e => by have := (hE.row.lt _ e).1; have := hE.lowb; omega))).alloc _
    have hcell : ∀ j u, (firedC E.i E.t E.now)[j]? = some u → w.cell? ((⟨g, 0, none⟩ : Addr).add j) = some u := fun j u hu => by
      rw [add_mk, hw, hg, blk_cell (blk_new wf _)]
      simpa using hu
    have hgs := hp1.1.size
    have hhw := hE.hiw
    have hmx := hE.max
    have hsz : w.heap.size = wf.heap.size + 1 := by rw [hw]; simp
    obtain ⟨v', w', hr, x1, x2, x3, x4⟩ := run_append_own_at (P := Try.prog) (w := w) E.hi 34 o.type 40 i0 _ 7 56 Try.underlying34 hi0 hz0 hz1 hz2 (by rfl) (by decide) E.v E.n E.xs hrow ⟨g, 0, none⟩ 1 1 (firedC E.i E.t E.now) rfl hcell
      (by intro u hu; simp [firedC] at hu; rcases hu with rfl | rfl | rfl | rfl | rfl | rfl | rfl <;> rfl) (by unfold maxLen; omega) (by omega) (by omega)
    refine step_value (v := v') (w' := w') ho1 ho4 (by rw [hF]; exact Oper.semAt_some _ _ _ (by rw [ho2]; intro c hc; cases hc)) hFn ?_ ?_
    · generalize a.eval = ρ at e0 e10 ⊢
      simp [execOp, ho2, resolve, invoke, builtin, e0, e10, hr, Result.andThen]
    · rw [ho3]
      refine h.step hi _ _ (fun k e => by injection e with e; exact e.symm) (fun hx => absurd hx (by omega)) ?_
      unfold Env.Ph
      rw [don_set r1, don_set r1, don_set r1, don_set r1]
      rw [if_neg (by simp [h12]), if_pos (by simp), eval_put (by rw [h.tsz]; omega), if_pos rfl]
      exact ⟨g, w, hp2', x1, x2, fun e => by have := (x3.1 e).2; omega⟩
  · -- 12: the store
    obtain ⟨o, ho1, ho2, ho3, ho4⟩ := op_at op17_12
    have hnd := not_don r1
    have h11 := hdep 11 (by simp)
    have hph := h.ph
    unfold Env.Ph at hph
    rw [if_neg (by rw [hnd]; decide), if_pos h11] at hph
    obtain ⟨v', hv'⟩ : ∃ v', a.eval (.tmp 65) = v' := ⟨_, rfl⟩
    rw [hv'] at hph
    have hph' := hph
    obtain ⟨g, w2, ⟨wf, hp1, hg, hw⟩, x1, x2, x3⟩ := hph
    have hout : w.heap[E.qo]? = some (.cells #[E.v] 34 (0, 0)) := by
      have h1 := (hp1.rd hE).out
      exact blk_oth (w := w2) (by rw [hw]; exact blk_alloc h1 _) x2 (fun e => by have := (hE.row.lt _ e).1; have := hE.low; omega)
    have c0 := blk_cell hout 0
    have f0 := blk_frozen hout 0
    simp only [List.getElem?_toArray, List.getElem?_cons_zero] at c0
    refine step_skip (w' := w.setCell ⟨E.qo, 0, none⟩ v') ho1 ho4 (by rw [hF]; exact Oper.semAt_some _ _ _ (by rw [ho2]; intro c hc; cases hc)) hFn ?_ ?_
    · generalize a.eval = ρ at hs8 hv' ⊢
      rcases own_form x1 with hf | ⟨g', cap, hf⟩
      · exact absurd hf x3
      · rw [hf] at hv' ⊢
        simp [execOp, ho2, hs8, hv', go_sem, c0, f0]
    · rw [ho3]
      refine h.step hi none undef (fun k e => by cases e) (fun hx => absurd hx (by omega)) ?_
      unfold Env.Ph
      rw [don_set r1, if_pos (by simp)]
      exact ⟨v', w, hph', rfl⟩
end
section
set_option linter.unusedVariables false
set_option linter.unusedSimpArgs false
open Go.RowKit Go.Maps Go.Sort Go.Lib Go.Shelf Go.Proofs.YtodgbpggkikbcaaW.PrintWords Go.Proofs.YtodgbpggkikbcaaW.PrintLast Go.Proofs.YtodgbpggkikbcaaW.PrintMore FLib

def tAt (L : Slots) (i : Nat) : TT := match at' L (i : Int) with | some (_, t) => t | none => ⟨0, 0, 0, 0, 0, 0, 0, 0, 0⟩
theorem tAt_of {L : Slots} {i b : Nat} {t : TT} (h : L[i]? = some (some (b, t))) : tAt L i = t := by unfold tAt; rw [at_nat_some.2 h]
/-- Which timers fire, in their order. -/
def dueL (L : Slots) (now : Int) : List Nat := (arm L).takeWhile (fun i => decide (fstAt L i ≤ now))
/-- The timers D fire. -/
def fireD (L : Slots) (now : Int) (D : List Nat) : Slots := L.mapIdx (fun i o => if i ∈ D then o.map (fun x => (x.1, fireT x.2 now)) else o)
def firedD (L : Slots) (now : Int) (D : List Nat) : List Value := D.flatMap (fun i : Nat => firedC (i : Int) (tAt L i) now)

theorem fireD_nil (L : Slots) (now : Int) : fireD L now [] = L := by
  unfold fireD
  refine List.ext_getElem? fun i => ?_
  rw [List.getElem?_mapIdx]
  cases L[i]? <;> simp
theorem fireD_get (L : Slots) (now : Int) (D : List Nat) (i : Nat) : (fireD L now D)[i]? = (L[i]?).map (fun o => if i ∈ D then o.map (fun x => (x.1, fireT x.2 now)) else o) := by
  unfold fireD; rw [List.getElem?_mapIdx]
theorem fireD_len (L : Slots) (now : Int) (D : List Nat) : (fireD L now D).length = L.length := by unfold fireD; rw [List.length_mapIdx]
theorem fireD_not {L : Slots} {now : Int} {D : List Nat} {i : Nat} (h : i ∉ D) : (fireD L now D)[i]? = L[i]? := by
  rw [fireD_get]
  simp only [if_neg h]
  cases L[i]? <;> simp
theorem fireD_in {L : Slots} {now : Int} {D : List Nat} {i b : Nat} {t : TT} (h : i ∈ D) (hi : L[i]? = some (some (b, t))) : (fireD L now D)[i]? = some (some (b, fireT t now)) := by
  rw [fireD_get, hi]; simp [h]
theorem fireD_snoc {L : Slots} {now : Int} {D : List Nat} {i b : Nat} {t : TT} (h : i ∉ D) (hi : L[i]? = some (some (b, t))) : fireD L now (D ++ [i]) = (fireD L now D).set i (some (b, fireT t now)) := by
  refine List.ext_getElem? fun j => ?_
  have hlt := (List.getElem?_eq_some_iff.1 hi).1
  by_cases e : j = i
  · subst e
    rw [fireD_in (by simp) hi, List.getElem?_set_self (by rw [fireD_len]; exact hlt)]
  · rw [List.getElem?_set_ne (Ne.symm e), fireD_get, fireD_get]
    simp [e]
theorem firedD_snoc {L : Slots} {now : Int} {D : List Nat} {i b : Nat} {t : TT} (hi : L[i]? = some (some (b, t))) : firedD L now (D ++ [i]) = firedD L now D ++ firedC i t now := by
  unfold firedD; rw [List.flatMap_append]; simp [tAt_of hi]
theorem firedC_len (i : Int) (t : TT) (now : Int) : (firedC i t now).length = 7 := rfl

theorem arm_nodup (L : Slots) : (arm L).Nodup := (ord_nodup L).filter _
theorem arm_not {L : Slots} {k i : Nat} (h : (arm L)[k]? = some i) : i ∉ (arm L).take k := by
  intro h1
  obtain ⟨j, hj, he⟩ := List.getElem_of_mem h1
  rw [List.length_take] at hj
  rw [List.getElem_take] at he
  obtain ⟨hk, he2⟩ := List.getElem?_eq_some_iff.1 h
  exact List.pairwise_iff_getElem.1 (arm_nodup L) j k (by omega) hk (by omega) (he.trans he2.symm)
theorem arm_take_succ {L : Slots} {k i : Nat} (h : (arm L)[k]? = some i) : (arm L).take (k + 1) = (arm L).take k ++ [i] := by rw [List.take_add_one, h]; rfl
theorem arm_take_len {L : Slots} {k : Nat} (h : k ≤ (arm L).length) : ((arm L).take k).length = k := by rw [List.length_take]; omega
theorem sim_fire (L : Slots) (now : Int) (k : Nat) : Sim k L (fireD L now ((arm L).take k)) := by
  intro i b t hi
  by_cases h : i ∈ (arm L).take k
  · exact ⟨_, fireD_in h hi, fun h' => absurd h h'⟩
  · exact ⟨t, by rw [fireD_not h]; exact hi, fun _ => rfl⟩
theorem takeWhile_stop {α : Type} (p : α → Bool) : ∀ (l : List α) (k : Nat), (∀ x ∈ l.take k, p x = true) → (∀ x, l[k]? = some x → p x = false) → l.takeWhile p = l.take k
  | [], k, _, _ => by simp
  | x :: l, 0, _, h2 => by rw [List.takeWhile_cons, h2 x (by simp)]; simp
  | x :: l, k + 1, h1, h2 => by
    rw [List.takeWhile_cons, h1 x (by simp), if_pos rfl, takeWhile_stop p l k (fun y hy => h1 y (by simp [hy])) (fun y hy => h2 y (by simpa using hy))]
    rfl
theorem due_stop {L : Slots} {now : Int} {k : Nat} (h1 : ∀ i ∈ (arm L).take k, fstAt L i ≤ now) (h2 : ∀ i, (arm L)[k]? = some i → now < fstAt L i) : dueL L now = (arm L).take k :=
  takeWhile_stop _ _ _ (fun x hx => by simpa using h1 x hx) (fun x hx => by have := h2 x hx; simpa using this)

theorem fireT_ok {t : TT} (ht : TOk t) {now : Int} (h0 : t.fst ≤ now) (h1 : now ≤ 1099511627776) : TOk (fireT t now) := by
  obtain ⟨a0, a1, a2, a3, a4, a5⟩ := id ht
  have hn : 0 ≤ nextF t now ∧ nextF t now ≤ 1099511627776 := by
    unfold nextF
    split
    · omega
    · rename_i hz
      obtain ⟨b0, b1, b2, b3⟩ := overs_bound ht h0 h1 hz
      split
      · omega
      · rename_i hb
        unfold overs at hb ⊢
        rw [if_neg hz] at hb ⊢
        omega
  exact ⟨hn.1, hn.2, a2, a3, a4, a5⟩

def expE (clk now : Int) : Int := if okT now then (if now < clk then 30 else 0) else 34
def expG (L : Slots) (now : Int) : Bool := (nextV L).2 && decide ((nextV L).1 ≤ now)
def expD (L : Slots) (clk now : Int) : List Nat := if expE clk now = 0 then (if expG L now then dueL L now else []) else []
def expC (clk now : Int) : Int := if expE clk now = 0 then now else clk
/-- Behind Expire. -/
structure ExpPost (p mb : Nat) (clk : Int) (L : Slots) (now : Int) (w : World) (e : Ending) (w' : World) : Prop where
  res : ∃ v, e = .returned (.tuple #[v, .int .i64 (expE clk now)]) ∧ w'.ownsRow w.heap.size 40 7 v (expD L clk now).length (firedD L now (expD L clk now))
  set : TS w' p mb (expC clk now) (fireD L now (expD L clk now))
  keep : Keeps w w' (TOwn p mb L)
theorem own_fire {L : Slots} {now : Int} {D : List Nat} {p mb k : Nat} : TOwn p mb (fireD L now D) k ↔ TOwn p mb L k := by
  unfold TOwn
  constructor
  · rintro (h | h | ⟨i, t, h⟩)
    · exact .inl h
    · exact .inr (.inl h)
    · rw [fireD_get] at h
      cases hi : L[i]? with
      | none => rw [hi] at h; cases h
      | some o =>
        rw [hi] at h
        cases o with
        | none => simp at h
        | some x =>
          obtain ⟨b, t0⟩ := x
          refine .inr (.inr ⟨i, t0, ?_⟩)
          rw [hi]
          simp only [Option.map_some, Option.some.injEq] at h
          split at h <;> (injection h with h; injection h with h1 h2; rw [h1])
  · rintro (h | h | ⟨i, t, h⟩)
    · exact .inl h
    · exact .inr (.inl h)
    · refine .inr (.inr ?_)
      by_cases hm : i ∈ D
      · exact ⟨i, _, fireD_in hm h⟩
      · exact ⟨i, t, by rw [fireD_not hm]; exact h⟩
theorem own_base {w : World} {base base' n : Nat} {e : TypeId} {size : Nat} {v : Value} {xs : List Value} (h : w.ownsRow base e size v n xs) (hb : base' ≤ base) : w.ownsRow base' e size v n xs := by
  refine ⟨h.1, ?_⟩
  rcases h.2 with h2 | ⟨g, cap, cur, h1, h2, h3⟩
  · exact .inl h2
  · exact .inr ⟨g, cap, cur, h1, Nat.le_trans hb h2, h3⟩
end
section
set_option linter.unusedVariables false
set_option linter.unusedSimpArgs false
open Go.RowKit Go.Maps Go.Sort Go.Lib Go.Shelf Go.Proofs.YtodgbpggkikbcaaW.PrintWords Go.Proofs.YtodgbpggkikbcaaW.PrintLast Go.Proofs.YtodgbpggkikbcaaW.PrintMore FLib
attribute [local go_sem] Oper.semAt_some
attribute [local go_sem] below_alloc_T below_drew_T below_drewN_T

theorem TS.clock {W : World} {p mb : Nat} {clk : Int} {L : Slots} (h : TS W p mb clk L) (now : Int) : TS (W.setCell ⟨p, 1, none⟩ (.int .i64 now)) p mb now L := by
  have hk : Keeps W (W.setCell ⟨p, 1, none⟩ (.int .i64 now)) (fun k => k = p) := keeps_set (F := fun k => k = p) (Keeps.refl _ _) _ rfl
  obtain ⟨D, ⟨es, clock, ho, F', hs, e⟩, hL⟩ := h.map
  refine ⟨blk_put (cs := #[.map (some mb), .int .i64 clk]) h.hdr 1 _ rfl, ⟨D, ⟨es, clock, hk.blk ho (fun e => by rw [e, h.hdr] at ho; cases ho), F', hs, e⟩, hL⟩, fun i b t hi => hk.blk (h.blk i b t hi) (fun e => ?_), h.inj, h.len⟩
  have := h.blk i b t hi
  rw [e, h.hdr] at this
  have := congrArg (fun o => match o with | some (Obj.cells cs _ _) => cs.size | _ => 0) this
  simp [TT.cells] at this

set_option maxRecDepth 100000 in
set_option maxHeartbeats 1000000 in
/-- Nothing fires. -/
theorem exp_none (p mb : Nat) (clk : Int) (L : Slots) (hok : ∀ (i b : Nat) (t : TT), L[i]? = some (some (b, t)) → TOk t) (now : Int) (w : World) (h : TS w p mb clk L) (hn : ¬ (expE clk now = 0 ∧ expG L now = true)) :
    Calls Try.prog 13 #[.pointer (some ⟨p, 0, none⟩), .int .i64 now] w (ExpPost p mb clk L now w) := by
  have HS := Lib.hid h
  have HT := Lib.hid (fun w => ticks_any now w)
  have HN := Lib.hid (fun w' (h' : TS w' p mb now L) => next_any p mb now L hok w' h')
  have HD := Lib.hid (show expD L clk now = [] by
    unfold expD
    by_cases h0 : expE clk now = 0
    · rw [if_pos h0]
      cases hg : expG L now with
      | true => exact absurd ⟨h0, hg⟩ hn
      | false => rfl
    · rw [if_neg h0])
  have HP := Lib.hid (show ∀ w', TS w' p mb (expC clk now) L → Keeps w w' (TOwn p mb L) → ExpPost p mb clk L now w (.returned (.tuple #[.slice none 0 0, .int .i64 (expE clk now)])) w' from fun w' h1 h2 =>
    ⟨⟨_, rfl, by rw [HD.out]; exact World.ownsRow_nil _ _ _ _⟩, by rw [HD.out, fireD_nil]; exact h1, h2⟩)
  have HE := Lib.hid (show expE clk now = if okT now then (if now < clk then 30 else 0) else 34 from rfl)
  have HC := Lib.hid (show expC clk now = if expE clk now = 0 then now else clk from rfl)
  have HG := Lib.hid (show expG L now = ((nextV L).2 && decide ((nextV L).1 ≤ now)) from rfl)
  have HNN := Lib.hid hn
  have c1 : w.cell? ⟨p, 1, none⟩ = some (.int .i64 clk) := blk_cell h.hdr 1
  have f1 : w.frozen? ⟨p, 1, none⟩ = false := blk_frozen h.hdr 1
  have hlt : p < w.heap.size := blk_lt h.hdr
  have hs := Below.refl w.heap.size w
  have d0 := later_cell c1
  clear h hok hn c1
  cases h1 : okT now
  · rw [h1] at HE
    have HE' := Lib.hid (HE.out.trans (if_neg (by decide)))
    have HC' := Lib.hid (HC.out.trans (if_neg (by rw [HE'.out]; decide)))
    have HP' := HP.out
    rw [HE'.out, HC'.out] at HP'
    have HP2 := Lib.hid HP'
    clear HP' HP HE HC hs d0 f1
    go_enter Try.func13, Try.ntmps13
    go_wp2_with fail
    refine (HT.out _).mono ?_
    rintro e w1 ⟨rfl, hw1⟩
    rw [h1]
    have HB := Lib.hid (show Below w.heap.size w w1 by rw [← hw1]; exact below_alloc (Below.refl _ _) _)
    clear hw1
    go_wp2
    go_ret2
    exact HP2.out _ (HS.out.below HB.out) (Keeps.of_below HB.out _)
  · rw [h1] at HE
    have HE1 := Lib.hid (HE.out.trans (if_pos rfl))
    cases h2 : decide (now < clk)
    · have HE' := Lib.hid (HE1.out.trans (if_neg (by simpa using h2)))
      have HC' := Lib.hid (HC.out.trans (if_pos HE'.out))
      have hgf : expG L now = false := by
        cases hg : expG L now with
        | true => exact absurd ⟨HE'.out, hg⟩ HNN.out
        | false => rfl
      have HG' := Lib.hid (HG.out.symm.trans hgf)
      have HP' := HP.out
      rw [HE'.out, HC'.out] at HP'
      have HP2 := Lib.hid HP'
      clear HP' HP HE HE1 HC hgf HG
      go_enter Try.func13, Try.ntmps13
      go_wp2_with fail
      refine (HT.out _).mono ?_
      rintro e w1 ⟨rfl, hw1⟩
      rw [h1]
      have HB := Lib.hid (show Below w.heap.size w w1 by rw [← hw1]; exact below_alloc (Below.refl _ _) _)
      have hq : w1.heap[w.heap.size]? = some (.cells #[.int .i64 now] 2 (0, 0)) := by rw [← hw1]; exact blk_new w _
      have HS1 := Lib.hid (HS.out.below HB.out)
      have c1 : w1.cell? ⟨p, 1, none⟩ = some (.int .i64 clk) := blk_cell HS1.out.hdr 1
      have f1' : w1.frozen? ⟨p, 1, none⟩ = false := blk_frozen HS1.out.hdr 1
      have q0 : w1.cell? ⟨w.heap.size, 0, none⟩ = some (.int .i64 now) := blk_cell hq 0
      have HQ := Lib.hid hq
      clear hw1 hq hs d0 f1
      go_wp2
      go_quiet (fail)
      go_wp2_with fail
      have hT2 := (HS1.out.below (pw_below_drewN (Below.refl _ _) nq)).clock now
      refine (HN.out _ hT2).mono ?_
      rintro e w3 ⟨rfl, hb3⟩
      have hk3 : Keeps w w3 (TOwn p mb L) := (((Keeps.of_below HB.out _).drewN nq).set _ _ (.inl (.inl rfl))).trans (Keeps.of_below hb3 (fun _ => False)) (fun _ hf => hf.elim)
      have hq3 : w3.heap[w.heap.size]? = some (.cells #[.int .i64 now] 2 (0, 0)) := blk_below ((Below.heap_setCell _ _ _ _ (by have := blk_lt HS.out.hdr; show w.heap.size ≠ p; omega)).trans (blk_drewN HQ.out nq)) hb3
      have HT3 := Lib.hid (And.intro (hT2.below hb3) hk3)
      have q3 : w3.cell? ⟨w.heap.size, 0, none⟩ = some (.int .i64 now) := blk_cell hq3 0
      clear hT2 hk3 hq3 hb3 c1 f1' q0
      generalize nextV L = nv at HG' ⊢
      obtain ⟨n1, n2⟩ := nv
      have HG2 := Lib.hid (show (n2 && decide (n1 ≤ now)) = false from HG'.out)
      clear HG'
      cases n2
      · go_wp2
        go_ret2
        exact HP2.out _ HT3.out.1 HT3.out.2
      · have d3 : decide (now < n1) = true := by have := HG2.out; simpa using this
        go_wp2
        go_ret2
        exact HP2.out _ HT3.out.1 HT3.out.2
    · have HE' := Lib.hid (HE1.out.trans (if_pos (by simpa using h2)))
      have HC' := Lib.hid (HC.out.trans (if_neg (by rw [HE'.out]; decide)))
      have HP' := HP.out
      rw [HE'.out, HC'.out] at HP'
      have HP2 := Lib.hid HP'
      clear HP' HP HE HE1 HC HG
      go_enter Try.func13, Try.ntmps13
      go_wp2_with fail
      refine (HT.out _).mono ?_
      rintro e w1 ⟨rfl, hw1⟩
      rw [h1]
      have HB := Lib.hid (show Below w.heap.size w w1 by rw [← hw1]; exact below_alloc (Below.refl _ _) _)
      have hq : w1.heap[w.heap.size]? = some (.cells #[.int .i64 now] 2 (0, 0)) := by rw [← hw1]; exact blk_new w _
      have HS1 := Lib.hid (HS.out.below HB.out)
      have c1 : w1.cell? ⟨p, 1, none⟩ = some (.int .i64 clk) := blk_cell HS1.out.hdr 1
      have q0 : w1.cell? ⟨w.heap.size, 0, none⟩ = some (.int .i64 now) := blk_cell hq 0
      clear hw1 hq hs d0 f1
      go_wp2
      go_quiet (fail)
      go_wp2
      go_ret2
      exact HP2.out _ (HS1.out.below (pw_below_drewN (Below.refl _ _) nq)) ((Keeps.of_below HB.out _).drewN nq)

/-- Behind k rounds. -/
structure ExI (p mb : Nat) (now : Int) (L : Slots) (qo : Nat) (W0 : World) (hi k : Nat) (W : World) : Prop where
  keep : Keeps W0 W (fun b => TOwn p mb L b ∨ b = qo)
  set : TS W p mb now (fireD L now ((arm L).take k))
  out : ∃ v, W.heap[qo]? = some (.cells #[v] 34 (0, 0)) ∧ W.ownsRow hi 40 7 v k (firedD L now ((arm L).take k))
  due : ∀ i ∈ (arm L).take k, fstAt L i ≤ now
  hiw : hi ≤ W.heap.size
/-- What is known of the world ahead of the loop. -/
structure ExW (p mb : Nat) (now : Int) (L : Slots) (qo qn : Nat) (W0 : World) : Prop where
  set : TS W0 p mb now L
  lo : qo < W0.heap.size
  ln : qn < W0.heap.size
  out : W0.heap[qo]? = some (.cells #[.slice none 0 0] 34 (0, 0))
  tim : W0.heap[qn]? = some (.cells #[.int .i64 now] 2 (0, 0))
  no : ¬ TOwn p mb L qo
  nn : ¬ TOwn p mb L qn
  ne : qn ≠ qo
theorem ExW.start {p mb : Nat} {now : Int} {L : Slots} {qo qn : Nat} {W0 W : World} (h : ExW p mb now L qo qn W0) (hb : Below W0.heap.size W0 W) : ExI p mb now L qo W0 W.heap.size 0 W :=
  ⟨Keeps.of_below hb _, by rw [List.take_zero, fireD_nil]; exact h.set.below hb, ⟨_, blk_below h.out hb, World.ownsRow_nil _ _ _ _⟩, by simp, Nat.le_refl _⟩
theorem ExI.put {p mb : Nat} {now : Int} {L : Slots} {qo qn : Nat} {W0 W : World} {hi k : Nat} (hW : ExW p mb now L qo qn W0) (h : ExI p mb now L qo W0 hi k W) {l : Nat} (hl : W0.heap.size ≤ l) (hh : l < hi) (o : Obj) : ExI p mb now L qo W0 hi k (W.putObj l o) := by
  have hk : Keeps W (W.putObj l o) (fun b => b = l) := (Keeps.refl W _).grown (grownBy_putObj' W l o) (fun k e => by cases e; exact .inl rfl)
  obtain ⟨v, h1, h2⟩ := h.out
  refine ⟨h.keep.trans hk (fun i hi => .inr (by omega)), h.set.keep hk (fun b hb ho => ?_), ⟨v, hk.blk h1 (by have := hW.lo; omega), own_move h2 (fun b hb => (World.putObj_heap_other (by have := (h2.lt _ hb).1; omega)))⟩, h.due, by have := hk.size; have := h.hiw; omega⟩
  have := hW.set.own_lt (own_fire.1 ho)
  omega
/-- The environment of the statement that fires. -/
def exEnv (W : World) (qo qn b hi i : Nat) (t : TT) (now : Int) (v : Value) (k : Nat) (xs : List Value) : Env := ⟨W, qo, qn, b, hi, (i : Int), t, now, v, k, xs⟩
theorem exEnv_ok {p mb : Nat} {now : Int} {L : Slots} {qo qn : Nat} {W0 W : World} {hi k : Nat} (hW : ExW p mb now L qo qn W0) (h : ExI p mb now L qo W0 hi k W) (hhi : W0.heap.size ≤ hi) (hk : k < (arm L).length) {i b : Nat} {t : TT} (hai : (arm L)[k]? = some i) (hit : L[i]? = some (some (b, t))) (tok : TOk t) (hf : t.fst ≤ now) (hlim : now ≤ 1099511627776)
    {v : Value} (h1 : W.heap[qo]? = some (.cells #[v] 34 (0, 0))) (h2 : W.ownsRow hi 40 7 v k (firedD L now ((arm L).take k))) : (exEnv W qo qn b hi i t now v k (firedD L now ((arm L).take k))).Ok := by
  have hown : TOwn p mb L b := .inr (.inr ⟨i, t, hit⟩)
  have hlt := hW.set.own_lt hown
  have hno : qo ≠ b := fun e => hW.no (e ▸ hown)
  have hnn : qn ≠ b := fun e => hW.nn (e ▸ hown)
  have hal : (arm L).length ≤ 1000 := by
    have h1 := List.length_filter_le (fun i => decide (0 < fstAt L i)) (ord L)
    have h2 := ord_len L
    have h3 := ids_len L
    have h4 := hW.set.len
    unfold arm; omega
  refine ⟨h1, h.keep.blk hW.tim (fun hh => hh.elim hW.nn hW.ne), ?_, hno, hnn, tok, hf, hlim, h2, by show qo < hi; have := hW.lo; omega, by show b < hi; omega, h.hiw, by show k ≤ 1000; omega⟩
  exact h.set.blk i b t (by rw [fireD_not (arm_not hai)]; exact hit)
theorem exEnv_end {p mb : Nat} {now : Int} {L : Slots} {qo qn : Nat} {W0 W w' : World} {hi k : Nat} (hW : ExW p mb now L qo qn W0) (h : ExI p mb now L qo W0 hi k W) (hhi : W0.heap.size ≤ hi) {i b : Nat} {t : TT} (hai : (arm L)[k]? = some i) (hit : L[i]? = some (some (b, t))) (hf : t.fst ≤ now)
    {v : Value} (h1 : W.heap[qo]? = some (.cells #[v] 34 (0, 0))) (h2 : W.ownsRow hi 40 7 v k (firedD L now ((arm L).take k))) (hp : (exEnv W qo qn b hi i t now v k (firedD L now ((arm L).take k))).P4 w') :
    SameIn W0.heap.size hi W w' ∧ ExI p mb now L qo W0 hi (k + 1) w' := by
  obtain ⟨v', w3, ⟨g, w2, ⟨wf, ⟨hp1, hp2⟩, hg, hw2⟩, x1, x2, x3⟩, hw'⟩ := hp
  simp only [exEnv] at hp1 hp2 hw2 x1 x2 hw'
  have hown : TOwn p mb L b := .inr (.inr ⟨i, t, hit⟩)
  have hblt := hW.set.own_lt hown
  have hno : qo ≠ b := fun e => hW.no (e ▸ hown)
  have hql := hW.lo
  have hiw := h.hiw
  have hvl : ∀ j, v.ownBlock = some j → hi ≤ j := fun j hj => (h2.lt _ hj).1
  have hT := h.set.turn (by rw [fireD_not (arm_not hai)]; exact hit) hp1 hp2
  rw [← fireD_snoc (arm_not hai) hit, ← arm_take_succ hai] at hT
  have k1 : Keeps wf w' (fun j => v.ownBlock = some j ∨ j = qo) := by
    rw [hw']
    refine Keeps.set ?_ _ _ (.inl (.inr rfl))
    rw [hw2] at x2
    exact ((Keeps.refl wf _).alloc _).grown x2 (fun j hj => .inl (.inl hj))
  have k2 : Keeps W w' (fun j => j = b ∨ v.ownBlock = some j ∨ j = qo) := (hp1.mono (fun j hj => .inl hj)).trans k1 (fun j hj => .inl (.inr hj))
  refine ⟨fun j hj1 hj2 => k2.block j (by omega) ?_, ⟨h.keep.trans k2 ?_, hT.keep k1 ?_, ⟨v', ?_, ?_⟩, ?_, by have := k2.size; omega⟩⟩
  · rintro (e | e | e)
    · omega
    · have := hvl _ e; omega
    · omega
  · rintro j (e | e | e)
    · exact .inl (.inl (e ▸ hown))
    · exact .inr (by have := hvl _ e; omega)
    · exact .inl (.inr e)
  · rintro j (e | e) ho
    · have := hW.set.own_lt (own_fire.1 ho); have := hvl _ e; omega
    · exact hW.no (e ▸ own_fire.1 ho)
  · rw [hw']
    have q1 : w2.heap[qo]? = some (.cells #[v] 34 (0, 0)) := by rw [hw2]; exact blk_alloc (hp1.blk h1 hno) _
    exact blk_put (cs := #[v]) (blk_oth q1 x2 (fun e => by have := hvl _ e; omega)) 0 _ rfl
  · rw [arm_take_succ hai, firedD_snoc hit, hw']
    refine own_move x1 (fun j hj => Below.heap_setCell _ _ _ _ ?_)
    have := (x1.lt _ hj).1
    show j ≠ qo
    omega
  · intro j hj
    rw [arm_take_succ hai, List.mem_append] at hj
    rcases hj with hj | hj
    · exact h.due j hj
    · rw [List.mem_singleton.1 hj, fst_of hit]; exact hf
theorem leftN_new : leftN (Array.replicate 13 false) = 13 := by decide +kernel
theorem don_new (j : Nat) : don (Array.replicate 13 false) j = false := by
  unfold don
  rw [Array.getD_eq_getD_getElem?]
  rcases Nat.lt_or_ge j 13 with h | h
  · simp [h]
  · simp [h]
theorem exEnv_start {W : World} {qo qn b hi i : Nat} {t : TT} {now : Int} {v : Value} {k : Nat} {xs : List Value} {a : Act} (h0 : a.tmps.size = 67) (h3 : a.eval (.tmp 3) = .pointer (some ⟨qn, 0, none⟩)) (h8 : a.eval (.tmp 8) = .pointer (some ⟨qo, 0, none⟩)) (h10 : a.eval (.tmp 10) = .int .i64 (i : Int)) (h11 : a.eval (.tmp 11) = .pointer (some ⟨b, 0, none⟩)) :
    (exEnv W qo qn b hi i t now v k xs).I 13 (Array.replicate 13 false) a W := by
  refine ⟨by simp, leftN_new, h0, h3, h8, h10, h11, (fun j _ hj => by rw [don_new] at hj; cases hj), (fun j _ hj => by rw [don_new] at hj; cases hj), ?_⟩
  unfold Env.Ph
  rw [if_neg (by rw [don_new]; decide), if_neg (by rw [don_new]; decide), if_neg (by rw [don_new]; decide), if_neg (by rw [don_new]; decide)]
  rfl
theorem exEnv_done {E : Env} {fuel : Nat} {listed : Array Bool} {a : Act} {w : World} (h : E.I fuel listed a w) (hr : Region.ready .any (opsOf Try.f13 17) listed = []) : E.P4 w := by
  have hd := all_done ops17_low (by rw [h.size, ops17_size]) hr 12 (by rw [ops17_size]; omega)
  have := h.ph
  unfold Env.Ph at this
  rwa [if_pos hd] at this
theorem exp_fin {p mb : Nat} {clk now : Int} {L : Slots} {qo qn : Nat} {w W0 W : World} {hi k : Nat} (hW : ExW p mb now L qo qn W0) (h : ExI p mb now L qo W0 hi k W) (hhi : W0.heap.size < hi) (hk : k ≤ (arm L).length) (hstop : ∀ i, (arm L)[k]? = some i → now < fstAt L i) (hkw : Keeps w W0 (TOwn p mb L)) (hqw : w.heap.size ≤ qo) (he : expE clk now = 0) (hD : expD L clk now = dueL L now) (hC : expC clk now = now) {v : Value}
    (hv : W.heap[qo]? = some (.cells #[v] 34 (0, 0))) (o : Obj) : ExpPost p mb clk L now w (.returned (.tuple #[v, .int .i64 0])) (W.putObj W0.heap.size o) := by
  have h' := h.put hW (Nat.le_refl _) hhi o
  have hd := due_stop h.due hstop
  obtain ⟨v', h1, h2⟩ := h'.out
  have hql := hW.lo
  rw [World.putObj_heap_other (by omega), hv] at h1
  cases h1
  refine ⟨⟨v, by rw [he], ?_⟩, ?_, hkw.trans h'.keep ?_⟩
  · rw [hD, hd, arm_take_len hk]
    exact own_base h2 (by have := hkw.size; omega)
  · rw [hC, hD, hd]; exact h'.set
  · rintro j (e | e)
    · exact .inl e
    · exact .inr (by omega)

set_option maxRecDepth 100000 in
set_option maxHeartbeats 2000000 in
/-- Timers fire. -/
theorem exp_some (p mb : Nat) (clk : Int) (L : Slots) (hok : ∀ (i b : Nat) (t : TT), L[i]? = some (some (b, t)) → TOk t) (now : Int) (w : World) (h : TS w p mb clk L) (h0 : expE clk now = 0) (hg : expG L now = true) :
    Calls Try.prog 13 #[.pointer (some ⟨p, 0, none⟩), .int .i64 now] w (ExpPost p mb clk L now w) := by
  refine (callsIn_wide (n := 21)).1 ?_
  have HS := Lib.hid h
  have HOK := Lib.hid hok
  have HT := Lib.hid (fun w => (callsIn_wide (n := 20)).2 (ticks_any now w))
  have HN := Lib.hid (fun w' (h' : TS w' p mb now L) => (callsIn_wide (n := 20)).2 (next_any p mb now L hok w' h'))
  have HE := Lib.hid h0
  have hoks : okT now = true ∧ ¬ now < clk := by
    unfold expE at h0
    cases h1 : okT now with
    | false => rw [h1] at h0; simp at h0
    | true =>
      refine ⟨rfl, fun hlt => ?_⟩
      rw [h1, if_pos rfl, if_pos hlt] at h0
      cases h0
  obtain ⟨h1, h2⟩ := hoks
  have d2 : decide (now < clk) = false := decide_eq_false h2
  have hb : 0 ≤ now ∧ now ≤ 1099511627776 := by simpa [okT] using h1
  have HB := Lib.hid hb
  have hg' : (nextV L).2 = true ∧ decide (now < (nextV L).1) = false := by
    unfold expG at hg
    simp only [Bool.and_eq_true, decide_eq_true_eq] at hg
    exact ⟨hg.1, decide_eq_false (by omega)⟩
  have HG := Lib.hid hg'
  have HD := Lib.hid (show expD L clk now = dueL L now by unfold expD; rw [if_pos h0, if_pos hg])
  have HC := Lib.hid (show expC clk now = now by unfold expC; rw [if_pos h0])
  have h27 : Fence.wide.fn 27 := trivial
  have h11 : Fence.wide.fn 11 := trivial
  clear h hok h0 h2 hb hg' hg
  refine callsIn_of_wp_marks Try.func13 rfl trivial ?_ rfl
  simp only [Try.ntmps13, List.size_toArray, List.length_cons, List.length_nil, Nat.reduceAdd, Nat.reduceSub, Array.replicate_succ, Array.replicate_zero, List.push_toArray, List.append_toArray, List.nil_append, List.cons_append]
  gi_wp2_with fail
  refine (HT.out _).mono ?_
  rintro e w1 ⟨rfl, hw1⟩
  rw [h1]
  have HB1 := Lib.hid (show Below w.heap.size w w1 by rw [← hw1]; exact below_alloc (Below.refl _ _) _)
  have hq : w1.heap[w.heap.size]? = some (.cells #[.int .i64 now] 2 (0, 0)) := by rw [← hw1]; exact blk_new w _
  have HS1 := Lib.hid (HS.out.below HB1.out)
  have c1 : w1.cell? ⟨p, 1, none⟩ = some (.int .i64 clk) := blk_cell HS1.out.hdr 1
  have f1' : w1.frozen? ⟨p, 1, none⟩ = false := blk_frozen HS1.out.hdr 1
  have q0 : w1.cell? ⟨w.heap.size, 0, none⟩ = some (.int .i64 now) := blk_cell hq 0
  have HQ := Lib.hid hq
  clear hw1 hq
  gi_wp2
  gi_region
  gi_wp2_with fail
  have hT2 := ((HS1.out.clock now).below (below_drew (Below.refl _ _)))
  refine (HN.out _ hT2).mono ?_
  rintro e w3 ⟨rfl, hb3⟩
  have hk3 : Keeps w w3 (TOwn p mb L) := (((Keeps.of_below HB1.out _).set ⟨p, 1, none⟩ (.int .i64 now) (.inl (.inl rfl))).drew).trans (Keeps.of_below hb3 (fun _ => False)) (fun _ hf => hf.elim)
  have hq3 : w3.heap[w.heap.size]? = some (.cells #[.int .i64 now] 2 (0, 0)) := blk_below (blk_drew ((Below.heap_setCell _ _ _ _ (by have := blk_lt HS.out.hdr; show w.heap.size ≠ p; omega)).trans HQ.out)) hb3
  have HT3 := Lib.hid (hT2.below hb3)
  have HK3 := Lib.hid hk3
  have HQ3 := Lib.hid hq3
  have q3 : w3.cell? ⟨w.heap.size, 0, none⟩ = some (.int .i64 now) := blk_cell hq3 0
  clear hT2 hk3 hq3 hb3 c1 f1' q0
  generalize nextV L = nv at HG ⊢
  obtain ⟨n1, n2⟩ := nv
  obtain ⟨hn2, hn1⟩ := HG.out
  simp only at hn2 hn1
  subst hn2
  gi_wp2
  obtain ⟨qn, hqn⟩ : ∃ q, w.heap.size = q := ⟨_, rfl⟩
  obtain ⟨qo, hqo⟩ : ∃ q, w3.heap.size = q := ⟨_, rfl⟩
  have hEW : ExW p mb now L qo qn (w3.alloc (.cells #[.slice none 0 0] 34)) := by
    have e1 := blk_lt HQ3.out
    refine ⟨HT3.out.below (below_alloc (Below.refl _ _) _), by rw [← hqo]; simp, by rw [← hqn]; simp; omega, by rw [← hqo]; exact blk_new _ _, by rw [← hqn]; exact blk_alloc HQ3.out _, fun ho => ?_, fun ho => ?_, by rw [← hqo, ← hqn]; omega⟩
    · have := HT3.out.own_lt ho; omega
    · have := HS.out.own_lt ho; omega
  have hkW : Keeps w (w3.alloc (.cells #[.slice none 0 0] 34)) (TOwn p mb L) := HK3.out.alloc _
  have hqw : w.heap.size ≤ qo := by have := HK3.out.size; omega
  rw [hqn, hqo]
  refine abs_in (fun W0 => ExW p mb now L qo qn W0 ∧ Keeps w W0 (TOwn p mb L)) ⟨hEW, hkW⟩ ?_
  rintro W0 ⟨hEW0, hkW0⟩
  have HW := Lib.hid hEW0
  have HKW := Lib.hid hkW0
  have HQW := Lib.hid hqw
  clear hEW hkW hqw hEW0 hkW0 hqn hqo q3
  have hmx : Try.prog.follows .mixedOrders = true := by kernel_rfl
  refine range_at (m := 21) (by omega) (gf := 26) (ba := #[.pointer (some ⟨p, 0, none⟩)]) (lb := #[]) rfl (enters_of Try.func26 (by kernel_rfl) rfl)
    (armed_at 20 (by omega) p mb now L W0 HW.out.set) (fun k => encA_size L k)
    (fun hi k W => ExI p mb now L qo W0 hi k W ∧ W0.heap.size + 1 < hi) (fun c W => c = .exit 1 ∧ ∃ hi k, ExI p mb now L qo W0 hi k W ∧ W0.heap.size + 1 < hi ∧ k ≤ (arm L).length ∧ ∀ i, (arm L)[k]? = some i → now < fstAt L i) ?rd ?inv ?invx ?start
    (fun k => { tmps := #[Value.pointer (some { block := p, off := 0 }), Value.int IntKind.i64 now, undef, Value.pointer (some { block := qn, off := 0 }), Value.slice none 0 0, Value.int IntKind.i64 0, Value.int IntKind.i64 n1, Value.bool true, Value.pointer (some { block := qo, off := 0 }), Value.func (Fn.func 26) #[Value.pointer (some { block := p, off := 0 })] #[], idV L k, ptV L k, Value.bool false, Value.pointer (some { block := p, off := 0 }), Value.bool false, Value.bool false, Value.int IntKind.i64 now, Value.bool true, Value.bool false, Value.bool false, Value.int IntKind.i64 now, Value.pointer (some { block := p, off := 0 }), Value.pointer (some { block := p, off := 0 }), Value.pointer (some { block := p, off := 1 }), Value.int IntKind.i64 clk, Value.bool false, Value.pointer (some { block := p, off := 0 }), Value.int IntKind.i64 now, Value.pointer (some { block := p, off := 0 }), Value.pointer (some { block := p, off := 1 }), Value.tuple #[Value.int IntKind.i64 n1, Value.bool true], Value.pointer (some { block := p, off := 0 }), Value.tuple #[Value.int IntKind.i64 n1, Value.bool true], Value.int IntKind.i64 n1, Value.bool true, Value.bool true, Value.bool false, Value.bool false, Value.int IntKind.i64 n1, Value.int IntKind.i64 now, Value.bool false, Value.bool false, Value.pointer (some { block := p, off := 0 }), Value.func (Fn.func 26) #[Value.pointer (some { block := p, off := 0 })] #[], Value.func (Fn.func 26) #[Value.pointer (some { block := p, off := 0 })] #[], idV L k, ptV L k, undef, undef, undef, undef, undef, undef, undef, undef, undef, undef, undef, undef, undef, undef, undef, undef, undef, undef, undef, undef], defers := [] })
    ?assign ?body ?done ?stop
  case rd =>
    rintro _ k W ⟨hI, -⟩
    exact ⟨now, _, hI.set, sim_fire L now k⟩
  case inv =>
    rintro hi k W r o hhi ⟨hI, -⟩ _
    exact ⟨hI.put HW.out (by omega) hhi o, hhi⟩
  case invx =>
    rintro c W r o ⟨rfl, hi, k, hI, hhi, hk, hs⟩ _
    exact ⟨rfl, hi, k, hI.put HW.out (by omega) hhi o, hhi, hk, hs⟩
  case start =>
    intro W hb hz
    exact ⟨HW.out.start hb, by omega⟩
  case assign =>
    intro k W K hK
    rw [encA_eq]
    gi_wp2
    exact hK
  case body =>
    rintro hi k W hhi hk ⟨hI, -⟩
    obtain ⟨i, b, t, hai, hit, e1, e2, e3, e4, e5⟩ := arm_at hk
    rw [e1, e2]
    obtain ⟨v, ho, hrow⟩ := hI.out
    have tok := HOK.out _ _ _ hit
    have hbl := hI.set.blk i b t (by rw [fireD_not (arm_not hai)]; exact hit)
    have hqn := hI.keep.blk HW.out.tim (fun hh => hh.elim HW.out.nn HW.out.ne)
    have b6 : W.cell? ⟨b, 6, none⟩ = some (.int .i64 t.fst) := blk_cell hbl 6
    have q0 : W.cell? ⟨qn, 0, none⟩ = some (.int .i64 now) := blk_cell hqn 0
    have HI := Lib.hid hI
    have HHI := Lib.hid hhi
    have HK := Lib.hid hk
    have HAI := Lib.hid hai
    have HIT := Lib.hid hit
    have HO := Lib.hid ho
    have HROW := Lib.hid hrow
    have HTK := Lib.hid tok
    have HF := Lib.hid (fst_of hit)
    have h28 : Fence.wide.fn 28 := trivial
    clear hI hhi hai hit e1 e2 e3 e4 e5 ho hrow tok hbl hqn
    gi_wp2
    refine quiet_round rfl (by simp) hmx (by kernel_rfl) ?_
    repeat (quiet_step_in (fail))
    refine wpQuietIn_nil ?_
    rintro _ ⟨nq, rfl⟩
    clear b6 q0
    cases d1 : decide (now < t.fst)
    · gi_wp2
      have hI1 : ExI p mb now L qo W0 hi k (W.drewN nq).drew := by
        have h1 := HI.out
        exact ⟨(h1.keep.drewN nq).drew, h1.set.below (below_drew (pw_below_drewN (Below.refl _ _) nq)), by
          obtain ⟨v, x1, x2⟩ := h1.out
          exact ⟨v, blk_drew (blk_drewN x1 nq), own_move x2 (fun _ _ => rfl)⟩, h1.due, h1.hiw⟩
      have hf : t.fst ≤ now := by have := of_decide_eq_false d1; omega
      have hx1 : (W.drewN nq).drew.heap[qo]? = some (.cells #[v] 34 (0, 0)) := blk_drew (blk_drewN HO.out nq)
      have hx2 : (W.drewN nq).drew.ownsRow hi 40 7 v k (firedD L now ((arm L).take k)) := own_move HROW.out (fun _ _ => rfl)
      have hE := exEnv_ok HW.out hI1 (by have := HHI.out; omega) HK.out HAI.out HIT.out HTK.out hf HB.out.2 hx1 hx2
      have hend := fun w' hp => exEnv_end (w' := w') HW.out hI1 (by have := HHI.out; omega) HAI.out HIT.out hf hx1 hx2 hp
      have hcall : ∀ w', w' = (W.drewN nq).drew → CallsIn (Fence.wide.inRound (W0.heap.size + 1)) (21 - 1 - 1 - 1) Try.prog 28 #[.pointer (some ⟨b, 0, none⟩), .int .i64 now] w' fun e w'' => e = .returned (.int .i64 (overs t now)) ∧ (exEnv (W.drewN nq).drew qo qn b hi i t now v k (firedD L now ((arm L).take k))).P1 w'' := by
        rintro w' rfl
        refine CallsIn.inRound _ ((callsIn_wide (n := 21 - 1 - 1 - 1)).2 ((fire_any b t HTK.out now hf HB.out.2 _ hE.tim).mono ?_))
        rintro e w'' ⟨he, h1, h2⟩
        exact ⟨he, h2, h1⟩
      have HEND := Lib.hid hend
      clear hI1 hx1 hx2 hend
      refine wpIn_region_any hmx ?_
      refine any_inv (exEnv (W.drewN nq).drew qo qn b hi i t now v k (firedD L now ((arm L).take k))).I (fun listed a w h => leftN_zero h.left) ?_ (fun fuel listed a w j h hj => fire_step hE rfl (fun _ => trivial) (by omega) hcall fuel listed a w j h hj) _ _ _ _ (exEnv_start (by rfl) (by rfl) (by rfl) (by rfl) (by rfl))
      intro fuel listed a' w' hh hr
      obtain ⟨hs, hi2⟩ := HEND.out w' (exEnv_done hh hr)
      exact ⟨fun j h1 h2 => (hs j h1 h2), hi2, HHI.out⟩
    · have hI1 : ExI p mb now L qo W0 hi k (W.drewN nq) := by
        have h1 := HI.out
        exact ⟨h1.keep.drewN nq, h1.set.below (pw_below_drewN (Below.refl _ _) nq), by
          obtain ⟨v, x1, x2⟩ := h1.out
          exact ⟨v, blk_drewN x1 nq, own_move x2 (fun _ _ => rfl)⟩, h1.due, h1.hiw⟩
      have hP : SameIn W0.heap.size hi W (W.drewN nq) ∧ (Code.exit 1 = .exit 1 ∧ ∃ hi k, ExI p mb now L qo W0 hi k (W.drewN nq) ∧ W0.heap.size + 1 < hi ∧ k ≤ (arm L).length ∧ ∀ i, (arm L)[k]? = some i → now < fstAt L i) := ⟨fun _ _ _ => rfl, rfl, hi, k, hI1, HHI.out, Nat.le_of_lt HK.out, fun i' hi' => by
        rw [HAI.out] at hi'
        cases hi'
        rw [HF.out]
        exact of_decide_eq_true d1⟩
      have HPP := Lib.hid hP
      clear hP hI1
      gi_wp2
      exact ⟨HPP.out.1, rfl, HPP.out.2.2⟩
  case done =>
    rintro hi W ⟨hI, hhi⟩ hK
    obtain ⟨v, ho, hrow⟩ := hI.out
    have a0 : W.cell? ⟨qo, 0, none⟩ = some v := blk_cell ho 0
    have hfin := fun o => exp_fin (o := o) HW.out hI (by omega) (Nat.le_refl _) (fun i hi' => by rw [List.getElem?_eq_none (Nat.le_refl _)] at hi'; cases hi') HKW.out HQW.out HE.out HD.out HC.out ho
    have HFIN := Lib.hid hfin
    have HX := Lib.hid hK
    have hv := own_form hrow
    clear hI hK ho hfin hrow hhi
    rcases hv with rfl | ⟨g, cap, rfl⟩
    · gi_wp2
      refine ⟨by simp, .inl ⟨_, _, rfl, run_takeDeferred HX.out, ?_⟩⟩
      refine ⟨.tuple #[.slice none 0 0, .int .i64 0], by simp [results, Try.results13, go_sem], ?_⟩
      exact HFIN.out _
    · gi_wp2
      refine ⟨by simp, .inl ⟨_, _, rfl, run_takeDeferred HX.out, ?_⟩⟩
      refine ⟨.tuple #[.slice (some ⟨g, 0, none⟩) (arm L).length cap, .int .i64 0], by simp [results, Try.results13, go_sem], ?_⟩
      exact HFIN.out _
  case stop =>
    rintro c W ⟨rfl, hi, k, hI, hhi, hkl, hs⟩ hK
    obtain ⟨v, ho, hrow⟩ := hI.out
    have a0 : W.cell? ⟨qo, 0, none⟩ = some v := blk_cell ho 0
    have hfin := fun o => exp_fin (o := o) HW.out hI (by omega) hkl hs HKW.out HQW.out HE.out HD.out HC.out ho
    have HFIN := Lib.hid hfin
    have HX := Lib.hid hK
    have hv := own_form hrow
    clear hI hK ho hfin hrow hhi hkl hs
    rcases hv with rfl | ⟨g, cap, rfl⟩
    · gi_wp2
      refine ⟨by simp, .inl ⟨_, _, rfl, run_takeDeferred HX.out, ?_⟩⟩
      refine ⟨.tuple #[.slice none 0 0, .int .i64 0], by simp [results, Try.results13, go_sem], ?_⟩
      exact HFIN.out _
    · gi_wp2
      refine ⟨by simp, .inl ⟨_, _, rfl, run_takeDeferred HX.out, ?_⟩⟩
      refine ⟨.tuple #[.slice (some ⟨g, 0, none⟩) k cap, .int .i64 0], by simp [results, Try.results13, go_sem], ?_⟩
      exact HFIN.out _

theorem exp_any (p mb : Nat) (clk : Int) (L : Slots) (hok : ∀ (i b : Nat) (t : TT), L[i]? = some (some (b, t)) → TOk t) (now : Int) (w : World) (h : TS w p mb clk L) :
    Calls Try.prog 13 #[.pointer (some ⟨p, 0, none⟩), .int .i64 now] w (ExpPost p mb clk L now w) := by
  by_cases hc : expE clk now = 0 ∧ expG L now = true
  · exact exp_some p mb clk L hok now w h hc.1 hc.2
  · exact exp_none p mb clk L hok now w h hc
end
end Go.Proofs.Ytodgbpggkikbcaa
