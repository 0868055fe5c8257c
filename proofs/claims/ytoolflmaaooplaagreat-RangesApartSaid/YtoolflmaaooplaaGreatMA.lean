/- Ranges: the small functions, the map, owners, count, waits. -/
import Derived.Sort.QuietTacIn
import Derived.TacticsIn
import Derived.OrdersIn
import Derived.Test.YtoolflmaaooplaaGreatMLib
import Derived.Test.YtoolflmaaooplaaGreatProg
import Derived.Below
import Derived.Deep.Draws
import Derived.Deep.AppendLies
import Derived.Maps.AppendAt
import Derived.OwnWalk
import Derived.Laws.BytesArg
import Derived.Laws.MakeOwn
import Derived.Laws.OwnMore
import Derived.Deep.OwnRows
import Derived.Tactics
import Derived.Lib.ConvBytes
import Derived.Laws.Slices
import Derived.WalkKit
import Derived.KernelRfl
import Derived.RowKit3
import Derived.Deep.LoopGhost
import Derived.Deep.QuietTactic
import Derived.BigQuiet
import Derived.WideLaws
import Derived.Deep.DeepCutAuto
import Derived.Deep.CutBlock
import Derived.Deep.RegionHeld3
import Derived.Laws.Rows
import Derived.Lib.AppendStr
import Derived.ArgAppend
import Derived.Laws.IdiomCopy
import Derived.OrdersHeld
import Derived.Laws.BitsLemmas
import Derived.RowKit
import Derived.Test.YtoolflmaaooplaaGreatWWords
import Derived.Deep.DrawnRows
import Derived.Maps.OwnSet
import Derived.Lib.SlKeysI
import Derived.Test.YtoolflmaaooplaaGreatLay
import Derived.Maps.RangeWalk
namespace Go.Proofs.YtoolflmaaooplaaGreat
section
set_option linter.unusedVariables false
set_option linter.unusedSimpArgs false
section
variable {F : Fence} {n : Nat} {P : Program} {ops : Array Oper} {md : Region.Mode} {C : World → Prop}

theorem quiet_op {o : Oper} {a : Act} {K : Act → Prop} {K' : Act → World → Prop} {Q' : Exit → Act → World → Prop} {w : World} (hs : o.semAt F.round a.eval = execOp a.eval o) (hw : C w) (h : ∀ a w', C w' → K a → K' a w')
    (ha : o.askedIn F P a C) (hh : o.quietIn F n P a C K) : o.wpIn F n P a w K' Q' := by
  obtain ⟨v, h1, h2⟩ := hh
  have h3 := h1 w hw
  unfold Oper.quietAtIn at h3
  unfold Oper.wpIn
  refine ⟨ha w hw, ?_⟩
  rw [hs]
  generalize (execOp a.eval o).run P w = r at *
  cases r with
  | halt x w' => simp only [Oper.quietUponIn] at h3
  | ok x w' =>
    cases x <;> simp only [Oper.quietUponIn] at h3 <;> simp only [Oper.uponIn]
    case value u => exact h3.1 ▸ h3.2 ▸ h _ _ hw h2
    case skip => exact h3.1 ▸ (h3.2 ▸ h _ _ hw h2)
    case enter f args => exact ⟨h3.2.1, (h3.1 ▸ h3.2.2).mono fun e w'' he => by obtain ⟨rfl, hc⟩ := he; exact h _ _ hc h2⟩
theorem quiet_ops {i : Nat} {a : Act} {K : Act → Prop} {K' : Act → World → Prop} {Q' : Exit → Act → World → Prop} {w : World} (hs : ∀ (j : Nat) (o : Oper), ops[j]? = some o → ∀ ρ, o.semAt F.round ρ = execOp ρ o) (hC : C w) (h : ∀ a w', C w' → K a → K' a w')
    (hh : qOpIn F n P ops C i K a) : wpOpIn F n P ops Q' i K' a w := by
  unfold qOpIn at hh
  unfold wpOpIn
  cases ho : ops[i]? with
  | none => rw [ho] at hh; exact h _ _ hC hh
  | some o =>
    rw [ho] at hh
    obtain ⟨ha, hh⟩ := hh
    dsimp only
    split
    · rename_i hw; rw [if_pos hw] at hh; exact quiet_op (hs i o ho _) hC h ha hh
    · rename_i hw; rw [if_neg hw] at hh; exact ⟨ha w hC, h _ _ hC hh⟩
theorem quiet_any {Q : Act → Prop} {Q' : Exit → Act → World → Prop} (hs : ∀ (j : Nat) (o : Oper), ops[j]? = some o → ∀ ρ, o.semAt F.round ρ = execOp ρ o) (hQ : ∀ a w, C w → Q a → Q' .normal a w) :
    ∀ (fuel : Nat) (listed : Array Bool) (a : Act) (w : World), C w → wpAnyQIn F n P md ops C Q fuel listed a → wpAnyIn F n P md ops Q' fuel listed a w
  | 0, _, _, _, hw, h => ⟨h.1, hQ _ _ hw h.2⟩
  | fuel + 1, _, _, _, hw, h => ⟨fun h0 => hQ _ _ hw (h.1 h0), fun i hi => quiet_ops hs hw (fun a' w' hw' => quiet_any hs hQ fuel _ a' w' hw') (h.2 i hi)⟩

theorem quiet_round {id l₀ : Nat} {Q : Exit → Act → World → Prop} {a : Act} {w : World} {l : List Oper} (hr : F.round = some l₀) (hd : ∀ o ∈ l, ∀ c, o.op ≠ .defer c) (hm : P.follows .mixedOrders = true) (hB : Region.lexB .any l.toArray = true)
    (h : wpQuietIn F n P l.toArray (fun w' => ∃ n, w' = w.drewN n) (fun a' => ∀ w', (∃ n, w' = w.drewN n) → Q .normal a' w') l a) : (Code.region id l.toArray true).wpIn F n P Q a w := by
  simp only [Region.lexB, Bool.and_eq_true] at hB
  refine wpIn_region_any hm (quiet_any (C := fun w' => ∃ n, w' = w.drewN n) (Q := fun a' => ∀ w', (∃ n, w' = w.drewN n) → Q .normal a' w') (fun j o ho ρ => ?_) (fun _ w' hw' h => h w' hw') _ _ _ _ ⟨1, rfl⟩ ?_)
  · rw [hr]
    exact Oper.semAt_some _ _ _ (hd o (by have := List.mem_of_getElem? (l := l) (i := j) (by simpa using ho); exact this))
  · have := wpAnyQIn_lex (F := F) (n := n) (C := fun w' => ∃ n, w' = w.drewN n) (md := .any) hB.1 l 0 (Array.replicate l.toArray.size false) a (by simp) (by simpa using hB.2) h
    simpa using this
end
end
section
set_option linter.unusedVariables false
set_option linter.unusedSimpArgs false
section
variable {F : Fence} {n : Nat} {P : Program} {ops : Array Oper} {Q : Exit → Act → World → Prop}

theorem any_inv (I : Nat → Array Bool → Act → World → Prop) (hz : ∀ listed a w, I 0 listed a w → Region.ready .any ops listed = [])
    (hq : ∀ fuel listed a w, I fuel listed a w → Region.ready .any ops listed = [] → Q .normal a w)
    (hs : ∀ fuel listed a w i, I (fuel + 1) listed a w → i ∈ Region.ready .any ops listed → wpOpIn F n P ops Q i (I fuel (listed.setIfInBounds i true)) a w) :
    ∀ fuel listed a w, I fuel listed a w → wpAnyIn F n P .any ops Q fuel listed a w
  | 0, listed, a, w, h => ⟨hz _ _ _ h, hq _ _ _ _ h (hz _ _ _ h)⟩
  | fuel + 1, listed, a, w, h => ⟨hq _ _ _ _ h, fun i hi => wpOpIn_mono (any_inv I hz hq hs fuel _) (hs fuel listed a w i h hi)⟩

/-- What an operation waits for. -/
def depsOf (ops : Array Oper) (i : Nat) : List Nat := match ops[i]? with | some o => (o.after.toList.filter (fun e => Region.binds .any e)).map (·.on) | none => []
/-- Has it been done? -/
def don (listed : Array Bool) (i : Nat) : Bool := listed.getD i false
theorem ready_deps {listed : Array Bool} {i : Nat} (h : i ∈ Region.ready .any ops listed) : listed.getD i true = false ∧ i < ops.size ∧ ∀ d ∈ depsOf ops i, don listed d = true := by
  obtain ⟨h1, o, ho, h2⟩ := mem_ready.1 h
  refine ⟨h1, (Array.getElem?_eq_some_iff.1 ho).1, fun d hd => ?_⟩
  unfold depsOf at hd
  rw [ho] at hd
  obtain ⟨e, he, rfl⟩ := List.mem_map.1 hd
  rw [List.mem_filter] at he
  exact h2 e (by simpa using he.1) he.2
theorem deps_ready {listed : Array Bool} {i : Nat} (h1 : listed.getD i true = false) (hi : i < ops.size) (h : ∀ d ∈ depsOf ops i, don listed d = true) : i ∈ Region.ready .any ops listed := by
  refine mem_ready.2 ⟨h1, ops[i], Array.getElem?_eq_getElem hi, fun e he hb => h e.on ?_⟩
  unfold depsOf
  rw [Array.getElem?_eq_getElem hi]
  exact List.mem_map.2 ⟨e, by rw [List.mem_filter]; exact ⟨by simpa using he, hb⟩, rfl⟩
/-- Nothing is ready: all has been done. -/
theorem all_done {listed : Array Bool} (hd : (List.range ops.size).all (fun j => (depsOf ops j).all (fun d => decide (d < j))) = true) (hs : listed.size = ops.size) (h : Region.ready .any ops listed = []) : ∀ i, i < ops.size → don listed i = true := by
  intro i
  induction i using Nat.strongRecOn with
  | _ i ih =>
    intro hi
    cases hx : don listed i with
    | true => rfl
    | false =>
      have : i ∈ Region.ready .any ops listed := deps_ready (by unfold don at hx; simp [hs, hi] at hx ⊢; exact hx) hi (fun d hd' => by
        have h1 := List.all_eq_true.1 hd i (List.mem_range.2 hi)
        have h2 := List.all_eq_true.1 h1 d hd'
        have h3 := of_decide_eq_true h2
        exact ih d h3 (by omega))
      rw [h] at this
      cases this
/-- How much is left to be done. -/
def leftN (listed : Array Bool) : Nat := listed.toList.countP (fun b => !b)
theorem leftN_set {listed : Array Bool} {i : Nat} (h : listed.getD i true = false) : leftN (listed.setIfInBounds i true) + 1 = leftN listed := by
  have hi : i < listed.size := by
    rcases Nat.lt_or_ge i listed.size with h' | h'
    · exact h'
    · simp [h'] at h
  have hv : listed.toList[i]'(by simpa using hi) = false := by simpa [hi] using h
  unfold leftN
  rw [Array.toList_setIfInBounds, List.countP_set (h := by simpa using hi), hv]
  have : 0 < listed.toList.countP (fun b => !b) := List.countP_pos_iff.2 ⟨false, by rw [← hv]; exact List.getElem_mem _, rfl⟩
  simp only [Bool.not_false, Bool.not_true, if_true, Bool.false_eq_true, if_false]
  omega
theorem leftN_zero {listed : Array Bool} (h : leftN listed = 0) : Region.ready .any ops listed = [] := by
  rw [List.eq_nil_iff_forall_not_mem]
  intro i hi
  have h1 := (ready_deps hi).1
  have := leftN_set h1
  omega
theorem don_set {listed : Array Bool} {i : Nat} (h : listed.getD i true = false) (j : Nat) : don (listed.setIfInBounds i true) j = if j = i then true else don listed j := by
  have hi : i < listed.size := by
    rcases Nat.lt_or_ge i listed.size with h' | h'
    · exact h'
    · simp [h'] at h
  unfold don
  by_cases e : j = i
  · subst e; simp [hi]
  · rw [if_neg e]
    simp [Array.getElem?_setIfInBounds_ne (Ne.symm e), Array.getD_eq_getD_getElem?]
theorem not_don {listed : Array Bool} {i : Nat} (h : listed.getD i true = false) : don listed i = false := by
  unfold don
  rcases Nat.lt_or_ge i listed.size with h' | h'
  · simp [h'] at h ⊢; exact h
  · simp [h']

/-- An operation that gives a value, in whatever world. -/
theorem step_value {i : Nat} {o : Oper} {a : Act} {w w' : World} {K : Act → World → Prop} {v : Value} (ho : ops[i]? = some o) (hg : o.guard = none) (hs : o.semAt F.round a.eval = execOp a.eval o) (hF : ∀ f, F.fn f)
    (hr : (execOp a.eval o).run P w = .ok (.value v) w') (h : K (a.put o.dst v) w') : wpOpIn F n P ops Q i K a w := by
  unfold wpOpIn
  rw [ho]
  dsimp only
  rw [if_pos (by simp [Region.wanted, hg])]
  exact ⟨fun f _ => hF f, by rw [hs, hr]; exact h⟩
theorem step_skip {i : Nat} {o : Oper} {a : Act} {w w' : World} {K : Act → World → Prop} (ho : ops[i]? = some o) (hg : o.guard = none) (hs : o.semAt F.round a.eval = execOp a.eval o) (hF : ∀ f, F.fn f)
    (hr : (execOp a.eval o).run P w = .ok .skip w') (h : K (a.put o.dst undef) w') : wpOpIn F n P ops Q i K a w := by
  unfold wpOpIn
  rw [ho]
  dsimp only
  rw [if_pos (by simp [Region.wanted, hg])]
  exact ⟨fun f _ => hF f, by rw [hs, hr]; exact h⟩
theorem step_call {i : Nat} {o : Oper} {a : Act} {w w' : World} {K : Act → World → Prop} {f : FuncId} {args : Array Value} {R : Ending → World → Prop} (ho : ops[i]? = some o) (hg : o.guard = none) (hs : o.semAt F.round a.eval = execOp a.eval o) (hF : ∀ f, F.fn f)
    (hr : (execOp a.eval o).run P w = .ok (.enter f args) w') (hn : 1 ≤ n) (hc : CallsIn F (n - 1) P f args w' R) (h : ∀ e w'', R e w'' → ∃ v, e = .returned v ∧ K (a.put o.dst v) w'') : wpOpIn F n P ops Q i K a w := by
  unfold wpOpIn
  rw [ho]
  dsimp only
  rw [if_pos (by simp [Region.wanted, hg])]
  refine ⟨fun f _ => hF f, ?_⟩
  rw [hs, hr]
  exact ⟨fun _ => hn, hc.mono fun e w'' hR => by obtain ⟨v, rfl, hk⟩ := h e w'' hR; exact hk⟩
theorem eval_put {a : Act} {d : Nat} (hd : d < a.tmps.size) (v : Value) (s : Nat) : (a.put (some d) v).eval (.tmp s) = if s = d then v else a.eval (.tmp s) := by
  unfold Act.put Act.eval
  by_cases e : s = d
  · subst e; simp [hd]
  · rw [if_neg e]
    simp [Array.getElem?_setIfInBounds_ne (Ne.symm e), Array.getD_eq_getD_getElem?]
theorem size_put_a (a : Act) (d : Option Nat) (v : Value) : (a.put d v).tmps.size = a.tmps.size := by
  unfold Act.put
  cases d <;> simp
end
end
section
set_option linter.unusedVariables false
set_option linter.unusedSimpArgs false
open Go.RowKit Go.Maps Go.Sort Go.Proofs.YtoolflmaaooplaaGreatW.PrintWords Go.Proofs.YtoolflmaaooplaaGreatW.PrintLast Go.Proofs.YtoolflmaaooplaaGreatW.PrintMore FLib

/-- A span of offsets. -/
structure Sp where
  lo : Int
  hi : Int
  ex : Bool
deriving Inhabited, DecidableEq
def Sp.cells (s : Sp) : List Value := [.int .i64 s.lo, .int .i64 s.hi, .bool s.ex]
def spV (s : Sp) : Value := .agg #[.int .i64 s.lo, .int .i64 s.hi, .bool s.ex]
/-- A lock. -/
structure Lk where
  own : Int
  st : Int
  len : Int
  ex : Bool
deriving Inhabited, DecidableEq
def Lk.cells (l : Lk) : List Value := [.int .i64 l.own, .int .i64 l.st, .int .i64 l.len, .bool l.ex]
def lkV (l : Lk) : Value := .agg #[.int .i64 l.own, .int .i64 l.st, .int .i64 l.len, .bool l.ex]
def far : Int := 1152921504606846976
def endI (s l : Int) : Int := if l = 0 then 1152921504606846976 else s + l
def okL (o s l : Int) : Bool := decide (0 ≤ o) && (decide (0 ≤ s) && (decide (s ≤ 16384) && (decide (0 ≤ l) && decide (l ≤ 16384))))
theorem okL_iff {o s l : Int} : okL o s l = true ↔ 0 ≤ o ∧ 0 ≤ s ∧ s ≤ 16384 ∧ 0 ≤ l ∧ l ≤ 16384 := by simp [okL]
def spanI (l : Lk) : Sp := ⟨l.st, endI l.st l.len, l.ex⟩
def overI (a b : Sp) : Bool := decide (a.lo < b.hi) && decide (b.lo < a.hi)
def lockI (s : Sp) (o : Int) : Lk := ⟨o, s.lo, if s.hi = 1152921504606846976 then 0 else s.hi - s.lo, s.ex⟩
theorem later_cell {W : World} {a : Addr} {v : Value} (h : W.cell? a = some v) : ∀ w', Below W.heap.size W w' → w'.cell? a = some v := fun _ hb => pw_cell_below hb h

theorem below_alloc_T {W w : World} (o : Obj) (h : Below W.heap.size W w) : Below W.heap.size W (w.alloc o) = True := eq_true (h.alloc h.size o)
theorem below_drew_T (B : Nat) (a w : World) : Below B a w.drew = Below B a w := propext ⟨fun h => ⟨h.os, h.tape, h.output, h.size, h.block⟩, fun h => ⟨h.os, h.tape, h.output, h.size, h.block⟩⟩
theorem below_drewN_T (B n : Nat) (a w : World) : Below B a (w.drewN n) = Below B a w := propext ⟨fun h => ⟨h.os, h.tape, h.output, h.size, h.block⟩, fun h => ⟨h.os, h.tape, h.output, h.size, h.block⟩⟩
theorem later_blk {W : World} {q : Nat} {o : Obj} (h : W.heap[q]? = some o) : ∀ w', Below W.heap.size W w' → w'.heap[q]? = some o := fun _ hb => (hb.block q (blk_lt h)).trans h
theorem later_frz {W : World} {q : Nat} {cs : Array Value} {ty : Nat} (h : W.heap[q]? = some (.cells cs ty (0, 0))) (i : Nat) : ∀ w', Below W.heap.size W w' → w'.frozen? ⟨q, i, none⟩ = false := fun w' hb => blk_frozen (later_blk h w' hb) i
attribute [local go_sem] below_alloc_T below_drew_T below_drewN_T

theorem valid_any (o s l : Int) (w : World) : Calls Tryz.prog 21 #[.int .i64 o, .int .i64 s, .int .i64 l] w fun e w' => e = .returned (.bool (okL o s l)) ∧ w = w' := by
  unfold okL
  cases d1 : decide (0 ≤ o)
  · go_enter Tryz.func21, Tryz.ntmps21
    go_wp2
    go_ret
    exact ⟨rfl, rfl⟩
  cases d2 : decide (0 ≤ s)
  · go_enter Tryz.func21, Tryz.ntmps21
    go_wp2
    go_ret
    exact ⟨rfl, rfl⟩
  cases d3 : decide (s ≤ 16384)
  · go_enter Tryz.func21, Tryz.ntmps21
    go_wp2
    go_ret
    exact ⟨rfl, rfl⟩
  cases d4 : decide (0 ≤ l)
  · go_enter Tryz.func21, Tryz.ntmps21
    go_wp2
    go_ret
    exact ⟨rfl, rfl⟩
  cases d5 : decide (l ≤ 16384)
  all_goals
    go_enter Tryz.func21, Tryz.ntmps21
    go_wp2
    go_ret
    exact ⟨rfl, rfl⟩
theorem end_any (s l : Int) (h : -1000000 ≤ s + l ∧ s + l ≤ 1000000) (w : World) : Calls Tryz.prog 57 #[.int .i64 s, .int .i64 l] w fun e w' => e = .returned (.int .i64 (endI s l)) ∧ w = w' := by
  unfold endI
  have hw : IntKind.i64.wrap (s + l) = s + l := IntWalk.i64_in _ (by omega)
  by_cases h0 : l = 0
  · subst h0
    go_enter Tryz.func57, Tryz.ntmps57
    go_wp2
    go_ret
    exact ⟨rfl, rfl⟩
  · have d0 : (l == 0) = false := by simpa using h0
    have HZ := Lib.hid h0
    clear h0
    go_enter Tryz.func57, Tryz.ntmps57
    go_wp2
    go_ret
    exact ⟨rfl, rfl⟩
theorem over_any (a b : Sp) (w : World) : Calls Tryz.prog 64 #[spV a, spV b] w fun e w' => e = .returned (.bool (overI a b)) ∧ Below w.heap.size w w' := by
  unfold overI
  obtain ⟨a0, a1, a2⟩ := a
  obtain ⟨b0, b1, b2⟩ := b
  simp only [spV]
  cases d1 : decide (a0 < b1)
  all_goals
    go_enter Tryz.func64, Tryz.ntmps64
    go_wp2
    go_ret
    exact ⟨rfl, below_alloc (below_alloc (Below.refl _ _) _) _⟩
theorem lock_any (s : Sp) (o : Int) (h : 0 ≤ s.lo ∧ s.lo ≤ 1152921504606846976 ∧ 0 ≤ s.hi ∧ s.hi ≤ 1152921504606846976) (w : World) : Calls Tryz.prog 18 #[spV s, .int .i64 o] w fun e w' => e = .returned (lkV (lockI s o)) ∧ Below w.heap.size w w' := by
  unfold lockI lkV
  obtain ⟨a0, a1, a2⟩ := s
  simp only at h
  have hw : IntKind.i64.wrap (a1 - a0) = a1 - a0 := IntWalk.i64_in _ (by omega)
  simp only [spV]
  clear h
  by_cases h0 : a1 = 1152921504606846976
  · have d0 : (a1 == 1152921504606846976) = true := by simpa using h0
    have HZ := Lib.hid h0
    clear h0
    go_enter Tryz.func18, Tryz.ntmps18
    go_wp2
    refine bodyPost_ret (v := .agg #[.int .i64 o, .int .i64 a0, .int .i64 0, .bool a2]) (by simp [results, Tryz.results18, go_sem]) rfl ?_
    exact ⟨rfl, below_alloc (below_alloc (Below.refl _ _) _) _⟩
  · have d0 : (a1 == 1152921504606846976) = false := by simpa using h0
    have HZ := Lib.hid h0
    clear h0
    go_enter Tryz.func18, Tryz.ntmps18
    go_wp2
    refine bodyPost_ret (v := .agg #[.int .i64 o, .int .i64 a0, .int .i64 (a1 - a0), .bool a2]) (by simp [results, Tryz.results18, go_sem]) rfl ?_
    exact ⟨rfl, below_alloc (below_alloc (Below.refl _ _) _) _⟩
theorem span_any (l : Lk) (h : -1000000 ≤ l.st + l.len ∧ l.st + l.len ≤ 1000000) (w : World) : Calls Tryz.prog 44 #[lkV l] w fun e w' => e = .returned (spV (spanI l)) ∧ Below w.heap.size w w' := by
  have HE := Lib.hid (fun w => end_any l.st l.len h w)
  unfold spanI
  obtain ⟨a0, a1, a2, a3⟩ := l
  simp only [lkV, spV] at HE ⊢
  generalize endI a1 a2 = n at HE ⊢
  clear h
  obtain ⟨O, hO⟩ : ∃ O, Obj.cells #[.int .i64 a0, .int .i64 a1, .int .i64 a2, .bool a3] 29 (0, 0) = O := ⟨_, rfl⟩
  have HO := Lib.hid hO
  have x1 : ∀ w' : World, w'.heap[w.heap.size]? = some O → w'.cell? ⟨w.heap.size, 1, none⟩ = some (.int .i64 a1) := fun w' hw => blk_cell (hw.trans (congrArg some HO.out.symm)) 1
  have x2 : ∀ w' : World, w'.heap[w.heap.size]? = some O → w'.cell? ⟨w.heap.size, 2, none⟩ = some (.int .i64 a2) := fun w' hw => blk_cell (hw.trans (congrArg some HO.out.symm)) 2
  have x3 : ∀ w' : World, w'.heap[w.heap.size]? = some O → w'.cell? ⟨w.heap.size, 3, none⟩ = some (.bool a3) := fun w' hw => blk_cell (hw.trans (congrArg some HO.out.symm)) 3
  clear hO
  go_enter Tryz.func44, Tryz.ntmps44
  go_wp2
  rw [HO.out]
  have hS : ((w.alloc O).alloc (.cells #[.int .i64 0, .int .i64 0, .bool false] 50)).drew.heap[w.heap.size]? = some O := blk_drew (blk_alloc (blk_new w O) _)
  go_region_held3 (fun w' => w'.heap[w.heap.size]? = some O) (first | assumption | exact blk_drew (blk_alloc (blk_new w O) _))
    (first | (go_at_call 57; refine (HE.out _).mono ?_; rintro e w3 ⟨rfl, rfl⟩))
  all_goals
    go_wp2
    refine bodyPost_ret (v := .agg #[.int .i64 a1, .int .i64 n, .bool a3]) (by simp [results, Tryz.results44, go_sem]) rfl ?_
    exact ⟨rfl, below_drew (below_alloc (below_alloc (Below.refl _ _) _) _)⟩
def cmpI (a b : Int) : Int := if a < b then -1 else if b < a then 1 else 0
theorem nan_any (a : Int) (w : World) : Calls Tryz.prog 84 #[.int .i64 a] w fun e w' => e = .returned (.bool false) ∧ w = w' := by
  go_enter Tryz.func84, Tryz.ntmps84
  go_wp2
  go_ret
  exact ⟨by simp, rfl⟩
theorem cmp_any (a b : Int) (w : World) : Calls Tryz.prog 67 #[.int .i64 a, .int .i64 b] w fun e w' => e = .returned (.int .i64 (cmpI a b)) ∧ w = w' := by
  unfold cmpI
  have HN := Lib.hid nan_any
  by_cases h1 : a < b
  · have d1 : decide (a < b) = true := decide_eq_true h1
    rw [if_pos h1]
    clear h1
    go_enter Tryz.func67, Tryz.ntmps67
    go_wp2_with (refine (HN.out _ _).mono ?_; rintro e w1 ⟨rfl, rfl⟩)
    go_ret
    exact ⟨rfl, rfl⟩
  · have d1 : decide (a < b) = false := decide_eq_false h1
    rw [if_neg h1]
    clear h1
    by_cases h2 : b < a
    · have d2 : decide (b < a) = true := decide_eq_true h2
      rw [if_pos h2]
      clear h2
      go_enter Tryz.func67, Tryz.ntmps67
      go_wp2_with (refine (HN.out _ _).mono ?_; rintro e w1 ⟨rfl, rfl⟩)
      go_ret
      exact ⟨rfl, rfl⟩
    · have d2 : decide (b < a) = false := decide_eq_false h2
      rw [if_neg h2]
      clear h2
      go_enter Tryz.func67, Tryz.ntmps67
      go_wp2_with (refine (HN.out _ _).mono ?_; rintro e w1 ⟨rfl, rfl⟩)
      go_ret
      exact ⟨rfl, rfl⟩
theorem cmps_any (a b : Sp) (w : World) : Calls Tryz.prog 66 #[spV a, spV b] w fun e w' => e = .returned (.int .i64 (cmpI a.lo b.lo)) ∧ w' = (w.alloc (.cells a.cells.toArray 50)).alloc (.cells b.cells.toArray 50) := by
  have HC := Lib.hid cmp_any
  obtain ⟨a0, a1, a2⟩ := a
  obtain ⟨b0, b1, b2⟩ := b
  simp only [spV]
  go_enter Tryz.func66, Tryz.ntmps66
  go_wp2_with (refine (HC.out _ _ _).mono ?_; rintro e w1 ⟨rfl, rfl⟩)
  go_ret
  exact ⟨rfl, rfl⟩
theorem waits1_any (l : Lk) (p : Nat) (o : Int) (w : World) (h : w.cell? ⟨p, 0, none⟩ = some (.int .i64 o)) : Calls Tryz.prog 42 #[lkV l, .pointer (some ⟨p, 0, none⟩)] w fun e w' => e = .returned (.bool (l.own == o)) ∧ Below w.heap.size w w' := by
  obtain ⟨a0, a1, a2, a3⟩ := l
  have c0 := later_cell h
  have hs := Below.refl w.heap.size w
  simp only [lkV]
  clear h
  go_enter Tryz.func42, Tryz.ntmps42
  go_wp2
  go_ret
  exact ⟨rfl, below_alloc (Below.refl _ _) _⟩
end
section
set_option linter.unusedVariables false
set_option linter.unusedSimpArgs false
open Go.RowKit Go.Maps Go.Sort Go.Proofs.YtoolflmaaooplaaGreatW.PrintWords Go.Proofs.YtoolflmaaooplaaGreatW.PrintLast Go.Proofs.YtoolflmaaooplaaGreatW.PrintMore FLib
attribute [local go_sem] below_alloc_T below_drew_T below_drewN_T

/-- An owner's granted spans, and where they lie. -/
structure Ent where
  own : Int
  g : Nat
  cap : Nat
  l : List Sp
def gAt (G : List Ent) (k : Int) : Option Ent := G.find? (fun e => e.own == k)
def entV : Option Ent → Value
  | none => .slice none 0 0
  | some e => .slice (some ⟨e.g, 0, none⟩) e.l.length e.cap
def entD : Option Ent → DataW Unit
  | none => .nil
  | some e => .agg [.lit (.int .i64 e.g), .lit (.int .i64 e.l.length), .lit (.int .i64 e.cap)]
/-- How a slice in the map reads: where it lies. -/
def Rd : Value → Option (DataW Unit × List MemPlace)
  | .slice none 0 0 => some (.nil, [])
  | .slice (some ⟨b, 0, none⟩) n c => some (.agg [.lit (.int .i64 b), .lit (.int .i64 n), .lit (.int .i64 c)], [])
  | _ => none
theorem Rd_ent (o : Option Ent) : Rd (entV o) = some (entD o, []) := by
  cases o with
  | none => rfl
  | some x => rfl
theorem Rd_inv {v : Value} {ps : List MemPlace} {o : Option Ent} (h : Rd v = some (entD o, ps)) : v = entV o := by
  unfold Rd at h
  split at h
  · cases o with
    | none => rfl
    | some x => simp [entD] at h
  · rename_i b n c
    cases o with
    | none => simp [entD] at h
    | some x =>
      simp only [entD, Option.some.injEq, Prod.mk.injEq, DataW.agg.injEq, List.cons.injEq, DataW.lit.injEq, Lit.int.injEq, true_and, Int.ofNat_inj, and_true] at h
      obtain ⟨⟨h1, h2, h3⟩, -⟩ := h
      rw [entV, h1, h2, h3]
  · cases h

theorem keyI : Keyed Tryz.prog 3 := int_keyed Tryz.underlying3
theorem keyI_of {k : Int} (h : (Lit.int .i64 k).wf = true) : keyOf Tryz.prog 3 (.int .i64 k) = some (.int .i64 k) := keyOf_int_mk Tryz.underlying3 h
theorem zero60 (w : World) : (zeroValue 45).run Tryz.prog w = .ok (.slice none 0 0) w := by kernel_rfl

/-- The datum D is the map of G. -/
structure DG (D : DataW Unit) (G : List Ent) : Prop where
  look : ∀ k : Int, D.atKey (.int .i64 k) .nil = entD (gAt G k)
  has : ∀ k : Int, has D (.int .i64 k) = (gAt G k).isSome
  size : size D = G.length
theorem DG.empty : DG (.map []) [] := ⟨fun k => by simp [gAt, entD, DataW.atKey], fun k => by simp [gAt, Maps.has], by simp [Maps.size]⟩

def sflat (l : List Sp) : List Value := l.flatMap Sp.cells
def lflat (l : List Lk) : List Value := l.flatMap Lk.cells
/-- A table: p its cells, mb its map, qv its queue. -/
structure TG (W : World) (p mb : Nat) (qv : Value) (G : List Ent) (Q : List Lk) : Prop where
  hdr : W.heap[p]? = some (.cells #[.map (some mb), qv] 48 (0, 0))
  map : ∃ D, W.ownsMap Tryz.prog 3 Rd mb 1000 D ∧ DG D G
  row : ∀ e ∈ G, W.ownsRow 0 50 3 (entV (some e)) e.l.length (sflat e.l)
  sepr : ∀ e ∈ G, e.g ≠ p ∧ e.g ≠ mb ∧ qv.ownBlock ≠ some e.g
  queue : W.ownsRow 0 29 4 qv Q.length (lflat Q)
  sepq : qv.ownBlock ≠ some p ∧ qv.ownBlock ≠ some mb
  len : G.length ≤ 1000
/-- The blocks of a table. -/
def GOwn (p mb : Nat) (qv : Value) (G : List Ent) (k : Nat) : Prop := k = p ∨ k = mb ∨ qv.ownBlock = some k ∨ ∃ e ∈ G, e.g = k
theorem own_move {w w1 : World} {base e size n : Nat} {v : Value} {xs : List Value} (h : w.ownsRow base e size v n xs) (hm : ∀ k, v.ownBlock = some k → w1.heap[k]? = w.heap[k]?) : w1.ownsRow base e size v n xs := by
  refine ⟨h.1, ?_⟩
  rcases h.2 with h2 | ⟨g, cap, cur, h1, h2, h3, h4⟩
  · exact .inl h2
  · exact .inr ⟨g, cap, cur, h1, h2, (hm g (by rw [h1]; rfl)).trans h3, h4⟩
theorem row_lt {w : World} {base e size n : Nat} {v : Value} {xs : List Value} (h : w.ownsRow base e size v n xs) {k : Nat} (hk : v.ownBlock = some k) : k < w.heap.size := by
  rcases h.2 with ⟨rfl, -⟩ | ⟨g, cap, cur, rfl, h2, h3, -⟩
  · cases hk
  · have e : g = k := by simpa [Value.ownBlock] using hk
    exact e ▸ blk_lt h3
theorem TG.own_lt {W : World} {p mb : Nat} {qv : Value} {G : List Ent} {Q : List Lk} (h : TG W p mb qv G Q) {k : Nat} (hk : GOwn p mb qv G k) : k < W.heap.size := by
  rcases hk with rfl | rfl | hk | ⟨e, he, rfl⟩
  · exact blk_lt h.hdr
  · obtain ⟨D, hD, -⟩ := h.map
    exact hD.lt
  · exact row_lt h.queue hk
  · exact row_lt (h.row e he) rfl
theorem TG.keep {W W' : World} {p mb : Nat} {qv : Value} {G : List Ent} {Q : List Lk} {F : Nat → Prop} (h : TG W p mb qv G Q) (hk : Keeps W W' F) (hF : ∀ k, F k → ¬ GOwn p mb qv G k) : TG W' p mb qv G Q := by
  obtain ⟨D, hD, hL⟩ := h.map
  have hb : ∀ k, GOwn p mb qv G k → W'.heap[k]? = W.heap[k]? := fun k ht => hk.block k (h.own_lt ht) (fun hf => hF k hf ht)
  refine ⟨(hb _ (.inl rfl)).trans h.hdr, ⟨D, ?_, hL⟩, fun e he => own_move (h.row e he) (fun k hk' => hb k (.inr (.inr (.inr ⟨e, he, by simpa [entV, Value.ownBlock] using hk'⟩)))), h.sepr, own_move h.queue (fun k hk' => hb k (.inr (.inr (.inl hk')))), h.sepq, h.len⟩
  obtain ⟨es, clock, ho, F', hs, e⟩ := hD
  exact ⟨es, clock, (hb _ (.inr (.inl rfl))).trans ho, F', hs, e⟩
theorem TG.below {W W' : World} {p mb : Nat} {qv : Value} {G : List Ent} {Q : List Lk} (h : TG W p mb qv G Q) (hb : Below W.heap.size W W') : TG W' p mb qv G Q := h.keep (Keeps.of_below hb (fun _ => False)) (fun _ hf => hf.elim)
theorem TG.run_look {W : World} {p mb : Nat} {qv : Value} {G : List Ent} {Q : List Lk} (h : TG W p mb qv G Q) {k : Int} (hk : (Lit.int .i64 k).wf = true) :
    (Instr.lookup 46 (.map (some mb)) (.int .i64 k) false).run Tryz.prog W = .ok (entV (gAt G k)) W := by
  obtain ⟨D, hD, hL⟩ := h.map
  obtain ⟨v, ps, hrun, hv⟩ := hD.lookup keyI Tryz.underlying46 (zero60 W) (zd := .nil) (zp := []) rfl (keyI_of hk)
  rw [hL.look] at hv
  rw [Rd_inv hv] at hrun
  exact hrun

theorem newT_any (w : World) : Calls Tryz.prog 13 #[] w fun e w' => e = .returned (.pointer (some ⟨w.heap.size + 1, 0, none⟩)) ∧ TG w' (w.heap.size + 1) w.heap.size (.slice none 0 0) [] [] ∧ Below w.heap.size w w' := by
  have hmm := @run_makeMap Tryz.prog
  go_enter Tryz.func13, Tryz.ntmps13
  go_wp2
  go_ret
  refine ⟨rfl, ⟨?_, ⟨.map [], ?_, DG.empty⟩, by simp, by simp, World.ownsRow_nil _ _ _ _, by simp [Value.ownBlock], by simp⟩, below_alloc (below_alloc (Below.refl _ _) _) _⟩
  · simpa using blk_new (w.alloc (.map #[] 0)) (.cells #[.map (some w.heap.size), .slice none 0 0] 48)
  · exact ((World.ownsMap_made w Tryz.prog 3 Rd).mono (by omega)).alloc _
end
section
set_option linter.unusedVariables false
set_option linter.unusedSimpArgs false
open Go.RowKit Go.Maps Go.Sort Go.Proofs.YtoolflmaaooplaaGreatW.PrintWords Go.Proofs.YtoolflmaaooplaaGreatW.PrintLast Go.Proofs.YtoolflmaaooplaaGreatW.PrintMore FLib

def gDel (G : List Ent) (k : Int) : List Ent := G.filter (fun e => e.own != k)
def gIns (e : Ent) : List Ent → List Ent
  | [] => [e]
  | x :: G => if e.own < x.own then e :: x :: G else x :: gIns e G
def gPut (G : List Ent) (e : Ent) : List Ent := gIns e (gDel G e.own)
def GSort (G : List Ent) : Prop := G.Pairwise (fun a b => a.own < b.own)
theorem gAt_cons (x : Ent) (G : List Ent) (k : Int) : gAt (x :: G) k = if x.own = k then some x else gAt G k := by
  unfold gAt
  rw [List.find?_cons]
  by_cases h : x.own = k
  · rw [if_pos h]; simp [h]
  · rw [if_neg h]
    have : (x.own == k) = false := by simpa using h
    rw [this]
theorem gAt_mem {G : List Ent} {k : Int} {e : Ent} (h : gAt G k = some e) : e ∈ G ∧ e.own = k := by
  unfold gAt at h
  exact ⟨List.mem_of_find?_eq_some h, by simpa using List.find?_some h⟩
theorem gAt_del (G : List Ent) (k j : Int) : gAt (gDel G k) j = if j = k then none else gAt G j := by
  induction G with
  | nil => unfold gDel gAt; simp
  | cons x G ih =>
    unfold gDel at ih ⊢
    rw [List.filter_cons]
    by_cases h : x.own = k
    · have : (x.own != k) = false := by simp [h]
      rw [this]
      simp only [Bool.false_eq_true, if_false]
      rw [ih, gAt_cons]
      by_cases hj : j = k
      · rw [if_pos hj, if_pos hj]
      · rw [if_neg hj, if_neg hj, if_neg (by omega)]
    · have : (x.own != k) = true := by simpa using h
      rw [this]
      simp only [if_true]
      rw [gAt_cons, gAt_cons, ih]
      by_cases hj : j = k
      · rw [if_pos hj, if_pos hj, if_neg (by omega)]
      · rw [if_neg hj, if_neg hj]
theorem gAt_ins {e : Ent} {G : List Ent} (h : gAt G e.own = none) (j : Int) : gAt (gIns e G) j = if j = e.own then some e else gAt G j := by
  induction G with
  | nil =>
    unfold gIns
    rw [gAt_cons]
    by_cases hj : j = e.own
    · rw [if_pos hj, if_pos hj.symm]
    · rw [if_neg hj, if_neg (fun h => hj h.symm)]
  | cons x G ih =>
    rw [gAt_cons] at h
    have hx : x.own ≠ e.own := fun hx => by rw [if_pos hx] at h; cases h
    rw [if_neg hx] at h
    unfold gIns
    split
    · rw [gAt_cons]
      by_cases hj : j = e.own
      · rw [if_pos hj, if_pos hj.symm]
      · rw [if_neg hj, if_neg (fun h => hj h.symm)]
    · rw [gAt_cons, gAt_cons, ih h]
      by_cases hj : j = e.own
      · rw [if_pos hj, if_neg (by omega), if_pos hj]
      · rw [if_neg hj, if_neg hj]
theorem gAt_put (G : List Ent) (e : Ent) (j : Int) : gAt (gPut G e) j = if j = e.own then some e else gAt G j := by
  unfold gPut
  rw [gAt_ins (by rw [gAt_del, if_pos rfl]), gAt_del]
  split
  · rfl
  · rfl
theorem gIns_len (e : Ent) (G : List Ent) : (gIns e G).length = G.length + 1 := by
  induction G with
  | nil => rfl
  | cons x G ih =>
    unfold gIns
    split
    · rfl
    · rw [List.length_cons, ih, List.length_cons]
theorem mem_gIns {e x : Ent} {G : List Ent} : x ∈ gIns e G ↔ x = e ∨ x ∈ G := by
  induction G with
  | nil => simp [gIns]
  | cons y G ih =>
    unfold gIns
    split
    · simp
    · rw [List.mem_cons, ih, List.mem_cons]
      constructor
      · rintro (h | h | h)
        · exact .inr (.inl h)
        · exact .inl h
        · exact .inr (.inr h)
      · rintro (h | h | h)
        · exact .inr (.inl h)
        · exact .inl h
        · exact .inr (.inr h)
theorem mem_gDel {x : Ent} {G : List Ent} {k : Int} : x ∈ gDel G k ↔ x ∈ G ∧ x.own ≠ k := by
  unfold gDel
  rw [List.mem_filter]
  simp
theorem mem_gPut {e x : Ent} {G : List Ent} : x ∈ gPut G e ↔ x = e ∨ (x ∈ G ∧ x.own ≠ e.own) := by
  unfold gPut
  rw [mem_gIns, mem_gDel]
theorem GSort.del {G : List Ent} (h : GSort G) (k : Int) : GSort (gDel G k) := List.Pairwise.filter _ h
theorem GSort.ins {e : Ent} {G : List Ent} (h : GSort G) (hn : ∀ x ∈ G, x.own ≠ e.own) : GSort (gIns e G) := by
  induction G with
  | nil => exact List.pairwise_singleton _ _
  | cons x G ih =>
    unfold GSort at h ih
    rw [List.pairwise_cons] at h
    have hx := hn x (List.mem_cons_self ..)
    unfold gIns
    split
    · rename_i hlt
      refine List.pairwise_cons.2 ⟨fun y hy => ?_, List.pairwise_cons.2 h⟩
      rcases List.mem_cons.1 hy with rfl | hy
      · exact hlt
      · have := h.1 y hy; omega
    · rename_i hge
      refine List.pairwise_cons.2 ⟨fun y hy => ?_, ih h.2 (fun z hz => hn z (List.mem_cons_of_mem _ hz))⟩
      rcases mem_gIns.1 hy with rfl | hy
      · omega
      · exact h.1 y hy
theorem GSort.put {G : List Ent} (h : GSort G) (e : Ent) : GSort (gPut G e) := (h.del _).ins (fun x hx => (mem_gDel.1 hx).2)
theorem gDel_none {G : List Ent} {k : Int} (h : gAt G k = none) : gDel G k = G := by
  unfold gDel
  rw [List.filter_eq_self]
  intro x hx
  unfold gAt at h
  rw [List.find?_eq_none] at h
  simpa using h x hx
theorem gDel_len {G : List Ent} (h : GSort G) (k : Int) : (gDel G k).length + (if (gAt G k).isSome then 1 else 0) = G.length := by
  induction G with
  | nil => rfl
  | cons x G ih =>
    unfold GSort at h ih
    rw [List.pairwise_cons] at h
    rw [gAt_cons]
    unfold gDel at ih ⊢
    rw [List.filter_cons]
    by_cases hx : x.own = k
    · have hb : (x.own != k) = false := by simp [hx]
      have hn : gAt G k = none := by
        unfold gAt
        rw [List.find?_eq_none]
        intro y hy
        have := h.1 y hy
        simp; omega
      have hd := gDel_none hn
      unfold gDel at hd
      rw [hb, if_pos hx]
      simp [hd]
    · have hb : (x.own != k) = true := by simpa using hx
      rw [hb, if_neg hx]
      have := ih h.2
      simp only [if_true, List.length_cons]
      omega
theorem gPut_len {G : List Ent} (h : GSort G) (e : Ent) : (gPut G e).length = if (gAt G e.own).isSome then G.length else G.length + 1 := by
  unfold gPut
  rw [gIns_len]
  have := gDel_len h e.own
  split at this
  · rename_i hs; rw [if_pos hs]; omega
  · rename_i hs; rw [if_neg hs]; omega

theorem key_ne {a b : Int} (h : a ≠ b) : (Lit.int .i64 a) ≠ (Lit.int .i64 b) := fun e => h (by injection e)
theorem key_lit {k : Int} (h : (Lit.int .i64 k).wf = true) : WideAt.IsKeyLit (Lit.int .i64 k) := by trivial
theorem DG.put {D : DataW Unit} {G : List Ent} (h : DG D G) (ht : Tidy D) (hs : GSort G) (e : Ent) (hw : (Lit.int .i64 e.own).wf = true) : DG (D.put (.int .i64 e.own) (entD (some e))) (gPut G e) := by
  refine ⟨fun k => ?_, fun k => ?_, ?_⟩
  · rw [gAt_put]
    by_cases hk : k = e.own
    · subst hk; rw [if_pos rfl]; exact atKey_put_same ht.isMap (key_lit hw) _ _
    · rw [if_neg hk, atKey_put_other (key_ne hk), h.look]
  · rw [gAt_put]
    by_cases hk : k = e.own
    · subst hk; rw [if_pos rfl]; exact has_put_same ht.isMap (key_lit hw) _
    · rw [if_neg hk, has_put_other (key_ne hk), h.has]
  · rw [size_put ht, h.has, h.size, gPut_len hs]
theorem DG.del {D : DataW Unit} {G : List Ent} (h : DG D G) (ht : Tidy D) (hs : GSort G) (k : Int) : DG (D.del (.int .i64 k)) (gDel G k) := by
  refine ⟨fun j => ?_, fun j => ?_, ?_⟩
  · rw [gAt_del]
    by_cases hj : j = k
    · subst hj; rw [if_pos rfl]; exact atKey_del_same _
    · rw [if_neg hj, atKey_del_other (key_ne hj), h.look]
  · rw [gAt_del]
    by_cases hj : j = k
    · subst hj; rw [if_pos rfl]; exact has_del_same
    · rw [if_neg hj, has_del_other (key_ne hj), h.has]
  · have h1 := size_del (k := .int .i64 k) ht
    have h2 := gDel_len hs k
    rw [h.has, h.size] at h1
    omega
/-- The bound of a map's entries is their number. -/
theorem owns_tight {W : World} {b n m : Nat} {D : DataW Unit} (h : W.ownsMap Tryz.prog 3 Rd b n D) (hs : size D ≤ m) : W.ownsMap Tryz.prog 3 Rd b m D := by
  obtain ⟨es, clock, ho, F, _, rfl⟩ := h
  refine ⟨es, clock, ho, F, ?_, rfl⟩
  simpa [Maps.size, length_sorted] using hs
end
section
set_option linter.unusedVariables false
set_option linter.unusedSimpArgs false
open Go.RowKit Go.Maps Go.Sort Go.Proofs.YtoolflmaaooplaaGreatW.PrintWords Go.Proofs.YtoolflmaaooplaaGreatW.PrintLast Go.Proofs.YtoolflmaaooplaaGreatW.PrintMore FLib
attribute [local go_sem] below_alloc_T below_drew_T below_drewN_T

theorem TG.grown {W W' : World} {p mb : Nat} {qv : Value} {G G' : List Ent} {Q : List Lk} (h : TG W p mb qv G Q) {D D' : DataW Unit} {n : Nat} (hD : W.ownsMap Tryz.prog 3 Rd mb 1000 D) (hD' : W'.ownsMap Tryz.prog 3 Rd mb n D') (hL' : DG D' G') (hg : W.grownBy W' (some mb))
    (hlen : G'.length ≤ 1000) (hrow : ∀ e ∈ G', e ∈ G ∨ (W.ownsRow 0 50 3 (entV (some e)) e.l.length (sflat e.l) ∧ e.g ≠ p ∧ e.g ≠ mb ∧ qv.ownBlock ≠ some e.g)) : TG W' p mb qv G' Q := by
  have hmb := hD.lt
  obtain ⟨es, clock, ho, -⟩ := hD
  have hpm : p ≠ mb := fun e => by have := h.hdr; rw [e, ho] at this; cases this
  have hmove : ∀ k, k < W.heap.size → k ≠ mb → W'.heap[k]? = W.heap[k]? := fun k hk hne => hg.block k hk (fun e => hne (by injection e))
  refine ⟨(hmove p (blk_lt h.hdr) hpm).trans h.hdr, ⟨_, owns_tight hD' (by rw [hL'.size]; exact hlen), hL'⟩, fun e he => ?_, fun e he => ?_, own_move h.queue (fun k hk => hmove k (row_lt h.queue hk) (fun e => h.sepq.2 (e ▸ hk))), h.sepq, hlen⟩
  · rcases hrow e he with he | ⟨hr, -, hm, -⟩
    · exact own_move (h.row e he) (fun k hk => hmove k (row_lt (h.row e he) hk) (fun e2 => by have := (h.sepr e he).2.1; simp [entV, Value.ownBlock] at hk; omega))
    · exact own_move hr (fun k hk => hmove k (row_lt hr hk) (fun e2 => by simp [entV, Value.ownBlock] at hk; omega))
  · rcases hrow e he with he | ⟨hr, h1, h2, h3⟩
    · exact h.sepr e he
    · exact ⟨h1, h2, h3⟩

set_option maxRecDepth 100000 in
theorem put_del (p mb : Nat) (qv : Value) (G : List Ent) (Q : List Lk) (hs : GSort G) (o : Int) (ho : (Lit.int .i64 o).wf = true) (a : Option Addr) (c : Nat) (w : World) (h : TG w p mb qv G Q) :
    Calls Tryz.prog 26 #[.pointer (some ⟨p, 0, none⟩), .int .i64 o, .slice a 0 c] w fun e w' => e = .returned (.tuple #[]) ∧ TG w' p mb qv (gDel G o) Q ∧ w.grownBy w' (some mb) := by
  have HT := Lib.hid h
  obtain ⟨D, hD, hL⟩ := h.map
  have HW := Lib.hid ho
  have HS := Lib.hid hs
  have c0 : w.cell? ⟨p, 0, none⟩ = some (.map (some mb)) := blk_cell h.hdr 0
  have HL := Lib.hid hL
  clear h ho hs hL
  go_enter Tryz.func26, Tryz.ntmps26
  go_wp2_with (first
      | (at_delete; refine wpList_delete_own _ rfl _ _ 46 3 rfl 45 keyI Tryz.underlying46 Rd mb 1000 D rfl hD _ _ rfl (keyI_of HW.out) ?_; intro w3 hown3 hturn3)
      | go_in)
  refine bodyPost_ret (results_none rfl _ _ _) rfl ?_
  have htd := World.ownsMap.tidy hD keyI
  exact ⟨rfl, HT.out.grown hD hown3 (HL.out.del htd HS.out o) hturn3.grown (Nat.le_trans (List.length_filter_le _ _) HT.out.len) (fun e he => .inl (mem_gDel.1 he).1), hturn3.grown⟩
set_option maxRecDepth 100000 in
theorem put_ins (p mb : Nat) (qv : Value) (G : List Ent) (Q : List Lk) (hs : GSort G) (e : Ent) (ho : (Lit.int .i64 e.own).wf = true) (hne : 0 < e.l.length) (hl : e.l.length ≤ 100000) (hG : G.length < 1000) (w : World) (h : TG w p mb qv G Q)
    (hr : w.ownsRow 0 50 3 (entV (some e)) e.l.length (sflat e.l)) (h1 : e.g ≠ p) (h2 : e.g ≠ mb) (h3 : qv.ownBlock ≠ some e.g) :
    Calls Tryz.prog 26 #[.pointer (some ⟨p, 0, none⟩), .int .i64 e.own, entV (some e)] w fun e' w' => e' = .returned (.tuple #[]) ∧ TG w' p mb qv (gPut G e) Q ∧ w.grownBy w' (some mb) := by
  have HT := Lib.hid h
  obtain ⟨D, hD, hL⟩ := h.map
  have htd := World.ownsMap.tidy hD keyI
  obtain ⟨w2, hrun, hown2, hg2⟩ := hD.update (val := entV (some e)) keyI Tryz.underlying46 (by unfold maxLen; omega) (keyI_of ho) (Rd_ent (some e))
  have hT2 : TG w2 p mb qv (gPut G e) Q := h.grown hD hown2 (hL.put htd hs e ho) hg2 (by rw [gPut_len hs]; split <;> omega) (fun x hx => by
    rcases mem_gPut.1 hx with rfl | ⟨hx, -⟩
    · exact .inr ⟨hr, h1, h2, h3⟩
    · exact .inl hx)
  have H2 := Lib.hid (And.intro hT2 hg2)
  have c0 : w.cell? ⟨p, 0, none⟩ = some (.map (some mb)) := blk_cell h.hdr 0
  have d0 : ((e.l.length : Int) == 0) = false := by simpa using (by omega : ¬ (e.l.length : Int) = 0)
  simp only [entV] at hrun ⊢
  have hn0 : ¬ e.l.length = 0 := by omega
  clear h hD hL htd hown2 hg2 hT2 hr h1 h2 h3 hG hs ho hne hl HT
  generalize e.l.length = n at hrun d0 hn0 ⊢
  generalize e.own = o at hrun ⊢
  go_enter Tryz.func26, Tryz.ntmps26
  go_wp2
  go_end0
  exact ⟨rfl, H2.out⟩
end
section
set_option linter.unusedVariables false
set_option linter.unusedSimpArgs false
open Go.RowKit Go.Maps Go.Sort Go.Lib Go.Proofs.YtoolflmaaooplaaGreatW.PrintWords Go.Proofs.YtoolflmaaooplaaGreatW.PrintLast Go.Proofs.YtoolflmaaooplaaGreatW.PrintMore FLib
attribute [local go_sem] below_alloc_T below_drew_T below_drewN_T

theorem info3 : (Tryz.prog.info? 3).map (fun i => (i.zero, i.size, i.bytes)) = some (some (.int .i64 0), 1, 8) := by kernel_rfl
/-- A row of numbers of the call's own. -/
def IRow (w : World) (base : Nat) (v : Value) (l : List Int) : Prop := w.ownsRow base 3 1 v l.length (l.map encZ)
def sV : Option (Nat × Nat × Nat) → Value
  | none => .slice none 0 0
  | some (b, n, c) => .slice (some ⟨b, 0, none⟩) n c
theorem Rd_shape (v : Value) (y : DataW Unit × List MemPlace) (h : Rd v = some y) : ∃ o, v = sV o := by
  unfold Rd at h
  split at h
  · exact ⟨none, rfl⟩
  · exact ⟨some (_, _, _), rfl⟩
  · cases h
theorem owners_keys {W : World} {mb n : Nat} {D : DataW Unit} {G : List Ent} (hD : W.ownsMap Tryz.prog 3 Rd mb n D) (h : DG D G) (hs : GSort G) {ss : List Int} (hp : ss.Perm (intKeys D)) : ss.mergeSort (fun x y => decide (x ≤ y)) = G.map (·.own) := by
  have hsG : (G.map (·.own)).Pairwise (fun a b => a < b) := by
    rw [List.pairwise_map]; exact hs
  have h1 : (G.map (·.own)).Perm (intKeys D) := by
    refine CollectedI.perm (left := fun _ => false) ⟨hsG.imp (fun {a b} hab => by omega), fun x => ?_⟩ hD keyI Tryz.underlying3 (fun _ => rfl)
    simp only [and_true]
    rw [h.has, List.mem_map]
    constructor
    · rintro ⟨e, he, rfl⟩
      unfold gAt
      rw [List.find?_isSome]
      exact ⟨e, he, by simp⟩
    · intro hx
      obtain ⟨e, he⟩ := Option.isSome_iff_exists.1 hx
      exact ⟨e, (gAt_mem he).1, (gAt_mem he).2⟩
  refine List.Perm.eq_of_pairwise (le := fun a b => a ≤ b) (fun a b _ _ h1 h2 => by omega) ?_ (hsG.imp (fun {a b} hab => by omega)) ((List.mergeSort_perm _ _).trans (hp.trans h1.symm))
  have := List.pairwise_mergeSort (le := fun x y : Int => decide (x ≤ y)) (fun a b c h1 h2 => by simp at *; omega) (fun a b => by simp; omega) ss
  exact this.imp (fun {a b} h => by simpa using h)

set_option maxRecDepth 100000 in
set_option maxHeartbeats 1000000 in
theorem owners_any (p mb : Nat) (qv : Value) (G : List Ent) (Q : List Lk) (hs : GSort G) (w : World) (h : TG w p mb qv G Q) :
    Calls Tryz.prog 17 #[.pointer (some ⟨p, 0, none⟩)] w fun e w' => (∃ u, e = .returned u ∧ IRow w' w.heap.size u (G.map (·.own))) ∧ Below w.heap.size w w' := by
  obtain ⟨D, hD, hL⟩ := h.map
  obtain ⟨i0, hi, hz0, hz1, hz2⟩ := info_parts info3
  have c0 : w.cell? ⟨p, 0, none⟩ = some (.map (some mb)) := blk_cell h.hdr 0
  have HP := Lib.hid (fun ss (hp : List.Perm ss (intKeys D)) => owners_keys hD hL hs hp)
  have HD := Lib.hid hD
  have hbl := hD.lt
  have HSZ := Lib.hid (show Maps.size D ≤ 1000 by rw [hL.size]; exact h.len)
  clear hL h hs
  go_enter Tryz.func17, Tryz.ntmps17
  go_wp2_with (first
    | (at_range; refine wpList_range_own _ rfl _ 46 rfl 3 45 keyI Tryz.underlying46 Rd mb 1000 D rfl hD ?_; intro w0 hrg0 hg0 hs0)
    | go_in)
  go_frame
  go_loopw [3] (fun v wr => ∃ (left : Lit → Bool) (cnt : Nat) (ss : List Int), wr.ranges Tryz.prog 3 Rd mb w.heap.size 1000 D left cnt ∧ ss.length + cnt ≤ Maps.size D ∧
      wr.ownsRow w.heap.size 3 1 v ss.length (ss.map encZ) ∧ CollectedI D left ss ∧ Below w.heap.size w wr)
    (fun _ wr => wr.rangeLeft mb w.heap.size)
  case atStart =>
    exact ⟨_, _, [], hrg0, by simp, World.ownsRow_nil _ _ _ _, CollectedI.start D, (Below.refl _ _).grown hg0 (Nat.le_refl _) (fun j hj => by cases hj)⟩
  case round =>
    obtain ⟨left, cnt, ss, hrg, hcs, hrow, hC, hnx⟩ := hrel
    have hsz := HSZ.out
    go_wp2_with (first
      | (at_next; refine wpList_next_ranges _ rfl _ rfl 3 keyI Rd encZ sV (fun key kl hk => by obtain ⟨x, hx, _⟩ := Maps.keyOf_i64 Tryz.underlying3 hk; exact ⟨x, hx⟩) Rd_shape mb w.heap.size 1000 _ _ _ rfl hrg ?_ ?_)
      | go_in)
    · intro hc0 hl0
      have hperm := hC.perm HD.out keyI Tryz.underlying3 hl0
      have hE := HP.out ss hperm
      rcases hrow.2 with ⟨rfl, hz⟩ | ⟨g, cap, cur, rfl, hbase, hb, h1, h2, h3, h4⟩
      · have hc := calls_of_every_depth fun D => AnySM.slices_Sort_int_none_in layInts D none 0 wr
        change Calls Tryz.prog 41 _ _ _ at hc
        obtain rfl : ss = [] := List.eq_nil_of_length_eq_zero hz
        have HC := Lib.hid hc
        have HB := Lib.hid hnx
        have HE := Lib.hid hE
        clear hc hnx hE hC hrow hrg hcs hperm hl0 hc0 hD hrg0 hg0 hs0 hsz
        go_wp2_with fail
        refine HC.out.mono ?_
        rintro e w' ⟨rfl, rfl⟩
        go_wp2
        go_ret
        exact ⟨⟨.slice none 0 0, rfl, by rw [← HE.out]; unfold IRow; rw [List.mergeSort_nil]; exact World.ownsRow_nil _ _ _ _⟩, HB.out⟩
      · have hH : Holds encZ wr g 0 ss.toArray := holds_of_block_i hb (by simpa using h4)
        have hgl : g < wr.heap.size := (Array.getElem?_eq_some_iff.1 hb).1
        have hc := AnyM.slices_Sort_int layInts g 0 cap ss wr hH hgl (by omega)
        change Calls Tryz.prog 41 _ _ _ at hc
        have HX := Lib.hid (And.intro hbase (And.intro hb (And.intro h1 (And.intro h2 h3))))
        have HC := Lib.hid hc
        have HB := Lib.hid hnx
        have HE := Lib.hid hE
        clear hc hnx hE hC hrow hrg hcs hperm hl0 hc0 hD hrg0 hg0 hs0 hsz hH hgl hbase hb h1 h2 h3 h4
        go_wp2_with fail
        refine HC.out.mono ?_
        rintro e w' ⟨rfl, nn, os, rfl⟩
        go_wp2
        go_ret
        obtain ⟨hbase, hb, h1, h2, h3⟩ := HX.out
        refine ⟨⟨_, rfl, ?_⟩, HB.out.grown (grownBy_sorted_i _) HB.out.size (fun j hj => by cases hj; exact hbase)⟩
        have := ownsRow_sorted_i (n := nn) (os := os) (ts := ss.mergeSort fun x y => decide (x ≤ y)) (by simp) hbase hb h1 h2 h3
        rw [HE.out] at this ⊢
        unfold IRow
        rw [show (G.map (·.own)).length = ss.length by rw [← HE.out]; simp]
        exact this
    · intro x c kl yd yp w2 cnt2 hkey hlk hv hat hrg2 hlt hg2 hs2 hen
      obtain ⟨x', ex, rfl, _⟩ := Maps.keyOf_i64 Tryz.underlying3 hkey
      obtain rfl : x = x' := encZ_inj ex
      have hrow2 := hrow.kept hg2 (Or.inr (row_ne_iter hrow hrg).symm)
      clear hs2
      go_wp2_with (first
        | (at_builtin; refine wpList_append_own _ rfl _ _ 35 rfl w.heap.size 3 i0 (.int .i64 0) 1 8 Tryz.underlying35 hi hz0 hz1 hz2 rfl (by decide) _ _ _ rfl (hrow2.alloc _) ⟨w2.heap.size, 0, none⟩ 1 1 [encZ x] rfl rfl (cell_one_new _ _ _) (by simp [Value.oneCell', encZ]) (by unfold maxLen; omega) (by omega) (by have := hnx.size; have := hg2.size; simp; omega) ?_; intro v' w3 hown' hg3 hnil3)
        | go_in)
      have hrg3 := (hrg2.alloc _).kept hg3 (row_ne_low hrow2 hbl) (row_ne_iter hrow2 hrg2)
      go_roundw
      case rel =>
        refine ⟨_, cnt2, ss ++ [x], hrg3, by simp; omega, by simpa using hown', hC.step hlk hat, ?_⟩
        exact ((hnx.grown hg2 hnx.size (fun j hj => by cases hj; exact Nat.le_refl _)).alloc (by have := hnx.size; have := hg2.size; omega) _).grown hg3 (by have := hnx.size; have := hg2.size; simp; omega) (fun j hj => (hrow2.lt j hj).1)
      case measure => rw [hrg3.left_eq, hrg.left_eq]; exact hlt
end
section
set_option linter.unusedVariables false
set_option linter.unusedSimpArgs false
open Go.RowKit Go.Maps Go.Sort Go.Lib Go.Proofs.YtoolflmaaooplaaGreatW.PrintWords Go.Proofs.YtoolflmaaooplaaGreatW.PrintLast Go.Proofs.YtoolflmaaooplaaGreatW.PrintMore FLib
attribute [local go_sem] below_alloc_T below_drew_T below_drewN_T

/-- How many spans the owners but one have, of those that have been met. -/
def sumG (o : Int) (left : Lit → Bool) : List Ent → Nat
  | [] => 0
  | e :: G => (if e.own = o then 0 else if left (.int .i64 e.own) then 0 else e.l.length) + sumG o left G
def cntG (G : List Ent) (o : Int) : Nat := sumG o (fun _ => false) G
theorem sum_start (o : Int) (D : DataW Unit) (G : List Ent) (h : ∀ e ∈ G, has D (.int .i64 e.own) = true) : sumG o (has D) G = 0 := by
  induction G with
  | nil => rfl
  | cons e G ih =>
    unfold sumG
    rw [ih (fun x hx => h x (List.mem_cons_of_mem _ hx)), h e (List.mem_cons_self ..)]
    simp
theorem sum_end (o : Int) (left : Lit → Bool) (G : List Ent) (h : ∀ kl, left kl = false) : sumG o left G = cntG G o := by
  unfold cntG
  congr 1
  funext kl
  exact h kl
theorem sum_other (o x : Int) (left : Lit → Bool) (G : List Ent) (h : ∀ e ∈ G, e.own ≠ x) : sumG o (fun z => left z && !z.sameKey (.int .i64 x)) G = sumG o left G := by
  induction G with
  | nil => rfl
  | cons e G ih =>
    unfold sumG
    rw [ih (fun y hy => h y (List.mem_cons_of_mem _ hy))]
    have hx := h e (List.mem_cons_self ..)
    have : (Lit.int .i64 e.own).sameKey (.int .i64 x) = false := by simp [Lit.sameKey, hx]
    simp only [this, Bool.not_false, Bool.and_true]
theorem sum_step (o : Int) {G : List Ent} (hs : GSort G) {x : Int} {e : Ent} (hx : gAt G x = some e) {left : Lit → Bool} (hl : left (.int .i64 x) = true) :
    sumG o (fun z => left z && !z.sameKey (.int .i64 x)) G = sumG o left G + (if x = o then 0 else e.l.length) := by
  induction G with
  | nil => cases hx
  | cons y G ih =>
    unfold GSort at hs ih
    rw [List.pairwise_cons] at hs
    rw [gAt_cons] at hx
    unfold sumG
    by_cases hy : y.own = x
    · rw [if_pos hy] at hx
      injection hx with hx
      subst hx
      have ho := sum_other o x left G (fun z hz => by have := hs.1 z hz; omega)
      rw [ho, hy, hl]
      have : (Lit.int .i64 x).sameKey (.int .i64 x) = true := by simp [Lit.sameKey]
      simp only [this, Bool.not_true, Bool.and_false, Bool.false_eq_true, if_false, if_true]
      split <;> omega
    · rw [if_neg hy] at hx
      rw [ih hs.2 hx]
      have : (Lit.int .i64 y.own).sameKey (.int .i64 x) = false := by simp [Lit.sameKey, hy]
      simp only [this, Bool.not_false, Bool.and_true]
      omega
theorem sum_le (o : Int) (left : Lit → Bool) (G : List Ent) (h : ∀ e ∈ G, e.l.length ≤ 1000) : sumG o left G ≤ 1000 * G.length := by
  induction G with
  | nil => exact Nat.zero_le _
  | cons e G ih =>
    unfold sumG
    have h1 := ih (fun x hx => h x (List.mem_cons_of_mem _ hx))
    have h2 := h e (List.mem_cons_self ..)
    rw [List.length_cons]
    split
    · omega
    · split <;> omega

set_option maxRecDepth 100000 in
set_option maxHeartbeats 1000000 in
theorem count_any (p mb : Nat) (qv : Value) (G : List Ent) (Q : List Lk) (hs : GSort G) (hb : ∀ e ∈ G, e.l.length ≤ 1000) (o : Int) (a : Option Addr) (n c : Nat) (hn : n ≤ 1000) (w : World) (h : TG w p mb qv G Q) :
    Calls Tryz.prog 25 #[.pointer (some ⟨p, 0, none⟩), .int .i64 o, .slice a n c] w fun e w' => e = .returned (.int .i64 ((n + cntG G o : Nat) : Int)) ∧ Below w.heap.size w w' := by
  obtain ⟨D, hD, hL⟩ := h.map
  have c0 : w.cell? ⟨p, 0, none⟩ = some (.map (some mb)) := blk_cell h.hdr 0
  have HL := Lib.hid hL
  have HS := Lib.hid hs
  have HLE := Lib.hid (fun left => Nat.le_trans (sum_le o left G hb) (Nat.mul_le_mul_left 1000 h.len))
  have HST := Lib.hid (sum_start o D G (fun e he => by
    rw [hL.has]; unfold gAt; rw [List.find?_isSome]; exact ⟨e, he, by simp⟩))
  have HB := Lib.hid hb
  clear hL h hs hb
  go_enter Tryz.func25, Tryz.ntmps25
  go_wp2_with (first
    | (at_range; refine wpList_range_own _ rfl _ 46 rfl 3 45 keyI Tryz.underlying46 Rd mb 1000 D rfl hD ?_; intro w0 hrg0 hg0 hs0)
    | go_in)
  go_frame
  go_loopw [7] (fun v wr => ∃ (left : Lit → Bool) (cnt : Nat), wr.ranges Tryz.prog 3 Rd mb w.heap.size 1000 D left cnt ∧ v = .int .i64 ((n + sumG o left G : Nat) : Int) ∧ Below w.heap.size w wr)
    (fun _ wr => wr.rangeLeft mb w.heap.size)
  case atStart =>
    exact ⟨_, _, hrg0, by rw [HST.out]; rfl, (Below.refl _ _).grown hg0 (Nat.le_refl _) (fun j hj => by cases hj)⟩
  case round =>
    obtain ⟨left, cnt, hrg, rfl, hnx⟩ := hrel
    go_wp2_with (first
      | (at_next; refine wpList_next_ranges _ rfl _ rfl 3 keyI Rd encZ sV (fun key kl hk => by obtain ⟨x, hx, _⟩ := Maps.keyOf_i64 Tryz.underlying3 hk; exact ⟨x, hx⟩) Rd_shape mb w.heap.size 1000 _ _ _ rfl hrg ?_ ?_)
      | go_in)
    · intro hc0 hl0
      have HE := Lib.hid (sum_end o left G hl0)
      have HX := Lib.hid hnx
      clear hrg hc0 hl0 hnx hD hrg0 hg0 hs0
      go_wp2
      go_ret
      exact ⟨by rw [← HE.out]; rfl, HX.out⟩
    · intro x cc kl yd yp w2 cnt2 hkey hlk hv hat hrg2 hlt hg2 hs2 hen
      obtain ⟨x', ex, rfl, hwx⟩ := Maps.keyOf_i64 Tryz.underlying3 hkey
      obtain rfl : x = x' := encZ_inj ex
      have hat0 := hat .nil
      rw [HL.out.look] at hat0
      have hv' : Rd (sV cc) = some (entD (gAt G x), yp) := by rw [hv, ← hat0]
      have hcv := Rd_inv hv'
      have hsome : has D (.int .i64 x) = true := has_true_of_atKey hat
      rw [HL.out.has] at hsome
      obtain ⟨en, hen2⟩ := Option.isSome_iff_exists.1 hsome
      have HSTEP := Lib.hid (sum_step o HS.out hen2 hlk)
      have HLE2 := Lib.hid (HLE.out (fun z => left z && !z.sameKey (.int .i64 x)))
      have hll := HB.out en (gAt_mem hen2).1
      have hle := HLE.out left
      rw [hen2] at hcv
      rw [hcv] at hen
      have HR := Lib.hid hrg2
      have HNX := Lib.hid (hnx.grown hg2 hnx.size (fun j hj => by cases hj; exact Nat.le_refl _))
      have HM := Lib.hid (And.intro hrg hlt)
      clear hkey hlk hv hat hrg2 hg2 hs2 hat0 hv' hsome hnx hrg hlt
      simp only [entV] at hen hcv
      by_cases hxo : x = o
      · subst hxo
        have d1 : (x == x) = true := by simp
        have HE2 := Lib.hid (HSTEP.out.trans (by rw [if_pos rfl, Nat.add_zero]))
        clear hen2 HSTEP
        go_wp2
        go_roundw
        case rel => exact ⟨_, cnt2, HR.out, by rw [HE2.out]; congr 1, HNX.out⟩
        case measure => rw [HR.out.left_eq, HM.out.1.left_eq]; exact HM.out.2
      · have d1 : (x == o) = false := by simpa using hxo
        have HE2 := Lib.hid (HSTEP.out.trans (by rw [if_neg hxo]))
        clear hen2 HSTEP
        have hwr : IntKind.i64.wrap ((n : Int) + (sumG o left G : Int) + (en.l.length : Int)) = (n : Int) + (sumG o left G : Int) + (en.l.length : Int) := IntWalk.i64_in _ (by omega)
        go_wp2
        go_roundw
        case rel => exact ⟨_, cnt2, HR.out, by rw [HE2.out]; congr 1; omega, HNX.out⟩
        case measure => rw [HR.out.left_eq, HM.out.1.left_eq]; exact HM.out.2
end
section
set_option linter.unusedVariables false
set_option linter.unusedSimpArgs false
open Go.RowKit Go.Maps Go.Sort Go.Lib Go.Proofs.YtoolflmaaooplaaGreatW.PrintWords Go.Proofs.YtoolflmaaooplaaGreatW.PrintLast Go.Proofs.YtoolflmaaooplaaGreatW.PrintMore FLib
attribute [local go_sem] below_alloc_T below_drew_T below_drewN_T

theorem addmk (b o j : Nat) : (⟨b, o, none⟩ : Addr).add j = ⟨b, o + j, none⟩ := by unfold Addr.add; split <;> simp_all
theorem flat_at {α : Type} (f : α → List Value) (m : Nat) (hm : ∀ x, (f x).length = m) : ∀ (l : List α) (i : Nat) (x : α), l[i]? = some x → ∀ j, j < m → (l.flatMap f)[i * m + j]? = (f x)[j]?
  | [], i, x, h, j, hj => by simp at h
  | a :: l, 0, x, h, j, hj => by
    have e : a = x := by simpa using h
    subst e
    rw [List.flatMap_cons, List.getElem?_append_left (by rw [hm]; omega)]
    congr 1; omega
  | a :: l, i + 1, x, h, j, hj => by
    have e : (i + 1) * m + j = m + (i * m + j) := by rw [Nat.add_mul]; omega
    rw [List.flatMap_cons, List.getElem?_append_right (by rw [hm]; omega), hm, e, Nat.add_sub_cancel_left]
    exact flat_at f m hm l i x (by simpa using h) j hj
theorem row_form {w : World} {base e sz n : Nat} {v : Value} {xs : List Value} (h : w.ownsRow base e sz v n xs) : (v = .slice none 0 0 ∧ n = 0) ∨ ∃ g c, v = .slice (some ⟨g, 0, none⟩) n c := by
  rcases h.2 with h2 | ⟨g, c, cur, h1, -⟩
  · exact .inl h2
  · exact .inr ⟨g, c, h1⟩
theorem row_lk {w : World} {base e g c n : Nat} {l : List Lk} (h : w.ownsRow base e 4 (.slice (some ⟨g, 0, none⟩) n c) n (lflat l)) {k : Nat} {x : Lk} (hk : l[k]? = some x) :
    w.cell? ⟨g, k * 4, none⟩ = some (.int .i64 x.own) ∧ w.cell? ⟨g, k * 4 + 1, none⟩ = some (.int .i64 x.st) ∧ w.cell? ⟨g, k * 4 + 2, none⟩ = some (.int .i64 x.len) ∧ w.cell? ⟨g, k * 4 + 3, none⟩ = some (.bool x.ex) := by
  have key : ∀ j u, j < 4 → x.cells[j]? = some u → w.cell? ⟨g, k * 4 + j, none⟩ = some u := fun j u hj hu => by
    have := h.cells (g := g) rfl (k * 4 + j) u (by unfold lflat; rw [flat_at Lk.cells 4 (fun _ => rfl) l k x hk j hj]; exact hu)
    rw [addmk, Nat.zero_add] at this
    exact this
  exact ⟨key 0 _ (by omega) rfl, key 1 _ (by omega) rfl, key 2 _ (by omega) rfl, key 3 _ (by omega) rfl⟩
theorem row_sp {w : World} {base e g c n : Nat} {l : List Sp} (h : w.ownsRow base e 3 (.slice (some ⟨g, 0, none⟩) n c) n (sflat l)) {k : Nat} {x : Sp} (hk : l[k]? = some x) :
    w.cell? ⟨g, k * 3, none⟩ = some (.int .i64 x.lo) ∧ w.cell? ⟨g, k * 3 + 1, none⟩ = some (.int .i64 x.hi) ∧ w.cell? ⟨g, k * 3 + 2, none⟩ = some (.bool x.ex) := by
  have key : ∀ j u, j < 3 → x.cells[j]? = some u → w.cell? ⟨g, k * 3 + j, none⟩ = some u := fun j u hj hu => by
    have := h.cells (g := g) rfl (k * 3 + j) u (by unfold sflat; rw [flat_at Sp.cells 3 (fun _ => rfl) l k x hk j hj]; exact hu)
    rw [addmk, Nat.zero_add] at this
    exact this
  exact ⟨key 0 _ (by omega) rfl, key 1 _ (by omega) rfl, key 2 _ (by omega) rfl⟩
theorem below_step {W w1 w2 : World} (h : Below W.heap.size W w1) (h2 : Below w1.heap.size w1 w2) : Below W.heap.size W w2 := h.trans (h2.mono h.size)
/-- The place of an owner's waiting lock. -/
def waitI (Q : List Lk) (o : Int) : Int := if Q.findIdx (fun l => l.own == o) < Q.length then (Q.findIdx (fun l => l.own == o) : Int) else -1
theorem idx_step {Q : List Lk} {o : Int} {k : Nat} {x : Lk} (h : k ≤ Q.findIdx (fun l => l.own == o)) (hx : Q[k]? = some x) (hn : x.own ≠ o) : k + 1 ≤ Q.findIdx (fun l => l.own == o) := by
  rcases Nat.lt_or_ge k (Q.findIdx (fun l => l.own == o)) with h1 | h1
  · exact h1
  · have e : Q.findIdx (fun l => l.own == o) = k := by omega
    have hlt := (List.getElem?_eq_some_iff.1 hx).1
    have := List.findIdx_getElem (p := fun l : Lk => l.own == o) (xs := Q) (w := by rw [e]; exact hlt)
    simp only [e] at this
    rw [(List.getElem?_eq_some_iff.1 hx).2] at this
    exact absurd (by simpa using this) hn
theorem idx_here {Q : List Lk} {o : Int} {k : Nat} {x : Lk} (h : k ≤ Q.findIdx (fun l => l.own == o)) (hx : Q[k]? = some x) (hn : x.own = o) : waitI Q o = (k : Int) := by
  have hlt := (List.getElem?_eq_some_iff.1 hx).1
  have h2 : Q.findIdx (fun l => l.own == o) ≤ k := by
    rcases Nat.lt_or_ge k (Q.findIdx (fun l => l.own == o)) with h1 | h1
    · have := List.not_of_lt_findIdx h1
      rw [(List.getElem?_eq_some_iff.1 hx).2] at this
      simp [hn] at this
    · exact h1
  have e : Q.findIdx (fun l => l.own == o) = k := by omega
  unfold waitI
  rw [e, if_pos hlt]
set_option maxRecDepth 100000 in
set_option maxHeartbeats 1000000 in
theorem index_any (base : Nat) (v : Value) (Q : List Lk) (o : Int) (b : Nat) (hq : Q.length ≤ 100000) (w : World) (h : w.ownsRow base 29 4 v Q.length (lflat Q)) (hb : w.cell? ⟨b, 0, none⟩ = some (.int .i64 o)) :
    Calls Tryz.prog 19 #[v, .func (.func 42) #[] #[.pointer (some ⟨b, 0, none⟩)]] w fun e w' => e = .returned (.int .i64 (waitI Q o)) ∧ Below w.heap.size w w' := by
  have HR := Lib.hid h
  have HL := Lib.hid hq
  have HB := Lib.hid hb
  rcases row_form h with ⟨rfl, hz⟩ | ⟨g, c, rfl⟩
  · have hE := Lib.hid (show waitI Q o = -1 by unfold waitI; rw [if_neg (by omega)])
    clear h hq hb hz
    go_enter Tryz.func19, Tryz.ntmps19
    go_wp2
    refine wp_loop_rounds 1 ?_
    rw [rounds_succ]
    go_wp2
    go_ret
    exact ⟨by rw [hE.out]; rfl, Below.refl _ _⟩
  · clear h hq hb
    go_enter Tryz.func19, Tryz.ntmps19
    go_wp2
    go_loopw [8] (fun t wr => ∃ k : Nat, k ≤ Q.length ∧ t = .int .i64 k ∧ Hid (k ≤ Q.findIdx (fun l => l.own == o)) ∧ Hid (Below w.heap.size w wr)) (fun t _ => Q.length - (RowKit.intOf t).toNat)
    case atStart => exact ⟨0, Nat.zero_le _, rfl, Lib.hid (Nat.zero_le _), Lib.hid (Below.refl _ _)⟩
    case round =>
      obtain ⟨k, hk, rfl, hI, hBw⟩ := hrel
      have hlr : (Q.length : Int) ≤ 100000 := by have := HL.out; omega
      by_cases hlt : k < Q.length
      · obtain ⟨x, hx⟩ : ∃ x, Q[k]? = some x := ⟨_, List.getElem?_eq_getElem hlt⟩
        obtain ⟨p0, p1, p2, p3⟩ := row_lk (pw_own_below HR.out hBw.out) hx
        have HC := Lib.hid (waits1_any x b o wr (pw_cell_below hBw.out HB.out))
        have hk0 : (0 : Int) ≤ (k : Int) := by omega
        have hk1 : (k : Int) < (Q.length : Int) := by omega
        have HKL := Lib.hid hlt
        have HX := Lib.hid hx
        clear hx hlt
        go_wp2_with fail
        refine HC.out.mono ?_
        rintro e w3 ⟨rfl, hb3⟩
        have HB3 := Lib.hid (below_step hBw.out hb3)
        clear hb3
        by_cases hxo : x.own = o
        · have d1 : (x.own == o) = true := by simpa using hxo
          have hE := Lib.hid (idx_here hI.out HX.out hxo)
          clear hxo
          rw [d1]
          go_wp2
          go_ret
          exact ⟨by rw [hE.out]; rfl, HB3.out⟩
        · have d1 : (x.own == o) = false := by simpa using hxo
          have hE := Lib.hid (idx_step hI.out HX.out hxo)
          clear hxo
          rw [d1]
          go_wp2
          go_roundw
          case rel => exact ⟨k + 1, by have := HKL.out; omega, by go_num, hE, HB3⟩
          case measure => have := HKL.out; simp [RowKit.intOf]; omega
      · obtain rfl : k = Q.length := by omega
        have hE := Lib.hid (show waitI Q o = -1 by unfold waitI; rw [if_neg (by have := hI.out; omega)])
        go_wp2
        go_ret
        exact ⟨by rw [hE.out]; rfl, hBw.out⟩
theorem waits_any (p mb : Nat) (qv : Value) (G : List Ent) (Q : List Lk) (hq : Q.length ≤ 100000) (o : Int) (w : World) (h : TG w p mb qv G Q) :
    Calls Tryz.prog 22 #[.pointer (some ⟨p, 0, none⟩), .int .i64 o] w fun e w' => e = .returned (.int .i64 (waitI Q o)) ∧ Below w.heap.size w w' := by
  have c1 := later_cell (v := qv) (blk_cell h.hdr 1)
  have hs := Below.refl w.heap.size w
  have HI := Lib.hid (index_any 0 qv Q o w.heap.size hq (w.alloc (.cells #[.int .i64 o] 3)) (h.queue.alloc _) (blk_cell (blk_new w _) 0))
  clear h hq
  go_enter Tryz.func22, Tryz.ntmps22
  go_wp2_with fail
  refine HI.out.mono ?_
  rintro e w3 ⟨rfl, hb3⟩
  go_wp2
  go_ret
  exact ⟨rfl, below_step (below_alloc (Below.refl _ _) _) hb3⟩
end
end Go.Proofs.YtoolflmaaooplaaGreat
