/- Ranges: the small functions. -/
import Derived.Test.YtoolflmaaooplaaLib
import Derived.Test.YtoolflmaaooplaaProg
import Derived.Below
import Derived.Deep.Draws
import Derived.Deep.AppendLies
import Derived.Maps.AppendAt
import Derived.OwnWalk
import Derived.Laws.BytesArg
import Derived.Laws.MakeOwn
import Derived.Laws.OwnMore
import Derived.Deep.OwnRows
import Derived.Tactics
import Derived.Lib.ConvBytes
import Derived.Laws.Slices
import Derived.WalkKit
import Derived.KernelRfl
import Derived.RowKit3
import Derived.Deep.LoopGhost
import Derived.Deep.QuietTactic
import Derived.BigQuiet
import Derived.WideLaws
import Derived.Deep.DeepCutAuto
import Derived.Deep.CutBlock
import Derived.Deep.RegionHeld3
import Derived.Laws.Rows
import Derived.Lib.AppendStr
import Derived.ArgAppend
import Derived.Laws.IdiomCopy
import Derived.OrdersHeld
import Derived.Laws.BitsLemmas
import Derived.RowKit
import Derived.Test.YtoolflmaaooplaaWWords
import Derived.Test.YtoolflmaaooplaaWLast
import Derived.Test.YtoolflmaaooplaaWTab
import Derived.Test.YtoolflmaaooplaaWFour
import Derived.Test.YtoolflmaaooplaaWQPut
import Derived.Test.YtoolflmaaooplaaWApart
import Derived.Test.YtoolflmaaooplaaWArr
import Derived.Test.YtoolflmaaooplaaWZeros
import Derived.Test.YtoolflmaaooplaaWFoot
import Derived.Test.YtoolflmaaooplaaWKept
import Derived.Test.YtoolflmaaooplaaWShare
import Derived.Test.YtoolflmaaooplaaWN
import Derived.Test.YtoolflmaaooplaaWFootNe
import Derived.Test.YtoolflmaaooplaaWAt
import Derived.Test.YtoolflmaaooplaaWEqStruct
import Derived.Test.YtoolflmaaooplaaWRepsOne
import Derived.Test.YtoolflmaaooplaaWInv
import Derived.Test.YtoolflmaaooplaaWInvWords
import Derived.Test.YtoolflmaaooplaaWGuard
import Derived.Test.YtoolflmaaooplaaWNEv
import Derived.Test.YtoolflmaaooplaaWMore
import Derived.Deep.DrawnRows
import Derived.Maps.OwnSet
import Derived.Lib.SlKeysI
namespace Go.Proofs.Ytoolflmaaooplaa
set_option linter.unusedVariables false
set_option linter.unusedSimpArgs false
open Go.RowKit Go.Maps Go.Sort Go.Proofs.YtoolflmaaooplaaW.PrintWords Go.Proofs.YtoolflmaaooplaaW.PrintLast Go.Proofs.YtoolflmaaooplaaW.PrintMore FLib

/-- A span of offsets. -/
structure Sp where
  lo : Int
  hi : Int
  ex : Bool
deriving Inhabited, DecidableEq
def Sp.cells (s : Sp) : List Value := [.int .i64 s.lo, .int .i64 s.hi, .bool s.ex]
def spV (s : Sp) : Value := .agg #[.int .i64 s.lo, .int .i64 s.hi, .bool s.ex]
/-- A lock. -/
structure Lk where
  own : Int
  st : Int
  len : Int
  ex : Bool
deriving Inhabited, DecidableEq
def Lk.cells (l : Lk) : List Value := [.int .i64 l.own, .int .i64 l.st, .int .i64 l.len, .bool l.ex]
def lkV (l : Lk) : Value := .agg #[.int .i64 l.own, .int .i64 l.st, .int .i64 l.len, .bool l.ex]
def far : Int := 1152921504606846976
def endI (s l : Int) : Int := if l = 0 then 1152921504606846976 else s + l
def okL (o s l : Int) : Bool := decide (0 ≤ o) && (decide (0 ≤ s) && (decide (s ≤ 16384) && (decide (0 ≤ l) && decide (l ≤ 16384))))
theorem okL_iff {o s l : Int} : okL o s l = true ↔ 0 ≤ o ∧ 0 ≤ s ∧ s ≤ 16384 ∧ 0 ≤ l ∧ l ≤ 16384 := by simp [okL]
def spanI (l : Lk) : Sp := ⟨l.st, endI l.st l.len, l.ex⟩
def overI (a b : Sp) : Bool := decide (a.lo < b.hi) && decide (b.lo < a.hi)
def lockI (s : Sp) (o : Int) : Lk := ⟨o, s.lo, if s.hi = 1152921504606846976 then 0 else s.hi - s.lo, s.ex⟩
theorem later_cell {W : World} {a : Addr} {v : Value} (h : W.cell? a = some v) : ∀ w', Below W.heap.size W w' → w'.cell? a = some v := fun _ hb => pw_cell_below hb h

theorem below_alloc_T {W w : World} (o : Obj) (h : Below W.heap.size W w) : Below W.heap.size W (w.alloc o) = True := eq_true (h.alloc h.size o)
theorem below_drew_T (B : Nat) (a w : World) : Below B a w.drew = Below B a w := propext ⟨fun h => ⟨h.os, h.tape, h.output, h.size, h.block⟩, fun h => ⟨h.os, h.tape, h.output, h.size, h.block⟩⟩
theorem below_drewN_T (B n : Nat) (a w : World) : Below B a (w.drewN n) = Below B a w := propext ⟨fun h => ⟨h.os, h.tape, h.output, h.size, h.block⟩, fun h => ⟨h.os, h.tape, h.output, h.size, h.block⟩⟩
theorem later_blk {W : World} {q : Nat} {o : Obj} (h : W.heap[q]? = some o) : ∀ w', Below W.heap.size W w' → w'.heap[q]? = some o := fun _ hb => (hb.block q (blk_lt h)).trans h
theorem later_frz {W : World} {q : Nat} {cs : Array Value} {ty : Nat} (h : W.heap[q]? = some (.cells cs ty (0, 0))) (i : Nat) : ∀ w', Below W.heap.size W w' → w'.frozen? ⟨q, i, none⟩ = false := fun w' hb => blk_frozen (later_blk h w' hb) i
attribute [local go_sem] below_alloc_T below_drew_T below_drewN_T

theorem valid_any (o s l : Int) (w : World) : Calls Try.prog 30 #[.int .i64 o, .int .i64 s, .int .i64 l] w fun e w' => e = .returned (.bool (okL o s l)) ∧ w = w' := by
  unfold okL
  cases d1 : decide (0 ≤ o)
  · go_enter Try.func30, Try.ntmps30
    go_wp2
    go_ret
    exact ⟨rfl, rfl⟩
  cases d2 : decide (0 ≤ s)
  · go_enter Try.func30, Try.ntmps30
    go_wp2
    go_ret
    exact ⟨rfl, rfl⟩
  cases d3 : decide (s ≤ 16384)
  · go_enter Try.func30, Try.ntmps30
    go_wp2
    go_ret
    exact ⟨rfl, rfl⟩
  cases d4 : decide (0 ≤ l)
  · go_enter Try.func30, Try.ntmps30
    go_wp2
    go_ret
    exact ⟨rfl, rfl⟩
  cases d5 : decide (l ≤ 16384)
  all_goals
    go_enter Try.func30, Try.ntmps30
    go_wp2
    go_ret
    exact ⟨rfl, rfl⟩
theorem end_any (s l : Int) (h : -1000000 ≤ s + l ∧ s + l ≤ 1000000) (w : World) : Calls Try.prog 41 #[.int .i64 s, .int .i64 l] w fun e w' => e = .returned (.int .i64 (endI s l)) ∧ w = w' := by
  unfold endI
  have hw : IntKind.i64.wrap (s + l) = s + l := IntWalk.i64_in _ (by omega)
  by_cases h0 : l = 0
  · subst h0
    go_enter Try.func41, Try.ntmps41
    go_wp2
    go_ret
    exact ⟨rfl, rfl⟩
  · have d0 : (l == 0) = false := by simpa using h0
    have HZ := Lib.hid h0
    clear h0
    go_enter Try.func41, Try.ntmps41
    go_wp2
    go_ret
    exact ⟨rfl, rfl⟩
theorem over_any (a b : Sp) (w : World) : Calls Try.prog 67 #[spV a, spV b] w fun e w' => e = .returned (.bool (overI a b)) ∧ Below w.heap.size w w' := by
  unfold overI
  obtain ⟨a0, a1, a2⟩ := a
  obtain ⟨b0, b1, b2⟩ := b
  simp only [spV]
  cases d1 : decide (a0 < b1)
  all_goals
    go_enter Try.func67, Try.ntmps67
    go_wp2
    go_ret
    exact ⟨rfl, below_alloc (below_alloc (Below.refl _ _) _) _⟩
theorem lock_any (s : Sp) (o : Int) (h : 0 ≤ s.lo ∧ s.lo ≤ 1152921504606846976 ∧ 0 ≤ s.hi ∧ s.hi ≤ 1152921504606846976) (w : World) : Calls Try.prog 45 #[spV s, .int .i64 o] w fun e w' => e = .returned (lkV (lockI s o)) ∧ Below w.heap.size w w' := by
  unfold lockI lkV
  obtain ⟨a0, a1, a2⟩ := s
  simp only at h
  have hw : IntKind.i64.wrap (a1 - a0) = a1 - a0 := IntWalk.i64_in _ (by omega)
  simp only [spV]
  clear h
  by_cases h0 : a1 = 1152921504606846976
  · have d0 : (a1 == 1152921504606846976) = true := by simpa using h0
    have HZ := Lib.hid h0
    clear h0
    go_enter Try.func45, Try.ntmps45
    go_wp2
    refine bodyPost_ret (v := .agg #[.int .i64 o, .int .i64 a0, .int .i64 0, .bool a2]) (by simp [results, Try.results45, go_sem]) rfl ?_
    exact ⟨rfl, below_alloc (below_alloc (Below.refl _ _) _) _⟩
  · have d0 : (a1 == 1152921504606846976) = false := by simpa using h0
    have HZ := Lib.hid h0
    clear h0
    go_enter Try.func45, Try.ntmps45
    go_wp2
    refine bodyPost_ret (v := .agg #[.int .i64 o, .int .i64 a0, .int .i64 (a1 - a0), .bool a2]) (by simp [results, Try.results45, go_sem]) rfl ?_
    exact ⟨rfl, below_alloc (below_alloc (Below.refl _ _) _) _⟩
theorem span_any (l : Lk) (h : -1000000 ≤ l.st + l.len ∧ l.st + l.len ≤ 1000000) (w : World) : Calls Try.prog 58 #[lkV l] w fun e w' => e = .returned (spV (spanI l)) ∧ Below w.heap.size w w' := by
  have HE := Lib.hid (fun w => end_any l.st l.len h w)
  unfold spanI
  obtain ⟨a0, a1, a2, a3⟩ := l
  simp only [lkV, spV] at HE ⊢
  generalize endI a1 a2 = n at HE ⊢
  clear h
  obtain ⟨O, hO⟩ : ∃ O, Obj.cells #[.int .i64 a0, .int .i64 a1, .int .i64 a2, .bool a3] 23 (0, 0) = O := ⟨_, rfl⟩
  have HO := Lib.hid hO
  have x1 : ∀ w' : World, w'.heap[w.heap.size]? = some O → w'.cell? ⟨w.heap.size, 1, none⟩ = some (.int .i64 a1) := fun w' hw => blk_cell (hw.trans (congrArg some HO.out.symm)) 1
  have x2 : ∀ w' : World, w'.heap[w.heap.size]? = some O → w'.cell? ⟨w.heap.size, 2, none⟩ = some (.int .i64 a2) := fun w' hw => blk_cell (hw.trans (congrArg some HO.out.symm)) 2
  have x3 : ∀ w' : World, w'.heap[w.heap.size]? = some O → w'.cell? ⟨w.heap.size, 3, none⟩ = some (.bool a3) := fun w' hw => blk_cell (hw.trans (congrArg some HO.out.symm)) 3
  clear hO
  go_enter Try.func58, Try.ntmps58
  go_wp2
  rw [HO.out]
  have hS : ((w.alloc O).alloc (.cells #[.int .i64 0, .int .i64 0, .bool false] 71)).drew.heap[w.heap.size]? = some O := blk_drew (blk_alloc (blk_new w O) _)
  go_region_held3 (fun w' => w'.heap[w.heap.size]? = some O) (first | assumption | exact blk_drew (blk_alloc (blk_new w O) _))
    (first | (go_at_call 41; refine (HE.out _).mono ?_; rintro e w3 ⟨rfl, rfl⟩))
  all_goals
    go_wp2
    refine bodyPost_ret (v := .agg #[.int .i64 a1, .int .i64 n, .bool a3]) (by simp [results, Try.results58, go_sem]) rfl ?_
    exact ⟨rfl, below_drew (below_alloc (below_alloc (Below.refl _ _) _) _)⟩
def cmpI (a b : Int) : Int := if a < b then -1 else if b < a then 1 else 0
theorem nan_any (a : Int) (w : World) : Calls Try.prog 79 #[.int .i64 a] w fun e w' => e = .returned (.bool false) ∧ w = w' := by
  go_enter Try.func79, Try.ntmps79
  go_wp2
  go_ret
  exact ⟨by simp, rfl⟩
theorem cmp_any (a b : Int) (w : World) : Calls Try.prog 63 #[.int .i64 a, .int .i64 b] w fun e w' => e = .returned (.int .i64 (cmpI a b)) ∧ w = w' := by
  unfold cmpI
  have HN := Lib.hid nan_any
  by_cases h1 : a < b
  · have d1 : decide (a < b) = true := decide_eq_true h1
    rw [if_pos h1]
    clear h1
    go_enter Try.func63, Try.ntmps63
    go_wp2_with (refine (HN.out _ _).mono ?_; rintro e w1 ⟨rfl, rfl⟩)
    go_ret
    exact ⟨rfl, rfl⟩
  · have d1 : decide (a < b) = false := decide_eq_false h1
    rw [if_neg h1]
    clear h1
    by_cases h2 : b < a
    · have d2 : decide (b < a) = true := decide_eq_true h2
      rw [if_pos h2]
      clear h2
      go_enter Try.func63, Try.ntmps63
      go_wp2_with (refine (HN.out _ _).mono ?_; rintro e w1 ⟨rfl, rfl⟩)
      go_ret
      exact ⟨rfl, rfl⟩
    · have d2 : decide (b < a) = false := decide_eq_false h2
      rw [if_neg h2]
      clear h2
      go_enter Try.func63, Try.ntmps63
      go_wp2_with (refine (HN.out _ _).mono ?_; rintro e w1 ⟨rfl, rfl⟩)
      go_ret
      exact ⟨rfl, rfl⟩
theorem cmps_any (a b : Sp) (w : World) : Calls Try.prog 62 #[spV a, spV b] w fun e w' => e = .returned (.int .i64 (cmpI a.lo b.lo)) ∧ w' = (w.alloc (.cells a.cells.toArray 71)).alloc (.cells b.cells.toArray 71) := by
  have HC := Lib.hid cmp_any
  obtain ⟨a0, a1, a2⟩ := a
  obtain ⟨b0, b1, b2⟩ := b
  simp only [spV]
  go_enter Try.func62, Try.ntmps62
  go_wp2_with (refine (HC.out _ _ _).mono ?_; rintro e w1 ⟨rfl, rfl⟩)
  go_ret
  exact ⟨rfl, rfl⟩
theorem waits1_any (l : Lk) (p : Nat) (o : Int) (w : World) (h : w.cell? ⟨p, 0, none⟩ = some (.int .i64 o)) : Calls Try.prog 57 #[lkV l, .pointer (some ⟨p, 0, none⟩)] w fun e w' => e = .returned (.bool (l.own == o)) ∧ Below w.heap.size w w' := by
  obtain ⟨a0, a1, a2, a3⟩ := l
  have c0 := later_cell h
  have hs := Below.refl w.heap.size w
  simp only [lkV]
  clear h
  go_enter Try.func57, Try.ntmps57
  go_wp2
  go_ret
  exact ⟨rfl, below_alloc (Below.refl _ _) _⟩
end Go.Proofs.Ytoolflmaaooplaa
