/- An analysis: its words; critical, greatest. -/
import Derived.Test.YtmbfnhnemhojjaaA1
import Derived.Deep.RegionHeld3
import Derived.WalkKit
import Derived.Outline
import Derived.Deep.DeepFit
import Derived.Deep.MidRow
namespace Go.Proofs.Ytmbfnhnemhojjaa
set_option linter.unusedVariables false
set_option linter.unusedSimpArgs false
open Go.RowKit Go.Proofs.YtmbfnhnemhojjaaW.PrintWords Go.Proofs.YtmbfnhnemhojjaaW.PrintLast Go.Proofs.YtmbfnhnemhojjaaW.PrintMore PResponseCosts FLib
theorem max_five (ats : Array TypeId) (ty : TypeId) (a b c d e : Value) : Builtin.max_ ats ty #[a, b, c, d, e] = (Builtin.max2 a b >>= fun s => Builtin.max2 s c >>= fun s => Builtin.max2 s d >>= fun s => Builtin.max2 s e >>= fun s => pure s) := by simp only [Builtin.max_, List.foldlM_cons, List.foldlM_nil]
def mx2 (x y : Int) : Int := if x < y then y else x
theorem max2_mx (k k' : IntKind) (x y : Int) : Builtin.max2 (.int k x) (.int k' y) = pure (.int k (mx2 x y)) := max2_int k k' x y
attribute [local go_sem] max2_mx min2_int max_two min_two max_three min_three max_four min_four max_five

def tkCells (x : S33) : List Value := [.int .i64 x.f0, .int .i64 x.f1, .int .i64 x.f2, .int .i64 x.f3, .int .i64 x.f4, .int .i64 x.f5]
def tkV (x : S33) : Value := .agg #[.int .i64 x.f0, .int .i64 x.f1, .int .i64 x.f2, .int .i64 x.f3, .int .i64 x.f4, .int .i64 x.f5]
def cAt (t : Tab) (k : Nat) : Int := t.costs.getD k 0
def critI (t : Tab) (x : S33) : Int := if x.f5 = 0 then 0 else cAt t 6 + x.f5 + cAt t 7
def jobI (t : Tab) (x : S33) : Int := cAt t 1 + critI t x + x.f4 + cAt t 23
def greatI (t : Tab) : Int := mx2 (mx2 (mx2 (mx2 (cAt t 13) (cAt t 1)) (cAt t 6)) (cAt t 7)) (cAt t 23)
def rightB (x : S33) : Bool := decide (1 ≤ x.f1) && decide (x.f1 ≤ 100000) && decide (1 ≤ x.f2) && decide (x.f2 ≤ x.f1) && decide (0 ≤ x.f3) && decide (x.f3 ≤ 99999) && decide (1 ≤ x.f4) && decide (x.f4 ≤ 1000) && decide (0 ≤ x.f5) && decide (x.f5 ≤ 1000)
/-- The cells of an analysis. -/
structure AnaC (cs : Array Value) (t : Tab) (v : Value) : Prop where
  size : cs.size = 27
  sec : cs[0]? = some (.int .i64 t.sec)
  cost : ∀ k, k < 24 → cs[2 + k]? = some (.int .i64 (cAt t k))
  tasks : cs[26]? = some v
/-- A table in its ranges. -/
structure TOk (t : Tab) : Prop where
  len : t.costs.length = 24
  sec : 1 ≤ t.sec ∧ t.sec ≤ 1000
  cost : ∀ k, k < 24 → 1 ≤ cAt t k ∧ cAt t k ≤ 1000

set_option maxRecDepth 100000 in
theorem crit_any (cs : Array Value) (t : Tab) (v : Value) (h : AnaC cs t v) (ht : TOk t) (x : S33) (h5 : 0 ≤ x.f5 ∧ x.f5 ≤ 1000) (w : World) :
    Calls Try.prog 57 #[.agg cs, tkV x] w fun e w' => e = .returned (.int .i64 (critI t x)) ∧ Below w.heap.size w w' := by
  have h6 := h.cost 6 (by omega)
  have h7 := h.cost 7 (by omega)
  obtain ⟨b6, b6'⟩ := ht.cost 6 (by omega)
  obtain ⟨b7, b7'⟩ := ht.cost 7 (by omega)
  obtain ⟨b5, b5'⟩ := h5
  have HE := Lib.hid (show critI t x = if x.f5 = 0 then 0 else cAt t 6 + x.f5 + cAt t 7 from rfl)
  generalize cAt t 6 = c6 at h6 b6 b6' HE
  generalize cAt t 7 = c7 at h7 b7 b7' HE
  simp only [Nat.reduceAdd] at h6 h7
  clear h ht
  unfold tkV
  by_cases hz : x.f5 = 0
  · rw [HE.out, if_pos hz]
    go_enter Try.func57, Try.ntmps57
    go_wp2
    go_ret
    exact ⟨rfl, below_alloc (below_alloc (Below.refl _ _) _) _⟩
  · rw [HE.out, if_neg hz]
    clear HE
    go_enter Try.func57, Try.ntmps57
    go_wp2
    go_ret
    exact ⟨rfl, below_alloc (below_alloc (Below.refl _ _) _) _⟩

set_option maxRecDepth 100000 in
theorem great_any (cs : Array Value) (t : Tab) (v : Value) (h : AnaC cs t v) (ht : TOk t) (w : World) :
    Calls Try.prog 56 #[.agg cs] w fun e w' => e = .returned (.int .i64 (greatI t)) ∧ Below w.heap.size w w' := by
  have h6 := h.cost 6 (by omega)
  have h7 := h.cost 7 (by omega)
  have h1 := h.cost 1 (by omega)
  have h13 := h.cost 13 (by omega)
  have h23 := h.cost 23 (by omega)
  unfold greatI
  generalize cAt t 6 = c6 at h6 ⊢
  generalize cAt t 7 = c7 at h7 ⊢
  generalize cAt t 1 = c1 at h1 ⊢
  generalize cAt t 13 = c13 at h13 ⊢
  generalize cAt t 23 = c23 at h23 ⊢
  simp only [Nat.reduceAdd] at h6 h7 h1 h13 h23
  clear h ht
  go_enter Try.func56, Try.ntmps56
  go_wp2
  go_ret
  exact ⟨rfl, below_alloc (Below.refl _ _) _⟩
end Go.Proofs.Ytmbfnhnemhojjaa
