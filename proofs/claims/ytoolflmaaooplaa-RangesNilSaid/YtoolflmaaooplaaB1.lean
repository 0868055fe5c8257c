/- Ranges: the iterators: what without and conflicts hand back; the parts of spans outside of a range. -/
import Derived.Test.YtoolflmaaooplaaA7
import Derived.Test.YtoolflmaaooplaaA0
namespace Go.Proofs.Ytoolflmaaooplaa
set_option linter.unusedVariables false
set_option linter.unusedSimpArgs false
open Go.RowKit Go.Maps Go.Sort Go.Lib Go.Proofs.YtoolflmaaooplaaW.PrintWords Go.Proofs.YtoolflmaaooplaaW.PrintLast Go.Proofs.YtoolflmaaooplaaW.PrintMore FLib
attribute [local go_sem] below_alloc_T below_drew_T below_drewN_T

theorem without_any (v : Value) (hv : v.oneCell' = true) (lo hi : Int) (w : World) :
    Calls Try.prog 40 #[v, .int .i64 lo, .int .i64 hi] w fun e w' =>
      e = .returned (.func (.func 65) #[] #[.pointer (some ⟨w.heap.size, 0, none⟩), .pointer (some ⟨w.heap.size + 1, 0, none⟩), .pointer (some ⟨w.heap.size + 2, 0, none⟩)]) ∧
      w' = ((w.alloc (.cells #[v] 60)).alloc (.cells #[.int .i64 lo] 2)).alloc (.cells #[.int .i64 hi] 2) := by
  have hc : v.cells = #[v] := by cases v <;> first | rfl | (simp [Value.oneCell'] at hv)
  go_enter Try.func40, Try.ntmps40
  go_wp2
  go_ret
  exact ⟨rfl, rfl⟩
theorem conflicts_any (p : Nat) (l : Lk) (w : World) :
    Calls Try.prog 42 #[.pointer (some ⟨p, 0, none⟩), lkV l] w fun e w' =>
      e = .returned (.func (.func 66) #[] #[.pointer (some ⟨w.heap.size, 0, none⟩), .pointer (some ⟨w.heap.size + 1, 0, none⟩)]) ∧
      w' = (w.alloc (.cells #[.pointer (some ⟨p, 0, none⟩)] 24)).alloc (.cells l.cells.toArray 23) := by
  obtain ⟨a0, a1, a2, a3⟩ := l
  simp only [lkV]
  go_enter Try.func42, Try.ntmps42
  go_wp2
  go_ret
  exact ⟨rfl, rfl⟩

/-- What is left of a span on the left of a range, on its right. -/
def leftP (s : Sp) (lo : Int) : List Sp := if s.lo < min s.hi lo then [⟨s.lo, min s.hi lo, s.ex⟩] else []
def rightP (s : Sp) (hi : Int) : List Sp := if max s.lo hi < s.hi then [⟨max s.lo hi, s.hi, s.ex⟩] else []
def cutP (l : List Sp) (lo hi : Int) : List Sp := l.flatMap (fun s => leftP s lo ++ rightP s hi)
theorem cutP_snoc (l : List Sp) (s : Sp) (lo hi : Int) : cutP (l ++ [s]) lo hi = cutP l lo hi ++ (leftP s lo ++ rightP s hi) := by
  unfold cutP; rw [List.flatMap_append]; simp
/-- Does a granted span of an owner conflict with a lock? -/
def confB (o : Int) (l : Lk) (s : Sp) : Bool := (o != l.own) && (overI s (spanI l) && (s.ex || l.ex))
/-- The granted locks that conflict with one, in order. -/
def confL (G : List Ent) (l : Lk) : List Lk := G.flatMap (fun e => (e.l.filter (confB e.own l)).map (fun s => lockI s e.own))
theorem confL_cons (e : Ent) (G : List Ent) (l : Lk) : confL (e :: G) l = (e.l.filter (confB e.own l)).map (fun s => lockI s e.own) ++ confL G l := rfl
end Go.Proofs.Ytoolflmaaooplaa
