/- Arguments opened: a lock. -/
import Derived.Test.YtoolflmaaooplaaGreatME
import Derived.Deep.Slices
import Derived.Deep.Fields
import Derived.ChangeSame
import Derived.OpenShut
import Derived.Lib.SmallJoins
import Derived.ProofKit
namespace Go.Proofs.YtoolflmaaooplaaGreat.Opens1
set_option linter.unusedVariables false
set_option linter.unusedSimpArgs false
open Go.Joins Go.ChangeShapes Go.WideShapes Go.RowKit Go.Deep Go.Proofs.YtoolflmaaooplaaGreatW.PrintWords

def vInt : Value → Int
  | .int _ n => n
  | _ => 0
def vBool : Value → Bool
  | .bool b => b
  | _ => false
theorem one_of {cs : List Value} {o : Nat} (h : o < cs.length) : (cs.drop o).take 1 = [cs[o]] := by
  rw [List.drop_eq_getElem_cons h]
  rfl
section
variable {H : Type} {enc : TypeId × Value → H} {w : World} {base : Nat} {spare : Nat → Bool} {held : Bool}
theorem one_int (t : TypeId) (ht : Tryz.prog.underlying t = some (.int .i64)) (l : List Value) (m o : Nat) (y : DataW H × List MemPlace) (ho : o < l.length) (h : DataW.trod enc Tryz.prog w base spare held m t ((l.drop o).take 1) = some y) : l[o] = .int .i64 (vInt l[o]) ∧ (Lit.int .i64 (vInt l[o])).wf = true := by
  rw [one_of ho] at h
  obtain ⟨z, hz, hd, hw⟩ := DataW.trod_int ht h
  simp at hz
  rw [hz]
  exact ⟨rfl, hw⟩
theorem one_bool (t : TypeId) (ht : Tryz.prog.underlying t = some .bool) (l : List Value) (m o : Nat) (y : DataW H × List MemPlace) (ho : o < l.length) (h : DataW.trod enc Tryz.prog w base spare held m t ((l.drop o).take 1) = some y) : l[o] = .bool (vBool l[o]) := by
  rw [one_of ho] at h
  obtain ⟨z, hz, hd⟩ := DataW.trod_bool ht h
  simp at hz
  rw [hz]; rfl
theorem int3 : Tryz.prog.underlying 3 = some (.int .i64) := by kernel_rfl
theorem int2 : Tryz.prog.underlying 2 = some (.int .i64) := by kernel_rfl
theorem bool4 : Tryz.prog.underlying 4 = some .bool := by kernel_rfl
set_option maxRecDepth 100000 in
theorem lk_of (l : List Value) (hl : l.length = 4) (m : Nat) (y : DataW H × List MemPlace) (h : DataW.trod enc Tryz.prog w base spare held m 29 l = some y) : ∃ x : Lk, l = x.cells ∧ (Lit.int .i64 x.own).wf = true ∧ (Lit.int .i64 x.st).wf = true ∧ (Lit.int .i64 x.len).wf = true := by
  obtain ⟨xs, n, _, hx, _, hlen, hg⟩ := DataW.trod_struct Tryz.underlying29 h
  have hlen5 : xs.length = 4 := hlen
  have h0 := hg 0 _ rfl
  have h1 := hg 1 _ rfl
  have h2 := hg 2 _ rfl
  have h3 := hg 3 _ rfl
  rw [List.getElem?_eq_getElem (by omega)] at h0 h1 h2 h3
  have e0 := one_int 3 int3 l _ 0 _ (by omega) h0
  have e1 := one_int 2 int2 l _ 1 _ (by omega) h1
  have e2 := one_int 2 int2 l _ 2 _ (by omega) h2
  have e3 := one_bool 4 bool4 l _ 3 _ (by omega) h3
  clear hg h0 h1 h2 h3 h hx
  match l, hl, e0, e1, e2, e3 with
  | [c0, c1, c2, c3], _, e0, e1, e2, e3 =>
    simp only [List.getElem_cons_zero, List.getElem_cons_succ] at e0 e1 e2 e3
    exact ⟨⟨vInt c0, vInt c1, vInt c2, vBool c3⟩, by
      show [c0, c1, c2, c3] = [.int .i64 (vInt c0), .int .i64 (vInt c1), .int .i64 (vInt c2), .bool (vBool c3)]
      rw [← e0.1, ← e1.1, ← e2.1, ← e3], e0.2, e1.2, e2.2⟩
set_option maxRecDepth 100000 in
theorem open_lk {r : Reach} {b0 : Nat} {v : Value} {d : DataW H} {p : List MemPlace} (hv : Value.okWide Tryz.prog w r b0 29 v) (h : DataW.Trod enc Tryz.prog w base spare held 29 v d p) : ∃ x : Lk, v = lkV x ∧ (Lit.int .i64 x.own).wf = true ∧ (Lit.int .i64 x.st).wf = true ∧ (Lit.int .i64 x.len).wf = true := by
  obtain ⟨cs, rfl, hsz⟩ := okWide_struct Tryz.underlying29 hv
  have hC : Tryz.prog.cellsOf 29 = 4 := by kernel_rfl
  rw [hC] at hsz
  obtain ⟨fuel, hf⟩ := h
  obtain ⟨l, rfl⟩ : ∃ l : List Value, cs = l.toArray := ⟨cs.toList, by simp⟩
  simp only [Value.cells] at hf
  obtain ⟨o, ho, hw⟩ := lk_of l (by simpa using hsz) _ _ hf
  exact ⟨o, by rw [ho]; rfl, hw⟩
end
end Go.Proofs.YtoolflmaaooplaaGreat.Opens1
