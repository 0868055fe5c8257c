/- Arguments opened: an array of two ints. -/
import Derived.Test.YtepceelkfbjamaaOpens
namespace Go.Proofs.Ytepceelkfbjamaa.Opens
set_option linter.unusedVariables false
set_option linter.unusedSimpArgs false
open Go.Joins Go.ChangeShapes Go.WideShapes Go.RowKit Go.Deep Go.Proofs.YtepceelkfbjamaaW.PrintWords PTraceFilters

set_option maxRecDepth 100000 in
theorem open_two {H : Type} {enc : TypeId × Value → H} {w : World} {base : Nat} {spare : Nat → Bool} {held : Bool} {r : Reach} {b0 : Nat} {v : Value} {d : DataW H} {p : List MemPlace}
    (hv : Value.okWide Try.prog w r b0 67 v) (h : DataW.Trod enc Try.prog w base spare held 67 v d p) : ∃ a b : Int, v = .agg #[.int .i64 a, .int .i64 b] := by
  obtain ⟨cs, rfl, hsz⟩ : ∃ cs, v = .agg cs ∧ cs.size = Try.prog.cellsOf 67 := by
    simp only [Value.okWide, Try.underlying67] at hv
    obtain ⟨cs, h1, h2, _⟩ := hv
    exact ⟨cs, h1, h2⟩
  rw [show Try.prog.cellsOf 67 = 2 by kernel_rfl] at hsz
  obtain ⟨fuel, hf⟩ := h
  obtain ⟨ys, m, _, hy, hyl, hyn, hyg⟩ := DataW.trod_array Try.underlying67 hf
  obtain ⟨l⟩ := cs
  match l, hsz with
  | [c0, c1], _ =>
    have c1' : Try.prog.cellsOf 3 = 1 := by kernel_rfl
    have hi5 : Try.prog.underlying 3 = some (.int .i64) := by kernel_rfl
    have h0 := hyg 0 (by omega)
    have h1 := hyg 1 (by omega)
    rw [List.getElem?_eq_getElem (by omega), c1'] at h0 h1
    simp [Value.cells] at h0 h1
    obtain ⟨z0, hz0, -, w0⟩ := DataW.trod_int hi5 h0
    obtain ⟨z1, hz1, -, w1⟩ := DataW.trod_int hi5 h1
    simp at hz0 hz1
    subst hz0 hz1
    exact ⟨z0, z1, rfl⟩
end Go.Proofs.Ytepceelkfbjamaa.Opens
