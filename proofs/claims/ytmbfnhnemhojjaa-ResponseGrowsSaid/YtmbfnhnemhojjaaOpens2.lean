/- Arguments opened: an array of two bytes; tasks with their capacity. -/
import Derived.Test.YtmbfnhnemhojjaaOpens
namespace Go.Proofs.Ytmbfnhnemhojjaa.Opens
set_option linter.unusedVariables false
set_option linter.unusedSimpArgs false
open Go.Joins Go.ChangeShapes Go.WideShapes Go.RowKit Go.Deep Go.Proofs.YtmbfnhnemhojjaaW.PrintWords PResponseCosts

set_option maxRecDepth 100000 in
theorem open_two {H : Type} {enc : TypeId × Value → H} {w : World} {base : Nat} {spare : Nat → Bool} {held : Bool} {r : Reach} {b0 : Nat} {v : Value} {d : DataW H} {p : List MemPlace}
    (hv : Value.okWide Try.prog w r b0 26 v) (h : DataW.Trod enc Try.prog w base spare held 26 v d p) : ∃ a b : Nat, v = .agg #[.int .u8 a, .int .u8 b] ∧ a ≤ 255 ∧ b ≤ 255 := by
  obtain ⟨cs, rfl, hsz⟩ : ∃ cs, v = .agg cs ∧ cs.size = Try.prog.cellsOf 26 := by
    simp only [Value.okWide, Try.underlying26] at hv
    obtain ⟨cs, h1, h2, _⟩ := hv
    exact ⟨cs, h1, h2⟩
  rw [show Try.prog.cellsOf 26 = 2 by kernel_rfl] at hsz
  obtain ⟨fuel, hf⟩ := h
  obtain ⟨ys, m, _, hy, hyl, hyn, hyg⟩ := DataW.trod_array Try.underlying26 hf
  obtain ⟨l⟩ := cs
  match l, hsz with
  | [c0, c1], _ =>
    have c1' : Try.prog.cellsOf 5 = 1 := by kernel_rfl
    have hi5 : Try.prog.underlying 5 = some (.int .u8) := by kernel_rfl
    have h0 := hyg 0 (by omega)
    have h1 := hyg 1 (by omega)
    rw [List.getElem?_eq_getElem (by omega), c1'] at h0 h1
    simp [Value.cells] at h0 h1
    obtain ⟨z0, hz0, -, w0⟩ := DataW.trod_int hi5 h0
    obtain ⟨z1, hz1, -, w1⟩ := DataW.trod_int hi5 h1
    simp at hz0 hz1
    subst hz0 hz1
    have b0 : 0 ≤ z0 ∧ z0 ≤ 255 := by
      simp [Lit.wf, IntKind.min, IntKind.max, IntKind.signed, IntKind.bits] at w0
      omega
    have b1 : 0 ≤ z1 ∧ z1 ≤ 255 := by
      simp [Lit.wf, IntKind.min, IntKind.max, IntKind.signed, IntKind.bits] at w1
      omega
    obtain ⟨a, rfl⟩ := Int.eq_ofNat_of_zero_le b0.1
    obtain ⟨b, rfl⟩ := Int.eq_ofNat_of_zero_le b1.1
    exact ⟨a, b, rfl, by omega, by omega⟩
theorem reads_tkc {H : Type} {enc : TypeId × Value → H} {w : World} {base : Nat} {spare : Nat → Bool} {held : Bool} {a : Option Addr} {len cap : Nat} {d : DataW H} {p : List MemPlace}
    (h : DataW.Trod enc Try.prog w base spare held 25 (.slice a len cap) d p) : ∃ l, Kd.C k33 w a len l ∧ len ≤ cap := by
  obtain ⟨l, hl⟩ := reads_tk h
  refine ⟨l, hl, ?_⟩
  obtain ⟨fuel, hf⟩ := h
  rcases open_slice_fields Try.underlying25 Try.underlying33 (by kernel_rfl) (by kernel_rfl) hf with ⟨hcs, _⟩ | ⟨a', len', cap', m, D, Pl, hcs, hb, hl', _⟩
  · simp [Value.cells] at hcs
    omega
  · simp [Value.cells] at hcs
    omega
end Go.Proofs.Ytmbfnhnemhojjaa.Opens
