/- Arguments opened: numbers. -/
import Derived.Test.YtodgbpggkikbcaaMJ
import Derived.ChangeSlices
import Derived.ProofKit
import Derived.Lib.SmallJoins
namespace Go.Proofs.Ytodgbpggkikbcaa.Opens2
set_option linter.unusedVariables false
set_option linter.unusedSimpArgs false
open Go.ChangeShapes Go.WideShapes Go.RowKit Go.Proofs.YtodgbpggkikbcaaW.PrintWords

theorem reads_ints {H : Type} {enc : TypeId × Value → H} {w : World} {base : Nat} {spare : Nat → Bool} {held : Bool} {a : Option Addr} {len cap : Nat} {d : DataW H} {p : List MemPlace}
    (h : DataW.Trod enc Try.prog w base spare held 43 (.slice a len cap) d p) : ∃ l, IntR w a len l := by
  obtain ⟨fuel, hf⟩ := h
  rcases open_ints Try.underlying43 Try.underlying2 (by kernel_rfl) hf with ⟨hcs, _⟩ | ⟨a', len', cap', zs, hcs, hb, hl, hm, hlen, hx, hc, hw⟩
  · simp [Value.cells] at hcs
    obtain ⟨rfl, rfl, rfl⟩ := hcs
    exact ⟨[], rfl, by unfold maxLen; omega, fun i s hs => by simp at hs⟩
  · simp [Value.cells] at hcs
    obtain ⟨rfl, rfl, rfl⟩ := hcs
    have hle : len ≤ zs.length := by rw [hlen]; split <;> omega
    refine ⟨zs.take len, by rw [List.length_take]; omega, by omega, fun i z hz => ⟨a', rfl, ?_⟩⟩
    have hi : i < len := by have := (List.getElem?_eq_some_iff.1 hz).1; rw [List.length_take] at this; omega
    rw [hc i (by omega)]
    rw [List.getElem?_take, if_pos hi] at hz
    rw [List.getD_eq_getElem?_getD, hz]; rfl
end Go.Proofs.Ytodgbpggkikbcaa.Opens2
