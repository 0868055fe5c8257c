/- An argument that is a []uint8, opened to its numbers. -/
import Derived.Test.YtepceelkfbjamaaOpens
import Derived.Test.YtepceelkfbjamaaB3
import Derived.OpenShut
namespace Go.Proofs.Ytepceelkfbjamaa.Opens
open Go.Joins Go.ChangeShapes Go.WideShapes Go.RowKit Go.Deep Go.Proofs.YtepceelkfbjamaaW.PrintWords PTraceFilters

theorem reads_ev2 {H : Type} {enc : TypeId × Value → H} {w : World} {base : Nat} {spare : Nat → Bool} {held : Bool} {a : Option Addr} {len cap : Nat} {d : DataW H} {p : List MemPlace}
    (h : DataW.Trod enc Try.prog w base spare held 22 (.slice a len cap) d p) : ∃ l, Kd.C k47 w a len l ∧ len ≤ cap := by
  obtain ⟨l, hl⟩ := reads_ev h
  refine ⟨l, hl, ?_⟩
  obtain ⟨fuel, hf⟩ := h
  rcases open_slice_fields Try.underlying22 Try.underlying47 (by kernel_rfl) (by kernel_rfl) hf with ⟨hcs, _⟩ | ⟨a', len', cap', m, D, Pl, hcs, hb, hl, hm, hmm, hx, hi⟩
  · simp [Value.cells] at hcs
    omega
  · simp [Value.cells] at hcs
    omega

theorem reads_int {H : Type} {enc : TypeId × Value → H} {P : Program} {w : World} {base : Nat} {held : Bool} {a : Option Addr} {len cap : Nat} {d : DataW H} {p : List MemPlace} {t e : TypeId} {k : IntKind}
    (ht : P.underlying t = some (.slice e)) (he : P.underlying e = some (.int k)) (hc : P.cellsOf e = 1)
    (h : DataW.Trod enc P w base (fun _ => true) held t (.slice a len cap) d p) : ∃ l, Kd.C (Kd.int k) w a len l ∧ len ≤ cap ∧ ∀ z ∈ l, (Lit.int k z).wf = true := by
  obtain ⟨fuel, hf⟩ := h
  rcases open_ints ht he hc hf with ⟨hcs, _⟩ | ⟨x, l, c, zs, hcs, _, hl, hm, hz, _, hcell, hwz⟩
  · simp [Value.cells] at hcs
    obtain ⟨rfl, rfl, rfl⟩ := hcs
    exact ⟨[], Kd.C_nil _ w, Nat.le_refl _, by simp⟩
  · simp [Value.cells] at hcs
    obtain ⟨rfl, rfl, rfl⟩ := hcs
    simp at hz
    refine ⟨zs.take len, ⟨by rw [List.length_take]; omega, by unfold maxLen at hm; omega, fun _ => ⟨x, rfl, fun j q hj => ?_⟩⟩, hl, fun z hz' => hwz z (List.mem_of_mem_take hz')⟩
    have hjl : j < len := by have := (List.getElem?_eq_some_iff.1 hj).1; rw [List.length_take] at this; omega
    have hq : zs[j]? = some q := by rwa [List.getElem?_take_of_lt hjl] at hj
    refine ⟨[.int k q], rfl, rfl, fun i u hu => ?_⟩
    match i, hu with
    | 0, hu =>
      simp at hu
      subst hu
      have hjz : j < zs.length := (List.getElem?_eq_some_iff.1 hq).1
      have := hcell j hjz
      rw [show zs.getD j 0 = q by simp [List.getD, hq]] at this
      simpa [show (Kd.int k).sz = 1 from rfl] using this
    | i + 1, hu => simp at hu
theorem reads_u8 {H : Type} {enc : TypeId × Value → H} {w : World} {base : Nat} {held : Bool} {a : Option Addr} {len cap : Nat} {d : DataW H} {p : List MemPlace}
    (h : DataW.Trod enc Try.prog w base (fun _ => true) held 23 (.slice a len cap) d p) : ∃ l, Kd.C u8K w a len l ∧ ∀ z ∈ l, 0 ≤ z ∧ z ≤ 255 := by
  obtain ⟨l, h1, -, h2⟩ := reads_int Try.underlying23 Try.underlying5 (by kernel_rfl) h
  exact ⟨l, h1, fun z hz => by have := bounds_u8 (h2 z hz); omega⟩
end Go.Proofs.Ytepceelkfbjamaa.Opens
