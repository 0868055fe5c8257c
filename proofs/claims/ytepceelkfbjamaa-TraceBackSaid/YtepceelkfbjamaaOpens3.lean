/- An argument that is a []Event, opened to events whose numbers are in range. -/
import Derived.Test.YtepceelkfbjamaaOpens2
import Derived.Test.YtepceelkfbjamaaC2
import Derived.Test.YtepceelkfbjamaaD1
namespace Go.Proofs.Ytepceelkfbjamaa.Opens
open Go.Joins Go.ChangeShapes Go.WideShapes Go.RowKit Go.Deep Go.Proofs.YtepceelkfbjamaaW.PrintWords PTraceFilters

set_option maxRecDepth 100000 in
theorem reads_ev3 {H : Type} {enc : TypeId × Value → H} {w : World} {base : Nat} {spare : Nat → Bool} {held : Bool} {a : Option Addr} {len cap : Nat} {d : DataW H} {p : List MemPlace}
    (h : DataW.Trod enc Try.prog w base spare held 22 (.slice a len cap) d p) : ∃ l, Kd.C k47 w a len l ∧ ∀ x ∈ l, Ev64 x := by
  obtain ⟨l, hC⟩ := reads_ev h
  refine ⟨l, hC, fun x hx => ?_⟩
  obtain ⟨j, hj, rfl⟩ := List.getElem_of_mem hx
  have hlen := Kd.C_len hC
  obtain ⟨fuel, hf⟩ := h
  rcases open_slice_fields Try.underlying22 Try.underlying47 (by kernel_rfl) (by kernel_rfl) hf with ⟨hcs, _⟩ | ⟨a', len', cap', m, D, Pl, hcs, hb, hl, hm, hmm, hx, hi⟩
  · simp [Value.cells] at hcs
    omega
  · simp [Value.cells] at hcs
    obtain ⟨rfl, rfl, rfl⟩ := hcs
    obtain ⟨ys, n, -, -, -, hf6⟩ := hi j (by split at hmm <;> omega)
    obtain ⟨ad, c, e, _, hK, hc0⟩ := Kd.C_get hC z47 (j : Int) (by omega) (by omega)
    have hc : ∀ i u, c[i]? = some u → w.cell? (ad.add (j * 6 + i)) = some u := hc0
    obtain rfl := k47_open hK
    injection e with e
    subst e
    have hd : l.getD j z47 = l[j] := by simp [List.getD, hj]
    simp only [Int.toNat_natCast] at hc hd
    have key : ∀ (i : Nat) (f : Field) (z : Int), (match Try.prog.underlying 47 with | some (.struct fs) => fs | _ => #[])[i]? = some f → Try.prog.underlying f.type = some (.int .i64) → w.cell? (a'.add (j * 6 + i)) = some (.int .i64 z) → -9223372036854775808 ≤ z ∧ z ≤ 9223372036854775807 := by
      intro i f z hif hty hz
      rw [Try.underlying47] at hif
      obtain ⟨v, y, hc', -, ht⟩ := hf6 i f hif
      obtain ⟨z', hz', -, hw⟩ := DataW.trod_int hty ht
      have hc2 : w.cell? (a'.add (j * 6 + i)) = some v := hc'
      rw [hz] at hc2
      injection hc2 with hc2
      rw [← hc2] at hz'
      simp at hz'
      subst hz'
      exact bounds_i64 hw
    have k0 := key 0 _ _ (by rw [Try.underlying47]; rfl) (by kernel_rfl) (hc 0 _ rfl)
    have k1 := key 1 _ _ (by rw [Try.underlying47]; rfl) (by kernel_rfl) (hc 1 _ rfl)
    have k2 := key 2 _ _ (by rw [Try.underlying47]; rfl) (by kernel_rfl) (hc 2 _ rfl)
    have k3 := key 3 _ _ (by rw [Try.underlying47]; rfl) (by kernel_rfl) (hc 3 _ rfl)
    have k4 := key 4 _ _ (by rw [Try.underlying47]; rfl) (by kernel_rfl) (hc 4 _ rfl)
    have k5 := key 5 _ _ (by rw [Try.underlying47]; rfl) (by kernel_rfl) (hc 5 _ rfl)
    simp only [hd] at k0 k1 k2 k3 k4 k5
    exact ⟨k0, k1, k2, k3, k4, k5⟩
theorem reads_u8c {H : Type} {enc : TypeId × Value → H} {w : World} {base : Nat} {held : Bool} {a : Option Addr} {len cap : Nat} {d : DataW H} {p : List MemPlace}
    (h : DataW.Trod enc Try.prog w base (fun _ => true) held 23 (.slice a len cap) d p) : ∃ l, Kd.C (Kd.int .u8) w a len l ∧ Bytes l ∧ len ≤ cap := by
  obtain ⟨l, h1, h3, h2⟩ := reads_int Try.underlying23 Try.underlying5 (by kernel_rfl) h
  exact ⟨l, h1, fun z hz => by have := bounds_u8 (h2 z hz); omega, h3⟩
end Go.Proofs.Ytepceelkfbjamaa.Opens
