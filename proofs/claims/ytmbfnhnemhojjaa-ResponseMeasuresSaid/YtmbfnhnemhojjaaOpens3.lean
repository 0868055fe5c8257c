/- Arguments opened: events (after the kit's page on structs). -/
import Derived.Test.YtmbfnhnemhojjaaOpens
namespace Go.Proofs.Ytmbfnhnemhojjaa.Opens
set_option linter.unusedVariables false
set_option linter.unusedSimpArgs false
open Go.Joins Go.ChangeShapes Go.WideShapes Go.RowKit Go.Deep Go.Proofs.YtmbfnhnemhojjaaW.PrintWords PResponseCosts
set_option maxRecDepth 100000 in
theorem reads_ev {H : Type} {enc : TypeId × Value → H} {w : World} {base : Nat} {spare : Nat → Bool} {held : Bool} {a : Option Addr} {len cap : Nat} {d : DataW H} {p : List MemPlace}
    (h : DataW.Trod enc Try.prog w base spare held 48 (.slice a len cap) d p) : ∃ l, Kd.C k33 w a len l := by
  obtain ⟨fuel, hf⟩ := h
  rcases open_slice_fields Try.underlying48 Try.underlying50 (by kernel_rfl) (by kernel_rfl) hf with ⟨hcs, _⟩ | ⟨a', len', cap', m, D, Pl, hcs, hb, hl, hm, hmm, hx, hi⟩
  · simp [Value.cells] at hcs
    obtain ⟨rfl, rfl, rfl⟩ := hcs
    exact ⟨[], Kd.C_nil k33 w⟩
  · simp [Value.cells] at hcs
    obtain ⟨rfl, rfl, rfl⟩ := hcs
    refine ⟨(List.range len).map fun i => ⟨cellInt w (a'.add (i * 6)), cellInt w (a'.add (i * 6 + 1)), cellInt w (a'.add (i * 6 + 2)), cellInt w (a'.add (i * 6 + 3)), cellInt w (a'.add (i * 6 + 4)), cellInt w (a'.add (i * 6 + 5))⟩, by simp, by unfold maxLen at hm; omega, fun _ => ⟨a', rfl, fun j q hj => ?_⟩⟩
    have hjl : j < len := by have := (List.getElem?_eq_some_iff.1 hj).1; simpa using this
    obtain ⟨ys, n, -, -, -, hf6⟩ := hi j (by split at hmm <;> omega)
    refine ⟨_, ?_, k33_mk w q, ?_⟩
    · rfl
    simp [hjl] at hj
    subst hj
    have key : ∀ (i : Nat) (f : Field), (match Try.prog.underlying 50 with | some (.struct fs) => fs | _ => #[])[i]? = some f → Try.prog.underlying f.type = some (.int .i64) → w.cell? (a'.add (j * 6 + i)) = some (.int .i64 (cellInt w (a'.add (j * 6 + i)))) := by
      intro i f hif hty
      rw [Try.underlying50] at hif
      obtain ⟨v, y, hc, -, ht⟩ := hf6 i f hif
      obtain ⟨z, hz, -, -⟩ := DataW.trod_int hty ht
      simp at hz
      subst hz
      have hc' : w.cell? (a'.add (j * 6 + i)) = some (.int .i64 z) := hc
      rw [hc', cellInt_of hc']
    intro i u hu
    have hl6 : i < 6 := by have := (List.getElem?_eq_some_iff.1 hu).1; simpa using this
    match i, hl6 with
    | 0, _ => simp at hu; subst hu; exact key 0 _ (by rw [Try.underlying50]; rfl) (by kernel_rfl)
    | 1, _ => simp at hu; subst hu; exact key 1 _ (by rw [Try.underlying50]; rfl) (by kernel_rfl)
    | 2, _ => simp at hu; subst hu; exact key 2 _ (by rw [Try.underlying50]; rfl) (by kernel_rfl)
    | 3, _ => simp at hu; subst hu; exact key 3 _ (by rw [Try.underlying50]; rfl) (by kernel_rfl)
    | 4, _ => simp at hu; subst hu; exact key 4 _ (by rw [Try.underlying50]; rfl) (by kernel_rfl)
    | 5, _ => simp at hu; subst hu; exact key 5 _ (by rw [Try.underlying50]; rfl) (by kernel_rfl)

end Go.Proofs.Ytmbfnhnemhojjaa.Opens
