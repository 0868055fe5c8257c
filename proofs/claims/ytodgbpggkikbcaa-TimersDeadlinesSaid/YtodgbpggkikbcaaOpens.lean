/- Arguments opened: specifications (after the kit's page on structs). -/
import Derived.Test.YtodgbpggkikbcaaMG
import Derived.Deep.Slices
import Derived.Deep.Fields
import Derived.ChangeSame
import Derived.OpenShut
import Derived.Lib.SmallJoins
import Derived.ProofKit
namespace Go.Proofs.Ytodgbpggkikbcaa.Opens
set_option linter.unusedVariables false
set_option linter.unusedSimpArgs false
open Go.Joins Go.ChangeShapes Go.WideShapes Go.RowKit Go.Deep Go.Proofs.YtodgbpggkikbcaaW.PrintWords

section
variable {H : Type} {enc : TypeId × Value → H} {P : Program} {w : World} {base : Nat} {spare : Nat → Bool} {held : Bool}
theorem open_slice_fields {t e : TypeId} {fs : Array Field} {fuel : Nat} {cs : List Value} {x : DataW H × List MemPlace} (ht : P.underlying t = some (.slice e)) (he : P.underlying e = some (.struct fs))
    (hone : oneCellFields P fs = true) (hC : P.cellsOf e = fs.size) (h : DataW.trod enc P w base spare held fuel t cs = some x) :
    (cs = [.slice none 0 0] ∧ x = (.nil, [])) ∨
    ∃ (a : Addr) (len cap m : Nat) (D : Nat → DataW H) (Pl : Nat → List MemPlace), cs = [.slice (some a) len cap] ∧ base ≤ a.block ∧ len ≤ cap ∧ cap ≤ maxLen ∧ m = (if spare a.block then cap else len) ∧
      x = (.slice ((List.range len).map D) ((List.range (m - len)).map fun j => D (len + j)), MemPlace.row a (m * fs.size) ++ (List.range m).flatMap Pl) ∧
      ∀ i, i < m → ∃ (ys : List (DataW H × List MemPlace)) (n : Nat), D i = .agg (ys.map (·.1)) ∧ Pl i = ys.flatMap (·.2) ∧ ys.length = fs.size ∧
        ∀ (j : Nat) (f : Field), fs[j]? = some f → ∃ (v : Value) (y : DataW H × List MemPlace), w.cell? (a.add (i * fs.size + j)) = some v ∧ ys[j]? = some y ∧ DataW.trod enc P w base spare held n f.type [v] = some y := by
  rcases open_slice ht h with h0 | ⟨a, len, cap, m, n, D, Pl, hcs, hb, hl, hm, hmm, hx, hi⟩
  · exact .inl h0
  · refine .inr ⟨a, len, cap, m, D, Pl, hcs, hb, hl, hm, hmm, by rw [hC] at hx; exact hx, fun i him => ?_⟩
    obtain ⟨cs', hc, ht'⟩ := hi i him
    rw [hC] at hc
    obtain ⟨ys, n', hn', hy, hlen, hyl, hf⟩ := DataW.trod_struct he ht'
    obtain ⟨_, hcl, hat⟩ := World.cells?_some hc
    simp only [Prod.mk.injEq] at hy
    refine ⟨ys, n', hy.1, hy.2, hyl, fun j f hj => ?_⟩
    obtain ⟨ho, hk⟩ := hone_of hone j f hj
    have hjl : j < fs.size := (Array.getElem?_eq_some_iff.1 hj).1
    have hcell := hat j hjl
    have hv : cs'[j]? = some (cs'[j]'(by omega)) := List.getElem?_eq_getElem (by omega)
    have h1 := hf j f hj
    rw [ho, hk] at h1
    have hone' : (cs'.drop j).take 1 = [cs'[j]'(by omega)] := by
      rw [List.drop_eq_getElem_cons (by omega)]
      rfl
    rw [hone'] at h1
    have hys : ys[j]? = some (ys[j]'(by omega)) := List.getElem?_eq_getElem (by omega)
    refine ⟨_, _, ?_, hys, h1.trans hys⟩
    rw [← Go.Deep.add_add, hcell, hv]
end

def cellInt (w : World) (a : Addr) : Int := match w.cell? a with | some (.int _ n) => n | _ => 0
theorem cellInt_of {w : World} {a : Addr} {k : IntKind} {n : Int} (h : w.cell? a = some (.int k n)) : cellInt w a = n := by simp [cellInt, h]

set_option maxRecDepth 100000 in
theorem reads_spec {H : Type} {enc : TypeId × Value → H} {w : World} {base : Nat} {spare : Nat → Bool} {held : Bool} {a : Option Addr} {len cap : Nat} {d : DataW H} {p : List MemPlace}
    (h : DataW.Trod enc Try.prog w base spare held 22 (.slice a len cap) d p) : ∃ l, SpecR w a len l := by
  obtain ⟨fuel, hf⟩ := h
  rcases open_slice_fields Try.underlying22 Try.underlying30 (by kernel_rfl) (by kernel_rfl) hf with ⟨hcs, _⟩ | ⟨a', len', cap', m, D, Pl, hcs, hb, hl, hm, hmm, hx, hi⟩
  · simp [Value.cells] at hcs
    obtain ⟨rfl, rfl, rfl⟩ := hcs
    exact ⟨[], rfl, by unfold maxLen; omega, fun i s hs => by simp at hs⟩
  · simp [Value.cells] at hcs
    obtain ⟨rfl, rfl, rfl⟩ := hcs
    refine ⟨(List.range len).map fun i => (cellInt w (a'.add (i * 3)), cellInt w (a'.add (i * 3 + 1)), cellInt w (a'.add (i * 3 + 2))), by simp, by omega, fun j q hj => ?_⟩
    have hjl : j < len := by have := (List.getElem?_eq_some_iff.1 hj).1; simpa using this
    obtain ⟨ys, n, -, -, -, hf6⟩ := hi j (by split at hmm <;> omega)
    simp [hjl] at hj
    subst hj
    have key : ∀ (i : Nat) (f : Field), (match Try.prog.underlying 30 with | some (.struct fs) => fs | _ => #[])[i]? = some f → Try.prog.underlying f.type = some (.int .i64) → w.cell? (a'.add (j * 3 + i)) = some (.int .i64 (cellInt w (a'.add (j * 3 + i)))) := by
      intro i f hif hty
      rw [Try.underlying30] at hif
      obtain ⟨v, y, hc, -, ht⟩ := hf6 i f hif
      obtain ⟨z, hz, -, -⟩ := DataW.trod_int hty ht
      simp at hz
      subst hz
      have hc' : w.cell? (a'.add (j * 3 + i)) = some (.int .i64 z) := hc
      rw [hc', cellInt_of hc']
    have k0 := key 0 _ (by rw [Try.underlying30]; rfl) (by kernel_rfl)
    have k1 := key 1 _ (by rw [Try.underlying30]; rfl) (by kernel_rfl)
    have k2 := key 2 _ (by rw [Try.underlying30]; rfl) (by kernel_rfl)
    refine ⟨a', rfl, k0, ?_, ?_⟩
    · have e : a'.add (j * 3 + 1) = ⟨(a'.add (j * 3)).block, (a'.add (j * 3)).off + 1, none⟩ := by rw [← Go.Deep.add_add]; rfl
      rw [← e]; exact k1
    · have e : a'.add (j * 3 + 2) = ⟨(a'.add (j * 3)).block, (a'.add (j * 3)).off + 2, none⟩ := by rw [← Go.Deep.add_add]; rfl
      rw [← e]; exact k2
end Go.Proofs.Ytodgbpggkikbcaa.Opens
