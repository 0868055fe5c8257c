/- Arguments opened: tables of costs, tasks (after the kit's page on structs). -/
import Derived.Test.YtmbfnhnemhojjaaA1
import Derived.Deep.Slices
import Derived.Deep.Fields
import Derived.ChangeSame
import Derived.OpenShut
import Derived.Lib.SmallJoins
import Derived.ProofKit
namespace Go.Proofs.Ytmbfnhnemhojjaa.Opens
set_option linter.unusedVariables false
set_option linter.unusedSimpArgs false
open Go.Joins Go.ChangeShapes Go.WideShapes Go.RowKit Go.Deep Go.Proofs.YtmbfnhnemhojjaaW.PrintWords PResponseCosts

section
variable {H : Type} {enc : TypeId × Value → H} {P : Program} {w : World} {base : Nat} {spare : Nat → Bool} {held : Bool}
theorem open_slice_fields {t e : TypeId} {fs : Array Field} {fuel : Nat} {cs : List Value} {x : DataW H × List MemPlace} (ht : P.underlying t = some (.slice e)) (he : P.underlying e = some (.struct fs))
    (hone : oneCellFields P fs = true) (hC : P.cellsOf e = fs.size) (h : DataW.trod enc P w base spare held fuel t cs = some x) :
    (cs = [.slice none 0 0] ∧ x = (.nil, [])) ∨
    ∃ (a : Addr) (len cap m : Nat) (D : Nat → DataW H) (Pl : Nat → List MemPlace), cs = [.slice (some a) len cap] ∧ base ≤ a.block ∧ len ≤ cap ∧ cap ≤ maxLen ∧ m = (if spare a.block then cap else len) ∧
      x = (.slice ((List.range len).map D) ((List.range (m - len)).map fun j => D (len + j)), MemPlace.row a (m * fs.size) ++ (List.range m).flatMap Pl) ∧
      ∀ i, i < m → ∃ (ys : List (DataW H × List MemPlace)) (n : Nat), D i = .agg (ys.map (·.1)) ∧ Pl i = ys.flatMap (·.2) ∧ ys.length = fs.size ∧
        ∀ (j : Nat) (f : Field), fs[j]? = some f → ∃ (v : Value) (y : DataW H × List MemPlace), w.cell? (a.add (i * fs.size + j)) = some v ∧ ys[j]? = some y ∧ DataW.trod enc P w base spare held n f.type [v] = some y := by
  rcases open_slice ht h with h0 | ⟨a, len, cap, m, n, D, Pl, hcs, hb, hl, hm, hmm, hx, hi⟩
  · exact .inl h0
  · refine .inr ⟨a, len, cap, m, D, Pl, hcs, hb, hl, hm, hmm, by rw [hC] at hx; exact hx, fun i him => ?_⟩
    obtain ⟨cs', hc, ht'⟩ := hi i him
    rw [hC] at hc
    obtain ⟨ys, n', hn', hy, hlen, hyl, hf⟩ := DataW.trod_struct he ht'
    obtain ⟨_, hcl, hat⟩ := World.cells?_some hc
    simp only [Prod.mk.injEq] at hy
    refine ⟨ys, n', hy.1, hy.2, hyl, fun j f hj => ?_⟩
    obtain ⟨ho, hk⟩ := hone_of hone j f hj
    have hjl : j < fs.size := (Array.getElem?_eq_some_iff.1 hj).1
    have hcell := hat j hjl
    have hv : cs'[j]? = some (cs'[j]'(by omega)) := List.getElem?_eq_getElem (by omega)
    have h1 := hf j f hj
    rw [ho, hk] at h1
    have hone' : (cs'.drop j).take 1 = [cs'[j]'(by omega)] := by
      rw [List.drop_eq_getElem_cons (by omega)]
      rfl
    rw [hone'] at h1
    have hys : ys[j]? = some (ys[j]'(by omega)) := List.getElem?_eq_getElem (by omega)
    refine ⟨_, _, ?_, hys, h1.trans hys⟩
    rw [← Go.Deep.add_add, hcell, hv]
end

def cellInt (w : World) (a : Addr) : Int := match w.cell? a with | some (.int _ n) => n | _ => 0
theorem cellInt_of {w : World} {a : Addr} {k : IntKind} {n : Int} (h : w.cell? a = some (.int k n)) : cellInt w a = n := by simp [cellInt, h]

set_option maxRecDepth 100000 in
theorem reads_tk {H : Type} {enc : TypeId × Value → H} {w : World} {base : Nat} {spare : Nat → Bool} {held : Bool} {a : Option Addr} {len cap : Nat} {d : DataW H} {p : List MemPlace}
    (h : DataW.Trod enc Try.prog w base spare held 25 (.slice a len cap) d p) : ∃ l, Kd.C k33 w a len l := by
  obtain ⟨fuel, hf⟩ := h
  rcases open_slice_fields Try.underlying25 Try.underlying33 (by kernel_rfl) (by kernel_rfl) hf with ⟨hcs, _⟩ | ⟨a', len', cap', m, D, Pl, hcs, hb, hl, hm, hmm, hx, hi⟩
  · simp [Value.cells] at hcs
    obtain ⟨rfl, rfl, rfl⟩ := hcs
    exact ⟨[], Kd.C_nil k33 w⟩
  · simp [Value.cells] at hcs
    obtain ⟨rfl, rfl, rfl⟩ := hcs
    refine ⟨(List.range len).map fun i => ⟨cellInt w (a'.add (i * 6)), cellInt w (a'.add (i * 6 + 1)), cellInt w (a'.add (i * 6 + 2)), cellInt w (a'.add (i * 6 + 3)), cellInt w (a'.add (i * 6 + 4)), cellInt w (a'.add (i * 6 + 5))⟩, by simp, by unfold maxLen at hm; omega, fun _ => ⟨a', rfl, fun j q hj => ?_⟩⟩
    have hjl : j < len := by have := (List.getElem?_eq_some_iff.1 hj).1; simpa using this
    obtain ⟨ys, n, -, -, -, hf6⟩ := hi j (by split at hmm <;> omega)
    refine ⟨_, ?_, k33_mk w q, ?_⟩
    · rfl
    simp [hjl] at hj
    subst hj
    have key : ∀ (i : Nat) (f : Field), (match Try.prog.underlying 33 with | some (.struct fs) => fs | _ => #[])[i]? = some f → Try.prog.underlying f.type = some (.int .i64) → w.cell? (a'.add (j * 6 + i)) = some (.int .i64 (cellInt w (a'.add (j * 6 + i)))) := by
      intro i f hif hty
      rw [Try.underlying33] at hif
      obtain ⟨v, y, hc, -, ht⟩ := hf6 i f hif
      obtain ⟨z, hz, -, -⟩ := DataW.trod_int hty ht
      simp at hz
      subst hz
      have hc' : w.cell? (a'.add (j * 6 + i)) = some (.int .i64 z) := hc
      rw [hc', cellInt_of hc']
    intro i u hu
    have hl6 : i < 6 := by have := (List.getElem?_eq_some_iff.1 hu).1; simpa using this
    match i, hl6 with
    | 0, _ => simp at hu; subst hu; exact key 0 _ (by rw [Try.underlying33]; rfl) (by kernel_rfl)
    | 1, _ => simp at hu; subst hu; exact key 1 _ (by rw [Try.underlying33]; rfl) (by kernel_rfl)
    | 2, _ => simp at hu; subst hu; exact key 2 _ (by rw [Try.underlying33]; rfl) (by kernel_rfl)
    | 3, _ => simp at hu; subst hu; exact key 3 _ (by rw [Try.underlying33]; rfl) (by kernel_rfl)
    | 4, _ => simp at hu; subst hu; exact key 4 _ (by rw [Try.underlying33]; rfl) (by kernel_rfl)
    | 5, _ => simp at hu; subst hu; exact key 5 _ (by rw [Try.underlying33]; rfl) (by kernel_rfl)

def vInt : Value → Int
  | .int _ n => n
  | _ => 0
theorem one_of {cs : List Value} {o : Nat} (h : o < cs.length) : (cs.drop o).take 1 = [cs[o]] := by
  rw [List.drop_eq_getElem_cons h]
  rfl
set_option maxRecDepth 100000 in
theorem open_tab {H : Type} {enc : TypeId × Value → H} {w : World} {base : Nat} {spare : Nat → Bool} {held : Bool} {r : Reach} {b0 : Nat} {v : Value} {d : DataW H} {p : List MemPlace}
    (hv : Value.okWide Try.prog w r b0 24 v) (h : DataW.Trod enc Try.prog w base spare held 24 v d p) : ∃ t : Tab, v = tabV t ∧ t.costs.length = 24 := by
  obtain ⟨cs, rfl, hsz⟩ := okWide_struct Try.underlying24 hv
  have hC : Try.prog.cellsOf 24 = 26 := by kernel_rfl
  rw [hC] at hsz
  obtain ⟨fuel, hf⟩ := h
  obtain ⟨xs, n, _, hx, _, hlen, hg⟩ := DataW.trod_struct Try.underlying24 hf
  obtain ⟨l, rfl⟩ : ∃ l : List Value, cs = l.toArray := ⟨cs.toList, by simp⟩
  have hl : l.length = 26 := by simpa using hsz
  simp only [Value.cells] at hg
  have c1 : Try.prog.cellsOf 2 = 1 := by kernel_rfl
  have hi2 : Try.prog.underlying 2 = some (.int .i64) := by kernel_rfl
  have one : ∀ (m o : Nat) (y : DataW H × List MemPlace) (ho : o < l.length), DataW.trod enc Try.prog w base spare held m 2 ((l.drop o).take 1) = some y → l[o] = .int .i64 (vInt l[o]) := by
    intro m o y ho ht
    rw [one_of ho] at ht
    obtain ⟨z, hz, -, -⟩ := DataW.trod_int hi2 ht
    simp at hz
    rw [hz]; rfl
  have hx3 : xs.length = 3 := hlen
  have h0 := hg 0 _ rfl
  have h1 := hg 1 _ rfl
  have h2 := hg 2 _ rfl
  rw [List.getElem?_eq_getElem (by omega)] at h0 h1 h2
  have e0 : l[0]'(by omega) = .int .i64 (vInt (l[0]'(by omega))) := one _ 0 _ (by omega) h0
  have e1 : l[1]'(by omega) = .int .i64 (vInt (l[1]'(by omega))) := one _ 1 _ (by omega) h1
  obtain ⟨ys, m, _, hy, hyl, hyn, hyg⟩ := DataW.trod_array Try.underlying22 h2
  have e2 : ∀ j (hj : j < 24), l[2 + j]'(by omega) = .int .i64 (vInt (l[2 + j]'(by omega))) := by
    intro j hj
    have := hyg j hj
    rw [List.getElem?_eq_getElem (by omega)] at this
    have e : (List.drop (j * Try.prog.cellsOf 2) (List.take (Try.prog.cellsOf 22) (List.drop 2 l))).take (Try.prog.cellsOf 2) = (l.drop (2 + j)).take 1 := by
      rw [c1, show Try.prog.cellsOf 22 = 24 by kernel_rfl, Nat.mul_one, List.drop_take, List.take_take, List.drop_drop, Nat.min_eq_left (by omega)]
    exact one m (2 + j) _ (by omega) (by rw [← e]; exact this)
  refine ⟨⟨vInt (l[0]'(by omega)), vInt (l[1]'(by omega)), (List.range 24).map fun j => vInt (l.getD (2 + j) .nilIface)⟩, ?_, by simp⟩
  unfold tabV tabCells ints
  congr 2
  refine List.ext_getElem (by simp [hl]) (fun i hi1 hi2 => ?_)
  match i, hi1 with
  | 0, _ => exact e0
  | 1, _ => exact e1
  | j + 2, hj =>
    have hj : j < 24 := by omega
    have := e2 j hj
    simp only [List.getElem_cons_succ, List.getElem_map, List.getElem_range]
    rw [List.getD_eq_getElem?_getD, List.getElem?_eq_getElem (show 2 + j < l.length by omega)]
    simp only [Option.getD_some]
    rw [← this]
    congr 1
    omega
end Go.Proofs.Ytmbfnhnemhojjaa.Opens
