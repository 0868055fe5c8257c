/- Arguments opened: a call; an event. -/
import Derived.Test.YtodgbpggkikbcaaML
import Derived.Deep.Slices
import Derived.Deep.Fields
import Derived.ChangeSame
import Derived.OpenShut
import Derived.Lib.SmallJoins
import Derived.ProofKit
namespace Go.Proofs.Ytodgbpggkikbcaa.Opens3
set_option linter.unusedVariables false
set_option linter.unusedSimpArgs false
open Go.Joins Go.ChangeShapes Go.WideShapes Go.RowKit Go.Deep Go.Proofs.YtodgbpggkikbcaaW.PrintWords

def vInt : Value → Int
  | .int _ n => n
  | _ => 0
theorem one_of {cs : List Value} {o : Nat} (h : o < cs.length) : (cs.drop o).take 1 = [cs[o]] := by
  rw [List.drop_eq_getElem_cons h]
  rfl
section
variable {H : Type} {enc : TypeId × Value → H} {w : World} {base : Nat} {spare : Nat → Bool} {held : Bool}
theorem one_int (t : TypeId) (ht : Try.prog.underlying t = some (.int .i64)) (l : List Value) (m o : Nat) (y : DataW H × List MemPlace) (ho : o < l.length) (h : DataW.trod enc Try.prog w base spare held m t ((l.drop o).take 1) = some y) : l[o] = .int .i64 (vInt l[o]) := by
  rw [one_of ho] at h
  obtain ⟨z, hz, -, -⟩ := DataW.trod_int ht h
  simp at hz
  rw [hz]; rfl
theorem int3 : Try.prog.underlying 3 = some (.int .i64) := by kernel_rfl
theorem int2 : Try.prog.underlying 2 = some (.int .i64) := by kernel_rfl
set_option maxRecDepth 100000 in
theorem ev_ints (l : List Value) (hl : l.length = 5) (m : Nat) (y : DataW H × List MemPlace) (h : DataW.trod enc Try.prog w base spare held m 38 l = some y) : ∀ i (hi : i < 5), l[i]'(by omega) = .int .i64 (vInt (l[i]'(by omega))) := by
  obtain ⟨xs, n, _, hx, _, hlen, hg⟩ := DataW.trod_struct Try.underlying38 h
  have hlen5 : xs.length = 5 := hlen
  have h0 := hg 0 _ rfl
  have h1 := hg 1 _ rfl
  have h2 := hg 2 _ rfl
  have h3 := hg 3 _ rfl
  have h4 := hg 4 _ rfl
  rw [List.getElem?_eq_getElem (by omega)] at h0 h1 h2 h3 h4
  intro i hi
  match i, hi with
  | 0, _ => exact one_int 3 int3 l _ 0 _ (by omega) h0
  | 1, _ => exact one_int 3 int3 l _ 1 _ (by omega) h1
  | 2, _ => exact one_int 3 int3 l _ 2 _ (by omega) h2
  | 3, _ => exact one_int 3 int3 l _ 3 _ (by omega) h3
  | 4, _ => exact one_int 2 int2 l _ 4 _ (by omega) h4
set_option maxRecDepth 100000 in
theorem sp_ints (l : List Value) (hl : l.length = 3) (m : Nat) (y : DataW H × List MemPlace) (h : DataW.trod enc Try.prog w base spare held m 30 l = some y) : ∀ i (hi : i < 3), l[i]'(by omega) = .int .i64 (vInt (l[i]'(by omega))) := by
  obtain ⟨xs, n, _, hx, _, hlen, hg⟩ := DataW.trod_struct Try.underlying30 h
  have hlen5 : xs.length = 3 := hlen
  have h0 := hg 0 _ rfl
  have h1 := hg 1 _ rfl
  have h2 := hg 2 _ rfl
  rw [List.getElem?_eq_getElem (by omega)] at h0 h1 h2
  intro i hi
  match i, hi with
  | 0, _ => exact one_int 2 int2 l _ 0 _ (by omega) h0
  | 1, _ => exact one_int 2 int2 l _ 1 _ (by omega) h1
  | 2, _ => exact one_int 2 int2 l _ 2 _ (by omega) h2
theorem cut_at (l : List Value) (a n i : Nat) (hi : i < n) (h : a + i < l.length) : ((l.drop a).take n)[i]'(by simp; omega) = l[a + i] := by simp
set_option maxRecDepth 100000 in
theorem op_ints (l : List Value) (hl : l.length = 11) (m : Nat) (y : DataW H × List MemPlace) (h : DataW.trod enc Try.prog w base spare held m 55 l = some y) : ∃ o : TOp, l = o.cells.toList := by
  obtain ⟨xs, n, _, hx, _, hlen, hg⟩ := DataW.trod_struct Try.underlying55 h
  have hlen5 : xs.length = 5 := hlen
  have h0 := hg 0 _ rfl
  have h1 := hg 1 _ rfl
  have h2 := hg 2 _ rfl
  have h3 := hg 3 _ rfl
  have h4 := hg 4 _ rfl
  rw [List.getElem?_eq_getElem (by omega)] at h0 h1 h2 h3 h4
  have e0 := one_int 3 int3 l _ 0 _ (by omega) h0
  have e1 := one_int 3 int3 l _ 1 _ (by omega) h1
  have ev := ev_ints ((l.drop 2).take 5) (by simp; omega) _ _ h2
  have sp := sp_ints ((l.drop 7).take 3) (by simp; omega) _ _ h3
  have e10 := one_int 2 int2 l _ 10 _ (by omega) h4
  have ev' : ∀ i (hi : i < 5), l[2 + i]'(by omega) = .int .i64 (vInt (l[2 + i]'(by omega))) := fun i hi => by
    have := ev i hi
    rw [cut_at l 2 5 i hi (by omega)] at this
    exact this
  have sp' : ∀ i (hi : i < 3), l[7 + i]'(by omega) = .int .i64 (vInt (l[7 + i]'(by omega))) := fun i hi => by
    have := sp i hi
    rw [cut_at l 7 3 i hi (by omega)] at this
    exact this
  have v2 := ev' 0 (by omega)
  have v3 := ev' 1 (by omega)
  have v4 := ev' 2 (by omega)
  have v5 := ev' 3 (by omega)
  have v6 := ev' 4 (by omega)
  have v7 := sp' 0 (by omega)
  have v8 := sp' 1 (by omega)
  have v9 := sp' 2 (by omega)
  clear ev sp ev' sp' hg h0 h1 h2 h3 h4 h hx
  match l, hl, e0, e1, v2, v3, v4, v5, v6, v7, v8, v9, e10 with
  | [c0, c1, c2, c3, c4, c5, c6, c7, c8, c9, c10], _, e0, e1, v2, v3, v4, v5, v6, v7, v8, v9, e10 =>
    simp only [List.getElem_cons_zero, List.getElem_cons_succ] at e0 e1 v2 v3 v4 v5 v6 v7 v8 v9 e10
    exact ⟨⟨vInt c0, vInt c1, vInt c2, vInt c3, vInt c4, vInt c5, vInt c6, vInt c7, vInt c8, vInt c9, vInt c10⟩, by
      show [c0, c1, c2, c3, c4, c5, c6, c7, c8, c9, c10] = [.int .i64 (vInt c0), .int .i64 (vInt c1), .int .i64 (vInt c2), .int .i64 (vInt c3), .int .i64 (vInt c4), .int .i64 (vInt c5), .int .i64 (vInt c6), .int .i64 (vInt c7), .int .i64 (vInt c8), .int .i64 (vInt c9), .int .i64 (vInt c10)]
      rw [← e0, ← e1, ← v2, ← v3, ← v4, ← v5, ← v6, ← v7, ← v8, ← v9, ← e10]⟩
set_option maxRecDepth 100000 in
theorem open_op {r : Reach} {b0 : Nat} {v : Value} {d : DataW H} {p : List MemPlace} (hv : Value.okWide Try.prog w r b0 55 v) (h : DataW.Trod enc Try.prog w base spare held 55 v d p) : ∃ o : TOp, v = .agg o.cells := by
  obtain ⟨cs, rfl, hsz⟩ := okWide_struct Try.underlying55 hv
  have hC : Try.prog.cellsOf 55 = 11 := by kernel_rfl
  rw [hC] at hsz
  obtain ⟨fuel, hf⟩ := h
  obtain ⟨l, rfl⟩ : ∃ l : List Value, cs = l.toArray := ⟨cs.toList, by simp⟩
  simp only [Value.cells] at hf
  obtain ⟨o, ho⟩ := op_ints l (by simpa using hsz) _ _ hf
  exact ⟨o, by rw [ho]⟩
set_option maxRecDepth 100000 in
theorem open_ev {r : Reach} {b0 : Nat} {v : Value} {d : DataW H} {p : List MemPlace} (hv : Value.okWide Try.prog w r b0 38 v) (h : DataW.Trod enc Try.prog w base spare held 38 v d p) : ∃ e0 e1 e2 e3 e4 : Int, v = evV e0 e1 e2 e3 e4 := by
  obtain ⟨cs, rfl, hsz⟩ := okWide_struct Try.underlying38 hv
  have hC : Try.prog.cellsOf 38 = 5 := by kernel_rfl
  rw [hC] at hsz
  obtain ⟨fuel, hf⟩ := h
  obtain ⟨l, rfl⟩ : ∃ l : List Value, cs = l.toArray := ⟨cs.toList, by simp⟩
  simp only [Value.cells] at hf
  have hl : l.length = 5 := by simpa using hsz
  have ev := ev_ints l hl _ _ hf
  have v0 := ev 0 (by omega)
  have v1 := ev 1 (by omega)
  have v2 := ev 2 (by omega)
  have v3 := ev 3 (by omega)
  have v4 := ev 4 (by omega)
  clear ev hf hsz hC hv
  match l, hl, v0, v1, v2, v3, v4 with
  | [c0, c1, c2, c3, c4], _, v0, v1, v2, v3, v4 =>
    simp only [List.getElem_cons_zero, List.getElem_cons_succ] at v0 v1 v2 v3 v4
    refine ⟨vInt c0, vInt c1, vInt c2, vInt c3, vInt c4, ?_⟩
    unfold evV
    rw [← v0, ← v1, ← v2, ← v3, ← v4]
end
end Go.Proofs.Ytodgbpggkikbcaa.Opens3
