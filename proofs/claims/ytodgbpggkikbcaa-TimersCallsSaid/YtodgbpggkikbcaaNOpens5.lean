/- Arguments opened: a list of calls. -/
import Derived.Test.YtodgbpggkikbcaaMV
import Derived.Test.YtodgbpggkikbcaaNOpens3
namespace Go.Proofs.Ytodgbpggkikbcaa.Opens5
set_option linter.unusedVariables false
set_option linter.unusedSimpArgs false
open Go.Joins Go.ChangeShapes Go.WideShapes Go.RowKit Go.Deep Go.Proofs.YtodgbpggkikbcaaW.PrintWords

theorem list_of {α : Type} {Q : Nat → α → Prop} : ∀ (n : Nat), (∀ i, i < n → ∃ x, Q i x) → ∃ l : List α, l.length = n ∧ ∀ (i : Nat) (x : α), l[i]? = some x → Q i x
  | 0, _ => ⟨[], rfl, fun i x h => by simp at h⟩
  | n + 1, h => by
    obtain ⟨l, hl, hq⟩ := list_of n (fun i hi => h i (by omega))
    obtain ⟨x, hx⟩ := h n (by omega)
    refine ⟨l ++ [x], by simp [hl], fun i y hy => ?_⟩
    rcases Nat.lt_or_ge i n with hlt | hge
    · rw [List.getElem?_append_left (by omega)] at hy
      exact hq i y hy
    · rw [List.getElem?_append_right (by omega)] at hy
      cases hd : i - l.length with
      | zero =>
        rw [hd] at hy
        have e : x = y := by simpa using hy
        have : i = n := by omega
        subst this; subst e
        exact hx
      | succ m => rw [hd] at hy; simp at hy
theorem add_pos (A : Addr) {j : Nat} (hj : 0 < j) : A.add j = ⟨A.block, A.off + j, none⟩ := by
  unfold Addr.add
  split
  · omega
  · rfl
def toR (o : TOp) : OpR := ⟨o.kind, o.id, o.e0, o.e1, o.e2, o.e3, o.e4, o.f, o.iv, o.tol, o.now⟩
theorem toR_arr (o : TOp) : (toR o).arr = o.cells := rfl
section
variable {H : Type} {enc : TypeId × Value → H} {w : World} {base : Nat} {spare : Nat → Bool} {held : Bool}
set_option maxRecDepth 100000 in
theorem op_wf (l : List Value) (hl : l.length = 11) (m : Nat) (y : DataW H × List MemPlace) (h : DataW.trod enc Try.prog w base spare held m 55 l = some y) (o : TOp) (ho : l = o.cells.toList) : (Lit.int .i64 o.id).wf = true := by
  obtain ⟨xs, n, _, hx, _, hlen, hg⟩ := DataW.trod_struct Try.underlying55 h
  have hlen5 : xs.length = 5 := hlen
  have h1 := hg 1 _ rfl
  rw [List.getElem?_eq_getElem (by omega)] at h1
  subst ho
  obtain ⟨z, hz, -, hw⟩ := DataW.trod_int Opens3.int3 h1
  have e : [Value.int .i64 o.id] = [Value.int .i64 z] := hz
  have e2 : o.id = z := by simpa using e
  rw [e2]
  exact hw
set_option maxRecDepth 100000 in
theorem reads_op {a : Option Addr} {len cap : Nat} {d : DataW H} {p : List MemPlace}
    (h : DataW.Trod enc Try.prog w base spare held 58 (.slice a len cap) d p) : ∃ l, OpRow w a len l := by
  obtain ⟨fuel, hf⟩ := h
  rcases open_slice Try.underlying58 hf with ⟨hcs, _⟩ | ⟨a', len', cap', m, n, D, Pl, hcs, hb, hl, hm, hmm, hx, hi⟩
  · simp [Value.cells] at hcs
    obtain ⟨rfl, rfl, rfl⟩ := hcs
    exact ⟨[], rfl, by unfold maxLen; omega, fun i s hs => by simp at hs⟩
  · simp [Value.cells] at hcs
    obtain ⟨rfl, rfl, rfl⟩ := hcs
    have hC : Try.prog.cellsOf 55 = 11 := by kernel_rfl
    obtain ⟨l, hlen, hq⟩ := list_of (α := OpR) (Q := fun i x => (Lit.int .i64 x.i).wf = true ∧ ∃ a, some a' = some a ∧ w.cell? (a.add (i * 11)) = some (.int .i64 x.k) ∧ ∀ (j : Nat) (u : Value), 0 < j → x.arr[j]? = some u → w.cell? ⟨(a.add (i * 11)).block, (a.add (i * 11)).off + j, none⟩ = some u) len (fun i hil => by
      obtain ⟨cs', hc, ht'⟩ := hi i (by split at hmm <;> omega)
      rw [hC] at hc
      obtain ⟨_, hcl, hat⟩ := World.cells?_some hc
      have hcl' : cs'.length = 11 := by simpa using hcl
      obtain ⟨o, ho⟩ := Opens3.op_ints cs' hcl' _ _ ht'
      have hat' : ∀ j, j < 11 → w.cell? ((a'.add (i * 11)).add j) = o.cells.toList[j]? := fun j hj => by rw [← ho]; exact hat j (by omega)
      refine ⟨toR o, op_wf cs' hcl' _ _ ht' o ho, a', rfl, ?_, fun j u hj hu => ?_⟩
      · have := hat' 0 (by omega)
        rw [Go.Deep.add_add] at this
        exact this
      · have hj11 : j < 11 := by
          have := (Array.getElem?_eq_some_iff.1 hu).1
          exact this
        have := hat' j hj11
        rw [add_pos _ hj] at this
        rw [this, ← hu, toR_arr]
        simp)
    exact ⟨l, hlen, by omega, hq⟩
end
end Go.Proofs.Ytodgbpggkikbcaa.Opens5
