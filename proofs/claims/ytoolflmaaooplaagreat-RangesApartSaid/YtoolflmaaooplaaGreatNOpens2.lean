/- Arguments opened: a list of acts. -/
import Derived.Test.YtoolflmaaooplaaGreatMM
import Derived.Test.YtoolflmaaooplaaGreatNOpens1
namespace Go.Proofs.YtoolflmaaooplaaGreat.Opens2
set_option linter.unusedVariables false
set_option linter.unusedSimpArgs false
open Go.Joins Go.ChangeShapes Go.WideShapes Go.RowKit Go.Deep Go.Proofs.YtoolflmaaooplaaGreatW.PrintWords Opens1

theorem list_of {α : Type} {Q : Nat → α → Prop} : ∀ (n : Nat), (∀ i, i < n → ∃ x, Q i x) → ∃ l : List α, l.length = n ∧ ∀ (i : Nat) (x : α), l[i]? = some x → Q i x
  | 0, _ => ⟨[], rfl, fun i x h => by simp at h⟩
  | n + 1, h => by
    obtain ⟨l, hl, hq⟩ := list_of n (fun i hi => h i (by omega))
    obtain ⟨x, hx⟩ := h n (by omega)
    refine ⟨l ++ [x], by simp [hl], fun i y hy => ?_⟩
    rcases Nat.lt_or_ge i n with hlt | hge
    · rw [List.getElem?_append_left (by omega)] at hy
      exact hq i y hy
    · rw [List.getElem?_append_right (by omega)] at hy
      cases hd : i - l.length with
      | zero =>
        rw [hd] at hy
        have e : x = y := by simpa using hy
        have : i = n := by omega
        subst this; subst e
        exact hx
      | succ m => rw [hd] at hy; simp at hy
theorem add_pos (A : Addr) {j : Nat} (hj : 0 < j) : A.add j = ⟨A.block, A.off + j, none⟩ := by
  unfold Addr.add
  split
  · omega
  · rfl
/-- The acts lie in a row. -/
def ActRow (w : World) (a : Option Addr) (len : Nat) (L : List (Int × Lk)) : Prop :=
  L.length = len ∧ len ≤ maxLen ∧ ∀ (i : Nat) (x : Int × Lk), L[i]? = some x → (0 ≤ x.1 ∧ x.1 ≤ 255) ∧ (Lit.int .i64 x.2.own).wf = true ∧ ∃ A, a = some A ∧ w.cell? (A.add (i * 5)) = some (.int .u8 x.1) ∧ ∀ (j : Nat) (u : Value), 0 < j → (actC x.1 x.2)[j]? = some u → w.cell? ⟨(A.add (i * 5)).block, (A.add (i * 5)).off + j, none⟩ = some u
theorem u8_5 : Tryz.prog.underlying 5 = some (.int .u8) := by kernel_rfl
section
variable {H : Type} {enc : TypeId × Value → H} {w : World} {base : Nat} {spare : Nat → Bool} {held : Bool}
theorem one_u8 (t : TypeId) (ht : Tryz.prog.underlying t = some (.int .u8)) (l : List Value) (m o : Nat) (y : DataW H × List MemPlace) (ho : o < l.length) (h : DataW.trod enc Tryz.prog w base spare held m t ((l.drop o).take 1) = some y) : l[o] = .int .u8 (vInt l[o]) ∧ (Lit.int .u8 (vInt l[o])).wf = true := by
  rw [one_of ho] at h
  obtain ⟨z, hz, hd, hw⟩ := DataW.trod_int ht h
  simp at hz
  rw [hz]
  exact ⟨rfl, hw⟩
set_option maxRecDepth 100000 in
theorem act_of (l : List Value) (hl : l.length = 5) (m : Nat) (y : DataW H × List MemPlace) (h : DataW.trod enc Tryz.prog w base spare held m 42 l = some y) : ∃ x : Int × Lk, l = actC x.1 x.2 ∧ (0 ≤ x.1 ∧ x.1 ≤ 255) ∧ (Lit.int .i64 x.2.own).wf = true := by
  obtain ⟨xs, n, _, hx, _, hlen, hg⟩ := DataW.trod_struct Tryz.underlying42 h
  have hlen5 : xs.length = 2 := hlen
  have h0 := hg 0 _ rfl
  have h1 := hg 1 _ rfl
  rw [List.getElem?_eq_getElem (by omega)] at h0 h1
  have e0 := one_u8 5 u8_5 l _ 0 _ (by omega) h0
  obtain ⟨x, hx4, hwf, -, -⟩ := lk_of ((l.drop 1).take 4) (by simp [hl]) _ _ h1
  clear hg h0 h1 h hx
  match l, hl, e0, hx4 with
  | [c0, c1, c2, c3, c4], _, e0, hx4 =>
    simp only [List.getElem_cons_zero] at e0
    have e1 : [c1, c2, c3, c4] = x.cells := by simpa using hx4
    refine ⟨(vInt c0, x), ?_, ?_, hwf⟩
    · show [c0, c1, c2, c3, c4] = .int .u8 (vInt c0) :: x.cells
      rw [← e1, ← e0.1]
    · have hw := e0.2
      simp only [Lit.wf, Bool.and_eq_true, decide_eq_true_eq] at hw
      exact ⟨hw.1, hw.2⟩
set_option maxRecDepth 100000 in
theorem reads_act {a : Option Addr} {len cap : Nat} {d : DataW H} {p : List MemPlace}
    (h : DataW.Trod enc Tryz.prog w base spare held 22 (.slice a len cap) d p) : ∃ l, ActRow w a len l := by
  obtain ⟨fuel, hf⟩ := h
  rcases open_slice Tryz.underlying22 hf with ⟨hcs, _⟩ | ⟨a', len', cap', m, n, D, Pl, hcs, hb, hl, hm, hmm, hx, hi⟩
  · simp [Value.cells] at hcs
    obtain ⟨rfl, rfl, rfl⟩ := hcs
    exact ⟨[], rfl, by unfold maxLen; omega, fun i s hs => by simp at hs⟩
  · simp [Value.cells] at hcs
    obtain ⟨rfl, rfl, rfl⟩ := hcs
    have hC : Tryz.prog.cellsOf 42 = 5 := by kernel_rfl
    obtain ⟨l, hlen, hq⟩ := list_of (α := Int × Lk) (Q := fun i x => (0 ≤ x.1 ∧ x.1 ≤ 255) ∧ (Lit.int .i64 x.2.own).wf = true ∧ ∃ A, some a' = some A ∧ w.cell? (A.add (i * 5)) = some (.int .u8 x.1) ∧ ∀ (j : Nat) (u : Value), 0 < j → (actC x.1 x.2)[j]? = some u → w.cell? ⟨(A.add (i * 5)).block, (A.add (i * 5)).off + j, none⟩ = some u) len (fun i hil => by
      obtain ⟨cs', hc, ht'⟩ := hi i (by split at hmm <;> omega)
      rw [hC] at hc
      obtain ⟨_, hcl, hat⟩ := World.cells?_some hc
      have hcl' : cs'.length = 5 := by simpa using hcl
      obtain ⟨x, ho, hk, hw⟩ := act_of cs' hcl' _ _ ht'
      have hat' : ∀ j, j < 5 → w.cell? ((a'.add (i * 5)).add j) = (actC x.1 x.2)[j]? := fun j hj => by rw [← ho]; exact hat j (by omega)
      refine ⟨x, hk, hw, a', rfl, ?_, fun j u hj hu => ?_⟩
      · have := hat' 0 (by omega)
        rw [Go.Deep.add_add] at this
        exact this
      · have hj5 : j < 5 := (List.getElem?_eq_some_iff.1 hu).1
        have := hat' j hj5
        rw [add_pos _ hj] at this
        rw [this, ← hu])
    exact ⟨l, hlen, by omega, hq⟩
end
end Go.Proofs.YtoolflmaaooplaaGreat.Opens2
