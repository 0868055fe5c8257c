/- ResponseMeasures in plain lists. -/
import Derived.Test.YtmbfnhnemhojjaaM1
namespace Go.Proofs.Ytmbfnhnemhojjaa
set_option linter.unusedVariables false
set_option linter.unusedSimpArgs false
open Go.RowKit Go.Proofs.YtmbfnhnemhojjaaW.PrintWords Go.Proofs.YtmbfnhnemhojjaaW.PrintLast Go.Proofs.YtmbfnhnemhojjaaW.PrintMore PResponseCosts FLib

def isRel (i : Int) (x : S33) : Bool := decide (x.f1 = 6) && decide (x.f4 = i)
def isCom (i last : Int) (x : S33) : Bool := decide (x.f1 = 1) && (decide (x.f3 = i) && (decide (x.f4 = 0) && decide (x.f5 = last)))
def relOf (i : Int) (x : S33) : List Int := if isRel i x = true then List.replicate (x.f5.toNat + 1) x.f0 else []
def comOf (i last : Int) (x : S33) : List Int := if isCom i last x = true then [x.f0] else []
def relL (i : Int) (tr : List S33) : List Int := tr.flatMap (relOf i)
def comL (i last : Int) (tr : List S33) : List Int := tr.flatMap (comOf i last)
theorem flat_snoc {f : S33 → List Int} {tr : List S33} {k : Nat} (h : k < tr.length) : (tr.take (k + 1)).flatMap f = (tr.take k).flatMap f ++ f (tk tr k) := by
  rw [List.take_add_one, tk_get h, List.flatMap_append]; simp
theorem com_le (i last : Int) (tr : List S33) : (comL i last tr).length ≤ tr.length := by
  unfold comL
  induction tr with
  | nil => simp
  | cons x tr ih =>
    rw [List.flatMap_cons, List.length_append, List.length_cons]
    have : (comOf i last x).length ≤ 1 := by unfold comOf; split <;> simp
    omega
/-- One completion more. -/
def respS (rel : List Int) (s : Nat × Option Int) (c : Int) : Nat × Option Int :=
  (s.1 + 1, s.2.bind fun m => if s.1 < rel.length ∧ ¬ c < rel.getD s.1 0 then some (mx2 m (c - rel.getD s.1 0 + 1)) else none)
def respF (rel com : List Int) : Nat × Option Int := com.foldl (respS rel) (0, some 0)
theorem respF_fst (rel com : List Int) : (respF rel com).1 = com.length := by
  unfold respF
  have : ∀ (l : List Int) (s : Nat × Option Int), (l.foldl (respS rel) s).1 = s.1 + l.length := by
    intro l
    induction l with
    | nil => intro s; rfl
    | cons c l ih => intro s; rw [List.foldl_cons, ih, List.length_cons]; unfold respS; simp; omega
  rw [this]
  simp
theorem respF_snoc (rel com : List Int) (c : Int) : (respF rel (com ++ [c])).2 = (respF rel com).2.bind fun m => if com.length < rel.length ∧ ¬ c < rel.getD com.length 0 then some (mx2 m (c - rel.getD com.length 0 + 1)) else none := by
  have h := respF_fst rel com
  unfold respF at h ⊢
  rw [List.foldl_append]
  simp only [List.foldl_cons, List.foldl_nil]
  generalize com.foldl (respS rel) (0, some 0) = s at h ⊢
  unfold respS
  simp only [h]
theorem resp_none {rel : List Int} : ∀ (l : List Int) (n : Nat), (l.foldl (respS rel) (n, none)).2 = none := by
  intro l
  induction l with
  | nil => intro n; rfl
  | cons c l ih => intro n; rw [List.foldl_cons]; unfold respS; exact ih _
/-- A failed prefix fails the whole. -/
theorem respF_prefix {rel com : List Int} {k : Nat} (h : (respF rel (com.take k)).2 = none) : (respF rel com).2 = none := by
  have : com = com.take k ++ com.drop k := (List.take_append_drop k com).symm
  rw [this]
  unfold respF at h ⊢
  rw [List.foldl_append]
  generalize (com.take k).foldl (respS rel) (0, some 0) = s at h ⊢
  obtain ⟨n, o⟩ := s
  simp only at h
  subst h
  exact resp_none _ _
/-- The releases beyond the completions don't count. -/
theorem respF_cut (rel com : List Int) (T : Nat) (h : com.length ≤ T) : respF (rel.take (T + 1)) com = respF rel com := by
  unfold respF
  have : ∀ (l : List Int) (s : Nat × Option Int), s.1 + l.length ≤ T → l.foldl (respS (rel.take (T + 1))) s = l.foldl (respS rel) s := by
    intro l
    induction l with
    | nil => intro s _; rfl
    | cons c l ih =>
      intro s hs
      rw [List.length_cons] at hs
      rw [List.foldl_cons, List.foldl_cons]
      have e : respS (rel.take (T + 1)) s c = respS rel s c := by
        unfold respS
        have e1 : (rel.take (T + 1)).getD s.1 0 = rel.getD s.1 0 := by
          rw [List.getD_eq_getElem?_getD, List.getD_eq_getElem?_getD, List.getElem?_take, if_pos (by omega)]
        have e2 : s.1 < (rel.take (T + 1)).length ↔ s.1 < rel.length := by rw [List.length_take]; omega
        rw [e1]
        simp only [e2]
      rw [e]
      exact ih _ (by unfold respS; simp; omega)
  exact this com (0, some 0) (by simpa using h)
def lastI (x : S33) : Int := (plen x : Int) - 2
def resp1 (tr : List S33) (i : Nat) (x : S33) : Option Int := (respF (relL i tr) (comL i (lastI x) tr)).2
/-- The measures of the first k tasks. -/
def measK (l tr : List S33) : Nat → Option (List Int)
  | 0 => some []
  | k + 1 => (measK l tr k).bind fun out => (resp1 tr k (tk l k)).map fun m => out ++ [m]
theorem measK_len {l tr : List S33} : ∀ {k : Nat} {out : List Int}, measK l tr k = some out → out.length = k
  | 0, out, h => by unfold measK at h; injection h with h; rw [← h]; rfl
  | k + 1, out, h => by
    unfold measK at h
    cases h1 : measK l tr k with
    | none => rw [h1] at h; cases h
    | some o =>
      rw [h1] at h
      cases h2 : resp1 tr k (tk l k) with
      | none => rw [h2] at h; cases h
      | some m =>
        rw [h2] at h
        simp at h
        rw [← h, List.length_append, measK_len h1]
        rfl
theorem measK_none {l tr : List S33} : ∀ {j k : Nat}, j ≤ k → measK l tr j = none → measK l tr k = none
  | j, k, hle, h => by
    induction k with
    | zero =>
      have : j = 0 := by omega
      subst this
      exact h
    | succ k ih =>
      by_cases e : j = k + 1
      · subst e; exact h
      · unfold measK
        rw [ih (by omega)]
        rfl
/-- A measure that came out: no more completions than releases. -/
theorem resp_len {rel : List Int} : ∀ {com : List Int} {m : Int}, (respF rel com).2 = some m → com.length ≤ rel.length := by
  intro com
  rcases List.eq_nil_or_concat com with rfl | ⟨c', x, rfl⟩
  · intro m _; simp
  · intro m h
    rw [List.concat_eq_append, respF_snoc] at h
    cases h1 : (respF rel c').2 with
    | none => rw [h1] at h; cases h
    | some m' =>
      rw [h1] at h
      simp only [Option.bind_some] at h
      split at h
      · rename_i hc
        rw [List.concat_eq_append, List.length_append, List.length_singleton]
        omega
      · cases h
theorem com_prefix (i la : Int) (tr : List S33) (n : Nat) : (comL i la tr).take (comL i la (tr.take n)).length = comL i la (tr.take n) := by
  have : comL i la tr = comL i la (tr.take n) ++ comL i la (tr.drop n) := by
    unfold comL
    rw [← List.flatMap_append, List.take_append_drop]
  rw [this, List.take_left]
theorem meas_fail {l tr : List S33} {k n : Nat} {la : Int} {RL : List Int} (hk : k < l.length) (hla : lastI (tk l k) = la) (hrl : (relL (k : Int) tr).take (tr.length + 1) = RL) (h : (respF RL (comL (k : Int) la (tr.take n))).2 = none) :
    measK l tr l.length = none := by
  refine measK_none (j := k + 1) (by omega) ?_
  unfold measK
  have h2 : resp1 tr k (tk l k) = none := by
    unfold resp1
    rw [hla, ← respF_cut _ _ tr.length (com_le _ _ _), hrl]
    exact respF_prefix (k := (comL (k : Int) la (tr.take n)).length) (by rw [com_prefix]; exact h)
  rw [h2]
  cases measK l tr k <;> rfl
theorem meas_next {l tr : List S33} {k : Nat} {la mm : Int} {RL ms : List Int} (hla : lastI (tk l k) = la) (hrl : (relL (k : Int) tr).take (tr.length + 1) = RL) (hm : measK l tr k = some ms) (h : (respF RL (comL (k : Int) la tr)).2 = some mm) :
    measK l tr (k + 1) = some (ms ++ [mm]) := by
  unfold measK
  have h2 : resp1 tr k (tk l k) = some mm := by
    unfold resp1
    rw [hla, ← respF_cut _ _ tr.length (com_le _ _ _), hrl]
    exact h
  rw [hm, h2]
  rfl
end Go.Proofs.Ytmbfnhnemhojjaa
