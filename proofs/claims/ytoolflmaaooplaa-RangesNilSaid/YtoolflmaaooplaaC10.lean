/- A region that draws its order, whatever it does, in a round of a loop over a function: an invariant of what has been done serves every order. -/
import Derived.Test.YtoolflmaaooplaaC9
import Derived.OrdersIn
namespace Go.Proofs.Ytoolflmaaooplaa
set_option linter.unusedVariables false
set_option linter.unusedSimpArgs false
section
variable {F : Fence} {n : Nat} {P : Program} {ops : Array Oper} {Q : Exit → Act → World → Prop}

theorem any_inv (I : Nat → Array Bool → Act → World → Prop) (hz : ∀ listed a w, I 0 listed a w → Region.ready .any ops listed = [])
    (hq : ∀ fuel listed a w, I fuel listed a w → Region.ready .any ops listed = [] → Q .normal a w)
    (hs : ∀ fuel listed a w i, I (fuel + 1) listed a w → i ∈ Region.ready .any ops listed → wpOpIn F n P ops Q i (I fuel (listed.setIfInBounds i true)) a w) :
    ∀ fuel listed a w, I fuel listed a w → wpAnyIn F n P .any ops Q fuel listed a w
  | 0, listed, a, w, h => ⟨hz _ _ _ h, hq _ _ _ _ h (hz _ _ _ h)⟩
  | fuel + 1, listed, a, w, h => ⟨hq _ _ _ _ h, fun i hi => wpOpIn_mono (any_inv I hz hq hs fuel _) (hs fuel listed a w i h hi)⟩

/-- What an operation waits for. -/
def depsOf (ops : Array Oper) (i : Nat) : List Nat := match ops[i]? with | some o => (o.after.toList.filter (fun e => Region.binds .any e)).map (·.on) | none => []
/-- Has it been done? -/
def don (listed : Array Bool) (i : Nat) : Bool := listed.getD i false
theorem ready_deps {listed : Array Bool} {i : Nat} (h : i ∈ Region.ready .any ops listed) : listed.getD i true = false ∧ i < ops.size ∧ ∀ d ∈ depsOf ops i, don listed d = true := by
  obtain ⟨h1, o, ho, h2⟩ := mem_ready.1 h
  refine ⟨h1, (Array.getElem?_eq_some_iff.1 ho).1, fun d hd => ?_⟩
  unfold depsOf at hd
  rw [ho] at hd
  obtain ⟨e, he, rfl⟩ := List.mem_map.1 hd
  rw [List.mem_filter] at he
  exact h2 e (by simpa using he.1) he.2
theorem deps_ready {listed : Array Bool} {i : Nat} (h1 : listed.getD i true = false) (hi : i < ops.size) (h : ∀ d ∈ depsOf ops i, don listed d = true) : i ∈ Region.ready .any ops listed := by
  refine mem_ready.2 ⟨h1, ops[i], Array.getElem?_eq_getElem hi, fun e he hb => h e.on ?_⟩
  unfold depsOf
  rw [Array.getElem?_eq_getElem hi]
  exact List.mem_map.2 ⟨e, by rw [List.mem_filter]; exact ⟨by simpa using he, hb⟩, rfl⟩
/-- Nothing is ready: all has been done. -/
theorem all_done {listed : Array Bool} (hd : (List.range ops.size).all (fun j => (depsOf ops j).all (fun d => decide (d < j))) = true) (hs : listed.size = ops.size) (h : Region.ready .any ops listed = []) : ∀ i, i < ops.size → don listed i = true := by
  intro i
  induction i using Nat.strongRecOn with
  | _ i ih =>
    intro hi
    cases hx : don listed i with
    | true => rfl
    | false =>
      have : i ∈ Region.ready .any ops listed := deps_ready (by unfold don at hx; simp [hs, hi] at hx ⊢; exact hx) hi (fun d hd' => by
        have h1 := List.all_eq_true.1 hd i (List.mem_range.2 hi)
        have h2 := List.all_eq_true.1 h1 d hd'
        have h3 := of_decide_eq_true h2
        exact ih d h3 (by omega))
      rw [h] at this
      cases this
/-- How much is left to be done. -/
def leftN (listed : Array Bool) : Nat := listed.toList.countP (fun b => !b)
theorem leftN_set {listed : Array Bool} {i : Nat} (h : listed.getD i true = false) : leftN (listed.setIfInBounds i true) + 1 = leftN listed := by
  have hi : i < listed.size := by
    rcases Nat.lt_or_ge i listed.size with h' | h'
    · exact h'
    · simp [h'] at h
  have hv : listed.toList[i]'(by simpa using hi) = false := by simpa [hi] using h
  unfold leftN
  rw [Array.toList_setIfInBounds, List.countP_set (h := by simpa using hi), hv]
  have : 0 < listed.toList.countP (fun b => !b) := List.countP_pos_iff.2 ⟨false, by rw [← hv]; exact List.getElem_mem _, rfl⟩
  simp only [Bool.not_false, Bool.not_true, if_true, Bool.false_eq_true, if_false]
  omega
theorem leftN_zero {listed : Array Bool} (h : leftN listed = 0) : Region.ready .any ops listed = [] := by
  rw [List.eq_nil_iff_forall_not_mem]
  intro i hi
  have h1 := (ready_deps hi).1
  have := leftN_set h1
  omega
theorem don_set {listed : Array Bool} {i : Nat} (h : listed.getD i true = false) (j : Nat) : don (listed.setIfInBounds i true) j = if j = i then true else don listed j := by
  have hi : i < listed.size := by
    rcases Nat.lt_or_ge i listed.size with h' | h'
    · exact h'
    · simp [h'] at h
  unfold don
  by_cases e : j = i
  · subst e; simp [hi]
  · rw [if_neg e]
    simp [Array.getElem?_setIfInBounds_ne (Ne.symm e), Array.getD_eq_getD_getElem?]
theorem not_don {listed : Array Bool} {i : Nat} (h : listed.getD i true = false) : don listed i = false := by
  unfold don
  rcases Nat.lt_or_ge i listed.size with h' | h'
  · simp [h'] at h ⊢; exact h
  · simp [h']

/-- An operation that gives a value, in whatever world. -/
theorem step_value {i : Nat} {o : Oper} {a : Act} {w w' : World} {K : Act → World → Prop} {v : Value} (ho : ops[i]? = some o) (hg : o.guard = none) (hs : o.semAt F.round a.eval = execOp a.eval o) (hF : ∀ f, F.fn f)
    (hr : (execOp a.eval o).run P w = .ok (.value v) w') (h : K (a.put o.dst v) w') : wpOpIn F n P ops Q i K a w := by
  unfold wpOpIn
  rw [ho]
  dsimp only
  rw [if_pos (by simp [Region.wanted, hg])]
  exact ⟨fun f _ => hF f, by rw [hs, hr]; exact h⟩
theorem step_skip {i : Nat} {o : Oper} {a : Act} {w w' : World} {K : Act → World → Prop} (ho : ops[i]? = some o) (hg : o.guard = none) (hs : o.semAt F.round a.eval = execOp a.eval o) (hF : ∀ f, F.fn f)
    (hr : (execOp a.eval o).run P w = .ok .skip w') (h : K (a.put o.dst undef) w') : wpOpIn F n P ops Q i K a w := by
  unfold wpOpIn
  rw [ho]
  dsimp only
  rw [if_pos (by simp [Region.wanted, hg])]
  exact ⟨fun f _ => hF f, by rw [hs, hr]; exact h⟩
theorem step_call {i : Nat} {o : Oper} {a : Act} {w w' : World} {K : Act → World → Prop} {f : FuncId} {args : Array Value} {R : Ending → World → Prop} (ho : ops[i]? = some o) (hg : o.guard = none) (hs : o.semAt F.round a.eval = execOp a.eval o) (hF : ∀ f, F.fn f)
    (hr : (execOp a.eval o).run P w = .ok (.enter f args) w') (hn : 1 ≤ n) (hc : CallsIn F (n - 1) P f args w' R) (h : ∀ e w'', R e w'' → ∃ v, e = .returned v ∧ K (a.put o.dst v) w'') : wpOpIn F n P ops Q i K a w := by
  unfold wpOpIn
  rw [ho]
  dsimp only
  rw [if_pos (by simp [Region.wanted, hg])]
  refine ⟨fun f _ => hF f, ?_⟩
  rw [hs, hr]
  exact ⟨fun _ => hn, hc.mono fun e w'' hR => by obtain ⟨v, rfl, hk⟩ := h e w'' hR; exact hk⟩
theorem eval_put {a : Act} {d : Nat} (hd : d < a.tmps.size) (v : Value) (s : Nat) : (a.put (some d) v).eval (.tmp s) = if s = d then v else a.eval (.tmp s) := by
  unfold Act.put Act.eval
  by_cases e : s = d
  · subst e; simp [hd]
  · rw [if_neg e]
    simp [Array.getElem?_setIfInBounds_ne (Ne.symm e), Array.getD_eq_getD_getElem?]
theorem size_put (a : Act) (d : Option Nat) (v : Value) : (a.put d v).tmps.size = a.tmps.size := by
  unfold Act.put
  cases d <;> simp
end
end Go.Proofs.Ytoolflmaaooplaa
