/- Ranges: the laws. -/
import Derived.Test.YtoolflmaaooplaaMO
namespace Go.Proofs.Ytoolflmaaooplaa
section
set_option linter.unusedVariables false
set_option linter.unusedSimpArgs false
open Go.RowKit Go.Maps Go.Sort Go.Lib Go.Shelf Go.Proofs.YtoolflmaaooplaaW.PrintWords Go.Proofs.YtoolflmaaooplaaW.PrintLast Go.Proofs.YtoolflmaaooplaaW.PrintMore FLib

theorem delF_sub : ∀ (Q : List Lk) (T : Tb) (out : List Int), (delF T out Q).2.Sublist Q
  | [], _, _ => List.Sublist.refl _
  | x :: Q, T, out => by
    unfold delF
    split
    · exact (delF_sub Q _ _).cons _
    · exact (delF_sub Q _ _).cons_cons _
theorem delF_pred {P : Tb → Prop} : ∀ (Q : List Lk) (T : Tb) (out : List Int), (∀ T x, x ∈ Q → grB T x = true → P T → P (grT T x)) → P T → P (delF T out Q).1.1
  | [], _, _, _, h => h
  | x :: Q, T, out, hs, h => by
    unfold delF
    split
    · rename_i hg
      exact delF_pred Q _ _ (fun T y hy => hs T y (List.mem_cons_of_mem _ hy)) (hs T x (List.mem_cons_self ..) hg h)
    · exact delF_pred Q _ _ (fun T y hy => hs T y (List.mem_cons_of_mem _ hy)) h
theorem scanF_sub : ∀ (n : Nat) (T : Tb) (out : List Int) (Q : List Lk), (scanF n T out Q).2.Sublist Q
  | 0, _, _, _ => List.Sublist.refl _
  | n + 1, T, out, Q => by
    unfold scanF
    split
    · exact (scanF_sub n _ _ _).trans (delF_sub Q T out)
    · exact delF_sub Q T out
theorem scanF_pred {P : Tb → Prop} : ∀ (n : Nat) (T : Tb) (out : List Int) (Q : List Lk), (∀ T x, x ∈ Q → grB T x = true → P T → P (grT T x)) → P T → P (scanF n T out Q).1.1
  | 0, _, _, _, _, h => h
  | n + 1, T, out, Q, hs, h => by
    unfold scanF
    split
    · exact scanF_pred n _ _ _ (fun T y hy => hs T y ((delF_sub Q _ _).subset hy)) (delF_pred Q T out hs h)
    · exact delF_pred Q T out hs h
/-- The owners of a table. -/
def OwnIn (T : Tb) (Q : List Lk) (S : Int → Prop) : Prop := (∀ z ∈ T, S z.1) ∧ ∀ y ∈ Q, S y.own
theorem mem_canc {Q : List Lk} (hn : (Q.map (·.own)).Nodup) {o : Int} {y : Lk} (h : y ∈ cancQ Q o) : y ∈ Q ∧ y.own ≠ o := by
  unfold cancQ at h
  split at h
  · rename_i hf
    refine ⟨List.mem_of_mem_eraseIdx h, fun e => ?_⟩
    obtain ⟨i, hi⟩ := List.mem_iff_getElem?.1 h
    have h1 := List.findIdx_getElem (p := fun l : Lk => l.own == o) (xs := Q) (w := hf)
    have hk : Q[fdI Q o]? = some Q[fdI Q o] := List.getElem?_eq_getElem hf
    have hko : (Q[fdI Q o]).own = o := by
      have h2 : (Q[fdI Q o].own == o) = true := h1
      simpa using h2
    rw [List.getElem?_eraseIdx] at hi
    have key : ∀ j, j ≠ fdI Q o → Q[j]? = some y → False := fun j hj hy => by
      have hj2 := (List.getElem?_eq_some_iff.1 hy).1
      have e1 : (Q.map (·.own))[j]? = some o := by rw [List.getElem?_map, hy]; exact congrArg some e
      have e2 : (Q.map (·.own))[fdI Q o]? = some o := by rw [List.getElem?_map, hk]; exact congrArg some hko
      exact hj ((List.getElem?_inj (by simpa using hj2) hn).1 (e1.trans e2.symm))
    split at hi
    · exact key i (by omega) hi
    · exact key (i + 1) (by omega) hi
  · rename_i hf
    exact ⟨h, fun e => fd_mem hf (List.mem_map.2 ⟨y, h, e⟩)⟩
theorem drop_own {T : Tb} {Q : List Lk} {S : Int → Prop} (h : OwnIn T Q S) (hn : (Q.map (·.own)).Nodup) (o : Int) : OwnIn (dropF T Q o).1.1 (dropF T Q o).2 (fun k => S k ∧ k ≠ o) := by
  have hq : ∀ y ∈ cancQ Q o, S y.own ∧ y.own ≠ o := fun y hy => ⟨h.2 y (mem_canc hn hy).1, (mem_canc hn hy).2⟩
  unfold dropF
  refine ⟨scanF_pred (P := fun T => ∀ z ∈ T, S z.1 ∧ z.1 ≠ o) _ _ _ _ (fun T x hx _ hT z hz => ?_) (fun z hz => ⟨h.1 z (mem_tDel.1 hz).1, (mem_tDel.1 hz).2⟩), fun y hy => hq y ((scanF_sub _ _ _ _).subset hy)⟩
  rcases mem_tPut hz with ⟨rfl, -⟩ | ⟨hz, -⟩
  · exact hq x hx
  · exact hT z hz
/-- The owners that are still to be dropped. -/
theorem own_start {T : Tb} {Q : List Lk} (hT : TOk T) : OwnIn T Q (fun o => ∃ y ∈ tGran T ++ Q, y.own = o) := by
  refine ⟨fun z hz => ?_, fun y hy => ⟨y, List.mem_append_right _ hy, rfl⟩⟩
  obtain ⟨s, l, hs⟩ : ∃ s l, z.2 = s :: l := by
    have := hT.ne z hz
    cases hc : z.2 with
    | nil => rw [hc] at this; simp at this
    | cons s l => exact ⟨s, l, rfl⟩
  exact ⟨lockI s z.1, List.mem_append_left _ (mem_gran.2 ⟨z, hz, s, by rw [hs]; exact List.mem_cons_self .., rfl⟩), rfl⟩
theorem own_step {T : Tb} {Q M : List Lk} {k : Nat} {x : Lk} (h : OwnIn T Q (fun o => ∃ y ∈ M.drop k, y.own = o)) (hn : (Q.map (·.own)).Nodup) (hx : M[k]? = some x) :
    OwnIn (dropF T Q x.own).1.1 (dropF T Q x.own).2 (fun o => ∃ y ∈ M.drop (k + 1), y.own = o) := by
  have hd := drop_own h hn x.own
  have : ∀ o, ((∃ y ∈ M.drop k, y.own = o) ∧ o ≠ x.own) → ∃ y ∈ M.drop (k + 1), y.own = o := by
    rintro o ⟨⟨y, hy, rfl⟩, hne⟩
    obtain ⟨hlt, hk⟩ := List.getElem?_eq_some_iff.1 hx
    rw [List.drop_eq_getElem_cons hlt, hk] at hy
    rcases List.mem_cons.1 hy with rfl | hy
    · exact absurd rfl hne
    · exact ⟨y, hy, rfl⟩
  exact ⟨fun z hz => this _ (hd.1 z hz), fun y hy => this _ (hd.2 y hy)⟩
theorem own_end {T : Tb} {Q M : List Lk} (h : OwnIn T Q (fun o => ∃ y ∈ M.drop M.length, y.own = o)) : T = [] ∧ Q = [] := by
  rw [List.drop_length] at h
  constructor
  · cases T with
    | nil => rfl
    | cons z T => obtain ⟨y, hy, -⟩ := h.1 z (List.mem_cons_self ..); cases hy
  · cases Q with
    | nil => rfl
    | cons y Q => obtain ⟨y, hy, -⟩ := h.2 y (List.mem_cons_self ..); cases hy

/-- A range that lies off every span still does when spans that touch are joined. -/
theorem join_off {S : Sp} (hS : S.lo < S.hi) {l : List Sp} (hl : ∀ s ∈ l, s.lo < s.hi) (h : Off S l) : Off S (joinP l) := by
  have key : ∀ (l out : List Sp), (∀ s ∈ l, s.lo < s.hi) → (∀ s ∈ out, s.lo < s.hi) → Off S l → Off S out → Off S (l.foldl joinS out) := by
    intro l
    induction l with
    | nil => intro out _ _ _ ho; exact ho
    | cons s l ih =>
      intro out hl ho h1 h2
      have hs1 := hl s (List.mem_cons_self ..)
      have hs2 := h1 s (List.mem_cons_self ..)
      have hcat : Off S (out ++ [s]) ∧ ∀ t ∈ out ++ [s], t.lo < t.hi := ⟨fun t ht => by
        rcases List.mem_append.1 ht with ht | ht
        · exact h2 t ht
        · rw [List.mem_singleton.1 ht]; exact hs2, fun t ht => by
        rcases List.mem_append.1 ht with ht | ht
        · exact ho t ht
        · rw [List.mem_singleton.1 ht]; exact hs1⟩
      have hstep : Off S (joinS out s) ∧ ∀ t ∈ joinS out s, t.lo < t.hi := by
        rcases List.eq_nil_or_concat out with rfl | ⟨A, z, rfl⟩
        · exact hcat
        · rw [List.concat_eq_append] at *
          rw [joinS_some]
          split
          · rename_i hc
            have he : z.hi = s.lo := by
              simp only [Bool.and_eq_true, beq_iff_eq] at hc; exact hc.1
            have z1 := ho z (by simp)
            have z2 := h2 z (by simp)
            refine ⟨fun t ht => ?_, fun t ht => ?_⟩
            · rcases List.mem_append.1 ht with ht | ht
              · exact h2 t (List.mem_append_left _ ht)
              · rw [List.mem_singleton.1 ht]; dsimp only; omega
            · rcases List.mem_append.1 ht with ht | ht
              · exact ho t (List.mem_append_left _ ht)
              · rw [List.mem_singleton.1 ht]; dsimp only; omega
          · exact hcat
      exact ih _ (fun t ht => hl t (List.mem_cons_of_mem _ ht)) hstep.2 (fun t ht => h1 t (List.mem_cons_of_mem _ ht)) hstep.1
  exact key l [] hl (by simp) h (fun t ht => by cases ht)
theorem rsp_off {l : List Sp} (h : SpOk l) {S : Sp} (hS : S.lo < S.hi) : Off S (rSp l S.lo S.hi) := by
  unfold rSp
  exact join_off hS (fun s hs => (((cut_ok h (by omega)).each s hs).2.1)) cut_off
/-- Behind Release none of the owner's spans meets the range. -/
theorem rel_off {B : Nat} {T : Tb} {Q : List Lk} (h : GI B T Q) (hB : B ≤ 180) {x : Lk} (hw : (Lit.int .i64 x.own).wf = true) (hx : okL x.own x.st x.len = true) (hq : ∀ y ∈ Q, y.own ≠ x.own) :
    (relF T Q x.own x.st x.len).1.2 = 0 ∧ (tGran (relF T Q x.own x.st x.len).2.1).any (hitJ x) = false := by
  have ha := h.inv.at x.own
  have hle := endI_le hx
  have h1 := rSp_len ha.1 hle
  have h2 := tAll_del h.inv.ok.sort x.own
  have h3 := h.size
  have hrn : relN T x.own x.st x.len ≤ tAll T + 1 := by unfold relN; omega
  have hinv := (h.rel hB x.own x.st x.len hw).2.inv
  unfold relF at hinv ⊢
  rw [if_neg (by rw [hx]; simp), if_neg (by omega)] at hinv ⊢
  refine ⟨rfl, ?_⟩
  have hsp := okL_span hx
  have hP : ∀ z ∈ (scanF (Q.length + 1) (relT T x.own x.st x.len) [] Q).1.1, z.1 = x.own → Off (spanI x) z.2 := by
    refine scanF_pred (P := fun T => ∀ z ∈ T, z.1 = x.own → Off (spanI x) z.2) _ _ _ _ (fun T y hy _ hT z hz he => ?_) (fun z hz he => ?_)
    · rcases mem_tPut hz with ⟨rfl, -⟩ | ⟨hz, -⟩
      · exact absurd he (hq y hy)
      · exact hT z hz he
    · rcases mem_tPut hz with ⟨rfl, -⟩ | ⟨-, hne⟩
      · exact rsp_off ha.1 (S := spanI x) hsp.2.1
      · exact absurd he hne
  rw [List.any_eq_false]
  intro y hy
  obtain ⟨z, hz, s, hs, rfl⟩ := mem_gran.1 hy
  unfold hitJ
  by_cases he : z.1 = x.own
  · have ho := hP z hz he s hs
    have hf := hinv.spfit hz hs
    have hfx := fit_span hx
    rw [endj_lock hf, endj_ok hx]
    have e1 : decide ((lockI s z.1).st < hh (endI x.st x.len)) = decide (s.lo < (spanI x).hi) := by rw [decide_eq_decide]; exact hh_lt hf.1.1 hfx.2
    have e2 : decide (x.st < hh s.hi) = decide ((spanI x).lo < s.hi) := by rw [decide_eq_decide]; exact hh_lt hfx.1 hf.1.2
    rw [e1, e2]
    simp only [Bool.and_eq_true, decide_eq_true_eq, not_and]
    intro _ _
    omega
  · have : ((lockI s z.1).own == x.own) = false := by
      show (z.1 == x.own) = false
      simpa using he
    rw [this]; simp
end
section
set_option linter.unusedVariables false
set_option linter.unusedSimpArgs false
open Go.RowKit Go.Maps Go.Sort Go.Lib Go.Shelf Go.Proofs.YtoolflmaaooplaaW.PrintWords Go.Proofs.YtoolflmaaooplaaW.PrintLast Go.Proofs.YtoolflmaaooplaaW.PrintMore FLib
attribute [local go_sem] below_alloc_T below_drew_T below_drewN_T

/-- The program's table, and a block g that is none of its own. -/
structure PM (W0 W : World) (p mb g : Nat) (T : Tb) (Q : List Lk) : Prop where
  tg : ∃ qv G, TG W p mb qv G Q ∧ plainG G = T ∧ ∀ k, qv.ownBlock = some k → W0.heap.size ≤ k ∧ k ≠ g
  lo : W0.heap.size ≤ p ∧ W0.heap.size ≤ mb
  ne : p ≠ g ∧ mb ≠ g
theorem PT.toM {W0 W : World} {p mb B g : Nat} {T : Tb} {Q : List Lk} (h : PT W0 W p mb B T Q) (hg : B ≤ g) : PM W0 W p mb g T Q := by
  obtain ⟨qv, G, hT, hG, hq⟩ := h.tg
  exact ⟨⟨qv, G, hT, hG, fun k hk => ⟨(hq k hk).1, by have := (hq k hk).2; omega⟩⟩, h.lo, by have := h.up; omega, by have := h.up; omega⟩
theorem PM.toT {W0 W : World} {p mb g : Nat} {T : Tb} {Q : List Lk} (h : PM W0 W p mb g T Q) : PT W0 W p mb W.heap.size T Q := by
  obtain ⟨qv, G, hT, hG, hq⟩ := h.tg
  exact ⟨⟨qv, G, hT, hG, fun k hk => ⟨(hq k hk).1, hT.own_lt (.inr (.inr (.inl hk)))⟩⟩, h.lo, hT.own_lt (.inl rfl), hT.own_lt (.inr (.inl rfl))⟩
theorem PM.below {W0 W W' : World} {p mb g : Nat} {T : Tb} {Q : List Lk} (h : PM W0 W p mb g T Q) (hb : Below W.heap.size W W') : PM W0 W' p mb g T Q := by
  obtain ⟨qv, G, hT, hG, hq⟩ := h.tg
  exact ⟨⟨qv, G, hT.below hb, hG, hq⟩, h.lo, h.ne⟩
theorem drop_m {W0 W : World} {p mb g Bd : Nat} {T : Tb} {Q : List Lk} (hI : GI Bd T Q) (hB : Bd ≤ 180) (o : Int) (hw : (Lit.int .i64 o).wf = true) (hg : g < W.heap.size) (h : PM W0 W p mb g T Q) :
    Calls Try.prog 13 #[.pointer (some ⟨p, 0, none⟩), .int .i64 o] W fun e w' => ∃ u, e = .returned u ∧ PM W0 w' p mb g (dropF T Q o).1.1 (dropF T Q o).2 ∧ Keeps W w' (fun k => W0.heap.size ≤ k ∧ k ≠ g) := by
  obtain ⟨qv, G, hT, hG, hq⟩ := h.tg
  have hsz := hI.size
  refine (drop_any p mb qv G T Q hI.inv.ok (by omega) hI.qok hG o hw W hT).mono fun e w' ⟨u, qv', G', he, hT', hG', hr, hq', hk⟩ => ⟨u, he, ⟨⟨qv', G', hT', hG', fun k hk' => ?_⟩, h.lo, h.ne⟩, hk.mono fun k hf => ?_⟩
  · rcases qvok_own hq' with e | e
    · rw [e] at hk'; cases hk'
    · exact hq k (e ▸ hk')
  · rcases hf with rfl | rfl | hf
    · exact ⟨h.lo.1, h.ne.1⟩
    · exact ⟨h.lo.2, h.ne.2⟩
    · exact hq k hf
/-- Set without waiting: refused with a reason, or granted. -/
theorem set_cases {B : Nat} {T : Tb} {Q : List Lk} (h : GI B T Q) (x : Lk) :
    (∃ n : Int, (n == 0) = false ∧ (setF T Q x false).1.1 = false ∧ (setF T Q x false).1.2.2 = n) ∨
    ((setF T Q x false).1.1 = true ∧ (setF T Q x false).1.2.2 = 0 ∧ okL x.own x.st x.len = true ∧ ∀ y ∈ (setF T Q x false).2.2, y.own ≠ x.own) := by
  unfold setF
  split
  · exact .inl ⟨34, rfl, rfl, rfl⟩
  · rename_i h1
    split
    · exact .inl ⟨5, rfl, rfl, rfl⟩
    · rename_i h2
      split
      · split
        · refine .inr ⟨rfl, rfl, by simpa using h1, fun y hy e => ?_⟩
          exact fd_mem h2 (List.mem_map.2 ⟨y, (scanF_sub _ _ _ _).subset hy, e⟩)
        · exact .inl ⟨18, rfl, rfl, rfl⟩
      · exact .inl ⟨2, rfl, rfl, rfl⟩
theorem gran_nil {T : Tb} {Q : List Lk} (h : T = [] ∧ Q = []) : (tGran T).length = 0 ∧ Q.length = 0 := by rw [h.1, h.2]; exact ⟨rfl, rfl⟩
theorem wf_all {B : Nat} {T : Tb} {Q : List Lk} (h : GI B T Q) : ∀ y ∈ tGran T ++ Q, (Lit.int .i64 y.own).wf = true := by
  intro y hy
  rcases List.mem_append.1 hy with hy | hy
  · obtain ⟨z, hz, s, hs, rfl⟩ := mem_gran.1 hy
    exact h.inv.ok.wf z hz
  · exact (h.qok y hy).2
theorem gran_len (T : Tb) : (tGran T).length = tAll T := by
  unfold tGran tAll
  induction T with
  | nil => rfl
  | cons z T ih => rw [List.flatMap_cons, List.length_append, List.length_map, ih, List.map_cons, List.sum_cons]
end
end Go.Proofs.Ytoolflmaaooplaa
