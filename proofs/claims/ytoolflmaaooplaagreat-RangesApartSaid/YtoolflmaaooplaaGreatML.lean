/- Ranges: plain: both alike. -/
import Derived.Test.YtoolflmaaooplaaGreatMK
namespace Go.Proofs.YtoolflmaaooplaaGreat
section
set_option linter.unusedVariables false
set_option linter.unusedSimpArgs false

def hh (h : Int) : Int := if h = 1152921504606846976 then 1099511627776 else h
def pcOf (o : Int) (s : Sp) : Pc := ⟨o, s.lo, hh s.hi, s.ex⟩
def flatP (T : Tb) : List Pc := T.flatMap (fun x => x.2.map (pcOf x.1))
def FitH (h : Int) : Prop := h ≤ 32768 ∨ h = 1152921504606846976
def FitS (s : Sp) : Prop := s.lo ≤ 32768 ∧ FitH s.hi
theorem hh_lt {a h : Int} (ha : a ≤ 32768) (hf : FitH h) : a < hh h ↔ a < h := by unfold hh FitH at *; split <;> omega
theorem hh_mono {h k : Int} (hf : FitH h) (kf : FitH k) : hh h < hh k ↔ h < k := by unfold hh FitH at *; split <;> split <;> omega
theorem hh_eq {a h : Int} (ha : a ≤ 32768) (hf : FitH h) : hh h = a ↔ h = a := by unfold hh FitH at *; split <;> omega
theorem hh_id {h : Int} (hn : h ≠ 1152921504606846976) : hh h = h := by unfold hh; rw [if_neg hn]
theorem flatP_append (A B : Tb) : flatP (A ++ B) = flatP A ++ flatP B := by unfold flatP; rw [List.flatMap_append]
theorem flatP_cons (x : Int × List Sp) (B : Tb) : flatP (x :: B) = x.2.map (pcOf x.1) ++ flatP B := rfl
theorem flatP_len (T : Tb) : (flatP T).length = tAll T := by
  induction T with
  | nil => rfl
  | cons x T ih => rw [flatP_cons, List.length_append, List.length_map, ih]; unfold tAll; rw [List.map_cons, List.sum_cons]
theorem mem_flatP {T : Tb} {p : Pc} (h : p ∈ flatP T) : ∃ x ∈ T, ∃ s ∈ x.2, p = pcOf x.1 s := by
  unfold flatP at h
  obtain ⟨x, hx, hp⟩ := List.mem_flatMap.1 h
  obtain ⟨s, hs, rfl⟩ := List.mem_map.1 hp
  exact ⟨x, hx, s, hs, rfl⟩
/-- No two spans that touch and are alike. -/
def CanonP (l : List Sp) : Prop := l.Pairwise (fun a b => ¬ (a.hi = b.lo ∧ a.ex = b.ex))
theorem join_id {l : List Sp} (h : CanonP l) : joinP l = l := by
  have key : ∀ (l out : List Sp), CanonP (out ++ l) → l.foldl joinS out = out ++ l := by
    intro l
    induction l with
    | nil => intro out _; simp
    | cons s l ih =>
      intro out hc
      rw [List.foldl_cons]
      have e : joinS out s = out ++ [s] := by
        rcases List.eq_nil_or_concat out with rfl | ⟨A, z, rfl⟩
        · rfl
        · rw [List.concat_eq_append] at hc ⊢
          rw [joinS_some]
          have hz : ¬ (z.hi = s.lo ∧ z.ex = s.ex) := (List.pairwise_append.1 hc).2.2 z (by simp) s (List.mem_cons_self ..)
          rw [if_neg]
          intro hb
          simp only [Bool.and_eq_true, beq_iff_eq] at hb
          exact hz hb
      rw [e, ih (out ++ [s]) (by simpa using hc)]
      simp
  simpa [joinP] using key l [] (by simpa using h)
theorem join_canon {l : List Sp} (h : SpOk l) : CanonP (joinP l) := by
  have key : ∀ (l out : List Sp), SpOk l → CanonP out → (∀ a ∈ out, ∀ b ∈ l, a.hi ≤ b.lo) → SpOk out → CanonP (l.foldl joinS out) := by
    intro l
    induction l with
    | nil => intro out _ h _ _; exact h
    | cons s l ih =>
      intro out hl hc hb ho
      have hl1 := List.pairwise_cons.1 hl.apart
      have hs := hl.each s (List.mem_cons_self ..)
      have hl2 : SpOk l := ⟨hl1.2, fun x hx => hl.each x (List.mem_cons_of_mem _ hx)⟩
      rw [List.foldl_cons]
      rcases List.eq_nil_or_concat out with rfl | ⟨A, z, rfl⟩
      · exact ih [s] hl2 (List.pairwise_singleton _ _) (fun a ha b hb' => by rw [List.mem_singleton.1 ha]; exact hl1.1 b hb') ⟨List.pairwise_singleton _ _, fun x hx => by rw [List.mem_singleton.1 hx]; exact hs⟩
      · rw [List.concat_eq_append] at hc hb ho ⊢
        rw [joinS_some]
        have hz := ho.each z (by simp)
        have hzs := hb z (by simp) s (List.mem_cons_self ..)
        have hA := List.pairwise_append.1 ho.apart
        have hcA := List.pairwise_append.1 hc
        split
        · refine ih _ hl2 (List.pairwise_append.2 ⟨hcA.1, List.pairwise_singleton _ _, fun a ha b hb' => ?_⟩) (fun a ha b hb' => ?_) ⟨List.pairwise_append.2 ⟨hA.1, List.pairwise_singleton _ _, fun a ha b hb' => ?_⟩, fun x hx => ?_⟩
          · rw [List.mem_singleton.1 hb']
            exact hcA.2.2 a ha z (by simp)
          · rcases List.mem_append.1 ha with ha | ha
            · exact hb a (List.mem_append_left _ ha) b (List.mem_cons_of_mem _ hb')
            · rw [List.mem_singleton.1 ha]; exact hl1.1 b hb'
          · rw [List.mem_singleton.1 hb']
            exact hA.2.2 a ha z (by simp)
          · rcases List.mem_append.1 hx with hx | hx
            · exact ho.each x (List.mem_append_left _ hx)
            · rw [List.mem_singleton.1 hx]; simp only; omega
        · rename_i hne
          refine ih _ hl2 (List.pairwise_append.2 ⟨hc, List.pairwise_singleton _ _, fun a ha b hb' => ?_⟩) (fun a ha b hb' => ?_) ⟨List.pairwise_append.2 ⟨ho.apart, List.pairwise_singleton _ _, fun a ha b hb' => ?_⟩, fun x hx => ?_⟩
          · rw [List.mem_singleton.1 hb']
            rcases List.mem_append.1 ha with ha | ha
            · have h1 := hA.2.2 a ha z (by simp)
              rintro ⟨h2, -⟩
              omega
            · rw [List.mem_singleton.1 ha]
              intro h2
              exact hne (by simpa using h2)
          · rcases List.mem_append.1 ha with ha | ha
            · exact hb a ha b (List.mem_cons_of_mem _ hb')
            · rw [List.mem_singleton.1 ha]; exact hl1.1 b hb'
          · rw [List.mem_singleton.1 hb']; exact hb a ha s (List.mem_cons_self ..)
          · rcases List.mem_append.1 hx with hx | hx
            · exact ho.each x hx
            · rw [List.mem_singleton.1 hx]; exact hs
  exact key l [] h List.Pairwise.nil (by simp) ⟨List.Pairwise.nil, by simp⟩
theorem cut_canon {l : List Sp} (h : SpOk l) (hc : CanonP l) {lo hi : Int} (hlh : lo < hi) : CanonP (cutP l lo hi) := by
  unfold CanonP cutP
  rw [List.pairwise_flatMap]
  have bnd : ∀ a x, x ∈ leftP a lo ++ rightP a hi → a.lo ≤ x.lo ∧ x.hi ≤ a.hi ∧ x.ex = a.ex := by
    intro a x hx
    unfold leftP rightP at hx
    rw [List.mem_append] at hx
    rcases hx with hx | hx
    · split at hx
      · rw [List.mem_singleton] at hx; subst hx; exact ⟨by simp only; omega, by simp only; omega, rfl⟩
      · cases hx
    · split at hx
      · rw [List.mem_singleton] at hx; subst hx; exact ⟨by simp only; omega, by simp only; omega, rfl⟩
      · cases hx
  refine ⟨fun s hs => ?_, (h.apart.and hc).imp_of_mem fun {a b} ha hb hab x hx y hy => ?_⟩
  · unfold leftP rightP
    split <;> split <;> simp
    intro h1
    omega
  · have h1 := bnd a x hx
    have h2 := bnd b y hy
    rintro ⟨h3, h4⟩
    exact hab.2 ⟨by omega, by rw [← h1.2.2, ← h2.2.2, h4]⟩
theorem cut_fit {l : List Sp} {lo hi : Int} (h : ∀ s ∈ l, FitS s) (hlo : lo ≤ 32768) (hhi : FitH hi) (hok : SpOk l) : ∀ s ∈ cutP l lo hi, FitS s := by
  intro x hx
  obtain ⟨s, hs, ⟨h1, rfl⟩ | ⟨h1, rfl⟩⟩ := mem_cut.1 hx
  · have := h s hs; have := hok.each s hs; unfold FitS FitH at *; simp only at *; omega
  · have := h s hs; have := hok.each s hs; unfold FitS FitH at *; simp only at *; omega
theorem join_fit {l : List Sp} (h : ∀ s ∈ l, FitS s) : ∀ s ∈ joinP l, FitS s := by
  have key : ∀ (l out : List Sp), (∀ s ∈ l, FitS s) → (∀ s ∈ out, FitS s) → ∀ s ∈ l.foldl joinS out, FitS s := by
    intro l
    induction l with
    | nil => intro out _ h; exact h
    | cons s l ih =>
      intro out hl ho
      rw [List.foldl_cons]
      refine ih _ (fun x hx => hl x (List.mem_cons_of_mem _ hx)) (fun x hx => ?_)
      have hs := hl s (List.mem_cons_self ..)
      rcases List.eq_nil_or_concat out with rfl | ⟨A, z, rfl⟩
      · have : x = s := by simpa [joinS] using hx
        rw [this]; exact hs
      · rw [List.concat_eq_append] at ho hx
        rw [joinS_some] at hx
        split at hx
        · rcases List.mem_append.1 hx with hx | hx
          · exact ho x (List.mem_append_left _ hx)
          · rw [List.mem_singleton.1 hx]; exact ⟨(ho z (by simp)).1, hs.2⟩
        · rcases List.mem_append.1 hx with hx | hx
          · exact ho x hx
          · rw [List.mem_singleton.1 hx]; exact hs
  exact key l [] h (by simp)
/-- Joining behind pieces of other owners. -/
theorem rjoin_block (o : Int) (A : List Pc) (hA : ∀ a ∈ A, a.own ≠ o) : ∀ (l out : List Sp), (∀ s ∈ l, FitS s) → (∀ s ∈ out, FitS s) → (l.map (pcOf o)).foldl rjoinS (A ++ out.map (pcOf o)) = A ++ (l.foldl joinS out).map (pcOf o) := by
  intro l
  induction l with
  | nil => intro out _ _; rfl
  | cons s l ih =>
    intro out hl ho
    have hs := hl s (List.mem_cons_self ..)
    rw [List.map_cons, List.foldl_cons, List.foldl_cons]
    have hst : rjoinS (A ++ out.map (pcOf o)) (pcOf o s) = A ++ (joinS out s).map (pcOf o) ∧ ∀ x ∈ joinS out s, FitS x := by
      rcases List.eq_nil_or_concat out with rfl | ⟨B, z, rfl⟩
      · refine ⟨?_, fun x hx => by have : x = s := by simpa [joinS] using hx
                                   rw [this]; exact hs⟩
        rw [List.map_nil, List.append_nil]
        rcases List.eq_nil_or_concat A with rfl | ⟨C, a, rfl⟩
        · rfl
        · rw [List.concat_eq_append] at hA ⊢
          have hne := hA a (by simp)
          rw [rjoinS_some, if_neg (by simp only [pcOf, Bool.and_eq_true, beq_iff_eq]; exact fun h => hne h.1.1)]
          rfl
      · rw [List.concat_eq_append] at ho ⊢
        have hz := ho z (by simp)
        rw [List.map_append, List.map_cons, List.map_nil, ← List.append_assoc, rjoinS_some, joinS_some]
        have e : ((pcOf o z).own == (pcOf o s).own && (pcOf o z).hi == (pcOf o s).lo && (pcOf o z).ex == (pcOf o s).ex) = (z.hi == s.lo && z.ex == s.ex) := by
          have h1 := hh_eq hs.1 hz.2
          have h2 : (hh z.hi == s.lo) = (z.hi == s.lo) := by
            by_cases h : z.hi = s.lo
            · rw [h1.2 h, h]
            · have : ¬ hh z.hi = s.lo := fun h' => h (h1.1 h')
              rw [beq_eq_false_iff_ne.2 this, beq_eq_false_iff_ne.2 h]
          simp only [pcOf, beq_self_eq_true, Bool.true_and, h2]
        rw [e]
        split
        · refine ⟨by rw [List.map_append, List.append_assoc]; rfl, fun x hx => ?_⟩
          rcases List.mem_append.1 hx with hx | hx
          · exact ho x (List.mem_append_left _ hx)
          · rw [List.mem_singleton.1 hx]; exact ⟨hz.1, hs.2⟩
        · refine ⟨by rw [List.map_append, List.map_append, List.append_assoc, List.append_assoc]; simp, fun x hx => ?_⟩
          rcases List.mem_append.1 hx with hx | hx
          · exact ho x hx
          · rw [List.mem_singleton.1 hx]; exact hs
    rw [hst.1]
    exact ih _ (fun x hx => hl x (List.mem_cons_of_mem _ hx)) hst.2
/-- A table whose spans are joined and fit. -/
structure TInv (T : Tb) : Prop where
  ok : TOk T
  fit : ∀ x ∈ T, ∀ s ∈ x.2, FitS s
  canon : ∀ x ∈ T, CanonP x.2
theorem TInv.nil : TInv [] := ⟨TOk.nil, by simp, by simp⟩
theorem rjoin_flat : ∀ (B : Tb) (A : List Pc), B.Pairwise (fun a b => a.1 < b.1) → (∀ x ∈ B, ∀ s ∈ x.2, FitS s) → (∀ x ∈ B, CanonP x.2) → (∀ a ∈ A, ∀ x ∈ B, a.own ≠ x.1) → (flatP B).foldl rjoinS A = A ++ flatP B := by
  intro B
  induction B with
  | nil => intro A _ _ _ _; simp [flatP]
  | cons x B ih =>
    intro A hs hf hc hA
    have hs1 := List.pairwise_cons.1 hs
    rw [flatP_cons, List.foldl_append]
    have h1 := rjoin_block x.1 A (fun a ha => hA a ha x (List.mem_cons_self ..)) x.2 [] (hf x (List.mem_cons_self ..)) (by simp)
    rw [List.map_nil, List.append_nil] at h1
    rw [h1]
    have h2 : x.2.foldl joinS [] = x.2 := join_id (hc x (List.mem_cons_self ..))
    rw [h2, ih _ hs1.2 (fun y hy => hf y (List.mem_cons_of_mem _ hy)) (fun y hy => hc y (List.mem_cons_of_mem _ hy)) (fun a ha y hy => ?_), List.append_assoc]
    rcases List.mem_append.1 ha with ha | ha
    · exact hA a ha y (List.mem_cons_of_mem _ hy)
    · obtain ⟨s, -, rfl⟩ := List.mem_map.1 ha
      have := hs1.1 y hy
      simp only [pcOf]
      omega
/-- A table cut at an owner. -/
theorem tb_at (o : Int) : ∀ (T : Tb), T.Pairwise (fun a b => a.1 < b.1) → ∃ A B, (∀ x ∈ A, x.1 < o) ∧ (∀ x ∈ B, o < x.1) ∧ tDel T o = A ++ B ∧ ((T = A ++ (o, tAt T o) :: B) ∨ (T = A ++ B ∧ tAt T o = [])) := by
  intro T
  induction T with
  | nil => intro _; exact ⟨[], [], by simp, by simp, rfl, .inr ⟨rfl, rfl⟩⟩
  | cons x T ih =>
    intro hs
    have hs1 := List.pairwise_cons.1 hs
    rcases Int.lt_trichotomy x.1 o with h | h | h
    · obtain ⟨A, B, h1, h2, h3, h4⟩ := ih hs1.2
      have hne : ¬ x.1 = o := by omega
      refine ⟨x :: A, B, fun y hy => ?_, h2, ?_, ?_⟩
      · rcases List.mem_cons.1 hy with rfl | hy
        · exact h
        · exact h1 y hy
      · unfold tDel at h3 ⊢
        rw [List.filter_cons, if_pos (by simpa using hne), h3]
        rfl
      · have e : tAt (x :: T) o = tAt T o := by
          unfold tAt
          rw [List.find?_cons, show (x.1 == o) = false by simpa using hne]
        rw [e]
        rcases h4 with h4 | h4
        · left; rw [List.cons_append, ← h4]
        · right; exact ⟨by rw [List.cons_append, ← h4.1], h4.2⟩
    · have hT : T.filter (fun y => y.1 != o) = T := by
        rw [List.filter_eq_self]
        intro y hy
        have := hs1.1 y hy
        simp; omega
      refine ⟨[], T, by simp, fun y hy => by have := hs1.1 y hy; omega, ?_, .inl ?_⟩
      · unfold tDel
        rw [List.filter_cons, if_neg (by simp [h]), hT]
        rfl
      · have e : tAt (x :: T) o = x.2 := by
          unfold tAt
          rw [List.find?_cons, show (x.1 == o) = true by simp [h]]
        rw [e, ← h]
        rfl
    · have hall : ∀ y ∈ x :: T, o < y.1 := fun y hy => by
        rcases List.mem_cons.1 hy with rfl | hy
        · exact h
        · have := hs1.1 y hy; omega
      refine ⟨[], x :: T, by simp, hall, ?_, .inr ⟨rfl, ?_⟩⟩
      · unfold tDel
        rw [List.filter_eq_self.2 (fun y hy => by have := hall y hy; simp; omega)]
        rfl
      · unfold tAt
        rw [List.find?_eq_none.2 (fun y hy => by have := hall y hy; simp; omega)]
theorem tIns_mid {o : Int} {l : List Sp} : ∀ {A B : Tb}, (∀ x ∈ A, x.1 < o) → (∀ x ∈ B, o < x.1) → tIns (o, l) (A ++ B) = A ++ (o, l) :: B := by
  intro A
  induction A with
  | nil =>
    intro B _ hB
    cases B with
    | nil => rfl
    | cons b B =>
      have := hB b (List.mem_cons_self ..)
      rw [List.nil_append, tIns, if_pos this]
      rfl
  | cons a A ih =>
    intro B hA hB
    have := hA a (List.mem_cons_self ..)
    rw [List.cons_append, tIns, if_neg (by simp only; omega), ih (fun x hx => hA x (List.mem_cons_of_mem _ hx)) hB]
    rfl
theorem flat_put {T : Tb} {o : Int} {A B : Tb} (hA : ∀ x ∈ A, x.1 < o) (hB : ∀ x ∈ B, o < x.1) (hd : tDel T o = A ++ B) (l : List Sp) : flatP (tPut T o l) = flatP A ++ l.map (pcOf o) ++ flatP B := by
  unfold tPut
  split
  · rename_i he
    rw [List.isEmpty_iff] at he
    rw [he, hd, flatP_append]
    simp
  · rw [hd, tIns_mid hA hB, flatP_append, flatP_cons, List.append_assoc]
theorem flatP_at {T : Tb} {o : Int} {A B : Tb} (h : (T = A ++ (o, tAt T o) :: B) ∨ (T = A ++ B ∧ tAt T o = [])) : flatP T = flatP A ++ (tAt T o).map (pcOf o) ++ flatP B := by
  rcases h with h | ⟨h1, h2⟩
  · conv => lhs; rw [h]
    rw [flatP_append, flatP_cons, List.append_assoc]
  · rw [h2]
    conv => lhs; rw [h1]
    rw [flatP_append]
    simp
end
section
set_option linter.unusedVariables false
set_option linter.unusedSimpArgs false

theorem rw1_other {c x : Pc} (h : x.own ≠ c.own) : rw1 c x = [x] := by unfold rw1; rw [if_pos h]
theorem wout_one {o : Int} {S s : Sp} (hS : S.lo < S.hi) (fS : FitS S) (hs : s.lo < s.hi) (fs : FitS s) : rw1 (pcOf o S) (pcOf o s) = (leftP s S.lo ++ rightP s S.hi).map (pcOf o) := by
  unfold rw1
  rw [if_neg (by simp [pcOf])]
  have e1 := hh_lt fs.1 fS.2
  have e2 := hh_lt fS.1 fs.2
  have e3 := hh_mono fS.2 fs.2
  by_cases hov : s.lo < S.hi ∧ S.lo < s.hi
  · have ht : roverI (pcOf o s) (pcOf o S) = true := by
      unfold roverI pcOf
      simp only [Bool.and_eq_true, decide_eq_true_eq]
      exact ⟨e1.2 hov.1, e2.2 hov.2⟩
    rw [ht, if_neg (by simp)]
    unfold leftP rightP
    rw [List.map_append]
    have h1 : min s.hi S.lo = S.lo := by omega
    have h2 : max s.lo S.hi = S.hi := by omega
    rw [h1, h2]
    have hl : hh S.lo = S.lo := hh_id (by have := fS.1; omega)
    congr 1
    · by_cases hc : s.lo < S.lo
      · rw [if_pos hc, if_pos (show (pcOf o s).lo < (pcOf o S).lo from hc)]
        simp [pcOf, hl]
      · rw [if_neg hc, if_neg (show ¬ (pcOf o s).lo < (pcOf o S).lo from hc)]
        rfl
    · by_cases hc : S.hi < s.hi
      · have hr : hh S.hi = S.hi := hh_id (by have := fs.2; unfold FitH at this; omega)
        rw [if_pos hc, if_pos (show (pcOf o S).hi < (pcOf o s).hi from e3.2 hc)]
        simp [pcOf, hr]
      · rw [if_neg hc, if_neg (show ¬ (pcOf o S).hi < (pcOf o s).hi from fun h => hc (e3.1 h))]
        rfl
  · have hf : roverI (pcOf o s) (pcOf o S) = false := by
      unfold roverI pcOf
      cases h1 : decide (s.lo < hh S.hi)
      · rfl
      · cases h2 : decide (S.lo < hh s.hi)
        · simp [h2]
        · exact absurd ⟨e1.1 (of_decide_eq_true h1), e2.1 (of_decide_eq_true h2)⟩ hov
    rw [hf, if_pos rfl]
    unfold leftP rightP
    by_cases hc : s.hi ≤ S.lo
    · rw [if_pos (by omega), if_neg (by omega), show min s.hi S.lo = s.hi by omega]
      rfl
    · rw [if_neg (by omega), if_pos (by omega), show max s.lo S.hi = s.lo by omega]
      rfl
theorem wout_block {o : Int} {S : Sp} (hS : S.lo < S.hi) (fS : FitS S) {l : List Sp} (hl : ∀ s ∈ l, s.lo < s.hi) (fl : ∀ s ∈ l, FitS s) : rwoutP (l.map (pcOf o)) (pcOf o S) = (cutP l S.lo S.hi).map (pcOf o) := by
  induction l with
  | nil => rfl
  | cons s l ih =>
    have h1 := ih (fun x hx => hl x (List.mem_cons_of_mem _ hx)) (fun x hx => fl x (List.mem_cons_of_mem _ hx))
    unfold rwoutP cutP at h1 ⊢
    rw [List.map_cons, List.flatMap_cons, List.flatMap_cons, List.map_append, h1, wout_one hS fS (hl s (List.mem_cons_self ..)) (fl s (List.mem_cons_self ..))]
theorem wout_far {c : Pc} {L : List Pc} (h : ∀ x ∈ L, x.own ≠ c.own) : rwoutP L c = L := by
  induction L with
  | nil => rfl
  | cons x L ih =>
    have h1 := ih (fun y hy => h y (List.mem_cons_of_mem _ hy))
    unfold rwoutP at h1 ⊢
    rw [List.flatMap_cons, h1, rw1_other (h x (List.mem_cons_self ..))]
    rfl
theorem rwoutP_append (L M : List Pc) (c : Pc) : rwoutP (L ++ M) c = rwoutP L c ++ rwoutP M c := by unfold rwoutP; rw [List.flatMap_append]
theorem own_lt {A : Tb} {o : Int} (hA : ∀ x ∈ A, x.1 < o) : ∀ p ∈ flatP A, p.own < o := by
  intro p hp
  obtain ⟨x, hx, s, -, rfl⟩ := mem_flatP hp
  exact hA x hx
theorem own_gt {A : Tb} {o : Int} (hA : ∀ x ∈ A, o < x.1) : ∀ p ∈ flatP A, o < p.own := by
  intro p hp
  obtain ⟨x, hx, s, -, rfl⟩ := mem_flatP hp
  exact hA x hx
theorem TInv.at {T : Tb} (h : TInv T) (o : Int) : SpOk (tAt T o) ∧ (∀ s ∈ tAt T o, FitS s) ∧ CanonP (tAt T o) := by
  refine ⟨(tAt_ok h.ok o).1, ?_⟩
  unfold tAt
  cases hf : T.find? (fun x => x.1 == o) with
  | none => exact ⟨by simp, List.Pairwise.nil⟩
  | some x => exact ⟨h.fit x (List.mem_of_find?_eq_some hf), h.canon x (List.mem_of_find?_eq_some hf)⟩
theorem TInv.del {T : Tb} (h : TInv T) (o : Int) : TInv (tDel T o) := ⟨h.ok.del o, fun x hx => h.fit x (mem_tDel.1 hx).1, fun x hx => h.canon x (mem_tDel.1 hx).1⟩
theorem TInv.put {T : Tb} (h : TInv T) {o : Int} {l : List Sp} (hw : (Lit.int .i64 o).wf = true) (hl : SpOk l) (hn : l.length ≤ 1000) (hf : ∀ s ∈ l, FitS s) (hc : CanonP l) : TInv (tPut T o l) := by
  refine ⟨h.ok.put hw hl hn, fun x hx => ?_, fun x hx => ?_⟩
  · rcases mem_tPut hx with ⟨rfl, -⟩ | ⟨hx, -⟩
    · exact hf
    · exact h.fit x hx
  · rcases mem_tPut hx with ⟨rfl, -⟩ | ⟨hx, -⟩
    · exact hc
    · exact h.canon x hx
theorem each_lt {l : List Sp} (h : SpOk l) : ∀ s ∈ l, s.lo < s.hi := fun s hs => (h.each s hs).2.1
/-- The reference's without, on a table's pieces. -/
theorem wout_flat {T : Tb} (h : TInv T) {o : Int} {S : Sp} (hS : S.lo < S.hi) (fS : FitS S) {A B : Tb} (hA : ∀ x ∈ A, x.1 < o) (hB : ∀ x ∈ B, o < x.1) (hT : (T = A ++ (o, tAt T o) :: B) ∨ (T = A ++ B ∧ tAt T o = [])) :
    rwoutP (flatP T) (pcOf o S) = flatP A ++ (cutP (tAt T o) S.lo S.hi).map (pcOf o) ++ flatP B := by
  have ha := h.at o
  rw [flatP_at hT, rwoutP_append, rwoutP_append, wout_block hS fS (each_lt ha.1) ha.2.1, wout_far (fun x hx => by have := own_lt hA x hx; show x.own ≠ o; omega), wout_far (fun x hx => by have := own_gt hB x hx; show x.own ≠ o; omega)]
theorem findIdx_split {α : Type} {p : α → Bool} {U V : List α} (hU : ∀ u ∈ U, p u = false) (hV : ∀ v ∈ V, p v = true) : (U ++ V).findIdx p = U.length := by
  induction U with
  | nil =>
    cases V with
    | nil => rfl
    | cons v V => rw [List.nil_append, List.findIdx_cons, hV v (List.mem_cons_self ..)]; rfl
  | cons u U ih =>
    rw [List.cons_append, List.findIdx_cons, hU u (List.mem_cons_self ..), ih (fun x hx => hU x (List.mem_cons_of_mem _ hx))]
    rfl
theorem insLo_split {S : Sp} (hS : S.lo < S.hi) : ∀ {l : List Sp}, SpOk l → Off S l → ∃ L1 L2, l = L1 ++ L2 ∧ insLo S l = L1 ++ S :: L2 ∧ (∀ s ∈ L1, s.lo < S.lo) ∧ (∀ s ∈ L2, S.lo < s.lo) := by
  intro l
  induction l with
  | nil => intro _ _; exact ⟨[], [], rfl, rfl, by simp, by simp⟩
  | cons x l ih =>
    intro hl ho
    have hl1 := List.pairwise_cons.1 hl.apart
    have hx := hl.each x (List.mem_cons_self ..)
    have hl2 : SpOk l := ⟨hl1.2, fun y hy => hl.each y (List.mem_cons_of_mem _ hy)⟩
    unfold insLo
    by_cases hc : S.lo < x.lo
    · rw [if_pos hc]
      refine ⟨[], x :: l, rfl, rfl, by simp, fun s hs => ?_⟩
      rcases List.mem_cons.1 hs with rfl | hs
      · exact hc
      · have := hl1.1 s hs; omega
    · rw [if_neg hc]
      obtain ⟨L1, L2, e1, e2, h1, h2⟩ := ih hl2 (fun s hs => ho s (List.mem_cons_of_mem _ hs))
      have hox := ho x (List.mem_cons_self ..)
      refine ⟨x :: L1, L2, by rw [e1]; rfl, by rw [e2]; rfl, fun s hs => ?_, h2⟩
      rcases List.mem_cons.1 hs with rfl | hs
      · omega
      · exact h1 s hs
theorem ins_fit {S : Sp} {l : List Sp} (h : ∀ s ∈ l, FitS s) (hS : FitS S) : ∀ s ∈ insLo S l, FitS s := by
  intro s hs
  rcases mem_insLo.1 hs with rfl | hs
  · exact hS
  · exact h s hs
/-- The reference's with, on a table's pieces. -/
theorem with_flat {T : Tb} (h : TInv T) {o : Int} {S : Sp} (h0 : 0 ≤ S.lo) (hS : S.lo < S.hi) (hH : S.hi ≤ 1152921504606846976) (fS : FitS S) : rwithP (flatP T) (pcOf o S) = flatP (tPut T o (wSp (tAt T o) S)) := by
  obtain ⟨A, B, hA, hB, hd, hT⟩ := tb_at o T h.ok.sort
  have ha := h.at o
  have hck : SpOk (cutP (tAt T o) S.lo S.hi) := cut_ok ha.1 (by omega)
  obtain ⟨L1, L2, e1, e2, h1, h2⟩ := insLo_split hS hck cut_off
  unfold rwithP
  rw [wout_flat h hS fS hA hB hT, flat_put hA hB hd]
  have hins : rinsP (flatP A ++ (cutP (tAt T o) S.lo S.hi).map (pcOf o) ++ flatP B) (pcOf o S) = flatP A ++ (insLo S (cutP (tAt T o) S.lo S.hi)).map (pcOf o) ++ flatP B := by
    have e3 : flatP A ++ (cutP (tAt T o) S.lo S.hi).map (pcOf o) ++ flatP B = (flatP A ++ L1.map (pcOf o)) ++ (L2.map (pcOf o) ++ flatP B) := by rw [e1]; simp
    have hr : rat ((flatP A ++ L1.map (pcOf o)) ++ (L2.map (pcOf o) ++ flatP B)) (pcOf o S) = (flatP A ++ L1.map (pcOf o)).length := by
      unfold rat
      refine findIdx_split (fun u hu => ?_) (fun v hv => ?_)
      · rcases List.mem_append.1 hu with hu | hu
        · have := own_lt hA u hu
          simp [rltB, pcOf, this]
        · obtain ⟨s, hs, rfl⟩ := List.mem_map.1 hu
          have := h1 s hs
          simp [rltB, pcOf, this]
      · rcases List.mem_append.1 hv with hv | hv
        · obtain ⟨s, hs, rfl⟩ := List.mem_map.1 hv
          have h3 := h2 s hs
          have h4 : ¬ s.lo < S.lo := by omega
          simp [rltB, pcOf, h4]
        · have := own_gt hB v hv
          have h3 : ¬ v.own < o := by omega
          have h4 : ¬ v.own = o := by omega
          simp [rltB, pcOf, h3, h4]
    unfold rinsP
    rw [e3, hr, List.take_left, List.drop_left, e2]
    simp
  rw [hins]
  unfold rjoinP
  have hfi := ins_fit (cut_fit ha.2.1 fS.1 fS.2 ha.1) fS
  have hAs : A.Pairwise (fun a b => a.1 < b.1) ∧ B.Pairwise (fun a b => a.1 < b.1) := by
    have := (h.ok.del o).sort
    rw [hd] at this
    exact ⟨(List.pairwise_append.1 this).1, (List.pairwise_append.1 this).2.1⟩
  have hmem : ∀ x, x ∈ A ∨ x ∈ B → x ∈ T := fun x hx => by
    have : x ∈ tDel T o := by rw [hd]; exact List.mem_append.2 hx
    exact (mem_tDel.1 this).1
  rw [List.foldl_append, List.foldl_append]
  have r1 : (flatP A).foldl rjoinS [] = flatP A := by
    have := rjoin_flat A [] hAs.1 (fun x hx => h.fit x (hmem x (.inl hx))) (fun x hx => h.canon x (hmem x (.inl hx))) (by simp)
    simpa using this
  have r2 := rjoin_block o (flatP A) (fun a ha' => by have := own_lt hA a ha'; omega) (insLo S (cutP (tAt T o) S.lo S.hi)) [] hfi (by simp)
  rw [List.map_nil, List.append_nil] at r2
  rw [r1, r2]
  have r3 : (insLo S (cutP (tAt T o) S.lo S.hi)).foldl joinS [] = wSp (tAt T o) S := rfl
  rw [r3]
  exact rjoin_flat B _ hAs.2 (fun x hx => h.fit x (hmem x (.inr hx))) (fun x hx => h.canon x (hmem x (.inr hx))) (fun a ha' x hx => by
    have hx2 := hB x hx
    rcases List.mem_append.1 ha' with ha' | ha'
    · have := own_lt hA a ha'; omega
    · obtain ⟨s, -, rfl⟩ := List.mem_map.1 ha'
      simp only [pcOf]; omega)
theorem fit_span {x : Lk} (h : okL x.own x.st x.len = true) : FitS (spanI x) := by
  have := okL_iff.1 h
  unfold FitS FitH spanI endI
  dsimp only
  split <;> omega
theorem rof_pc {x : Lk} (h : okL x.own x.st x.len = true) : rofI x = pcOf x.own (spanI x) := by
  have := okL_iff.1 h
  unfold rofI pcOf spanI endI hh
  dsimp only
  by_cases h0 : x.len = 0
  · rw [if_pos h0, if_pos h0, if_pos rfl]
  · rw [if_neg h0, if_neg h0, if_neg (by omega)]
theorem grT_flat {T : Tb} (h : TInv T) {x : Lk} (hx : okL x.own x.st x.len = true) : rgrT (flatP T) x = flatP (grT T x) := by
  have hs := okL_span hx
  unfold rgrT grT
  rw [rof_pc hx]
  exact with_flat h hs.1 hs.2.1 hs.2.2 (fit_span hx)
theorem rel_flat {T : Tb} (h : TInv T) {o s n : Int} (hx : okL o s n = true) : rwoutP (flatP T) (rofI ⟨o, s, n, false⟩) = flatP (relT T o s n) ∧ CanonP (rSp (tAt T o) s (endI s n)) := by
  have hs := okL_span (x := ⟨o, s, n, false⟩) hx
  have hf := fit_span (x := ⟨o, s, n, false⟩) hx
  have ha := h.at o
  obtain ⟨A, B, hA, hB, hd, hT⟩ := tb_at o T h.ok.sort
  have hc := cut_canon ha.1 ha.2.2 (lo := s) (hi := endI s n) hs.2.1
  have e : rSp (tAt T o) s (endI s n) = cutP (tAt T o) s (endI s n) := join_id hc
  refine ⟨?_, by rw [e]; exact hc⟩
  rw [rof_pc (x := ⟨o, s, n, false⟩) hx, wout_flat h hs.2.1 hf hA hB hT]
  unfold relT
  rw [flat_put hA hB hd, e]
  rfl
theorem drop_flat {T : Tb} (h : TInv T) (o : Int) : rdropP (flatP T) o = flatP (tDel T o) := by
  obtain ⟨A, B, hA, hB, hd, hT⟩ := tb_at o T h.ok.sort
  rw [flatP_at hT, hd, flatP_append]
  unfold rdropP
  rw [List.filter_append, List.filter_append, List.filter_eq_self.2 (fun p hp => by have := own_lt hA p hp; simp; omega), (List.filter_eq_self (l := flatP B)).2 (fun p hp => by have := own_gt hB p hp; simp; omega),
    (List.filter_eq_nil_iff (l := (tAt T o).map (pcOf o))).2 (fun p hp => by obtain ⟨s, -, rfl⟩ := List.mem_map.1 hp; simp [pcOf])]
  simp
theorem rlock_pc {o : Int} {s : Sp} (f : FitS s) (h0 : 0 ≤ s.lo) : rlockI (pcOf o s) = lockI s o := by
  unfold rlockI pcOf lockI hh
  dsimp only
  have := f.1
  have h2 := f.2
  unfold FitH at h2
  by_cases hf : s.hi = 1152921504606846976
  · rw [if_pos hf, if_pos rfl, if_pos hf]
  · rw [if_neg hf, if_neg (by omega), if_neg hf]
theorem conf_pc {o : Int} {s : Sp} (f : FitS s) {x : Lk} (hx : okL x.own x.st x.len = true) : rconfI (pcOf o s) (rofI x) = confB o x s := by
  have hf := fit_span hx
  rw [rof_pc hx]
  unfold rconfI confB roverI overI pcOf
  dsimp only
  have e1 : decide (s.lo < hh (spanI x).hi) = decide (s.lo < (spanI x).hi) := by rw [decide_eq_decide]; exact hh_lt f.1 hf.2
  have e2 : decide ((spanI x).lo < hh s.hi) = decide ((spanI x).lo < s.hi) := by rw [decide_eq_decide]; exact hh_lt hf.1 f.2
  rw [e1, e2]
  rfl
theorem conf_flat {T : Tb} (h : TInv T) {x : Lk} (hx : okL x.own x.st x.len = true) : tConf T x = ((flatP T).filter (fun p => rconfI p (rofI x))).map rlockI := by
  have key : ∀ B : Tb, (∀ y ∈ B, ∀ s ∈ y.2, FitS s ∧ 0 ≤ s.lo) → tConf B x = ((flatP B).filter (fun p => rconfI p (rofI x))).map rlockI := by
    intro B
    induction B with
    | nil => intro _; rfl
    | cons y B ih =>
      intro hB
      rw [flatP_cons, List.filter_append, List.map_append, ← ih (fun z hz => hB z (List.mem_cons_of_mem _ hz))]
      have hy := hB y (List.mem_cons_self ..)
      unfold tConf
      rw [List.flatMap_cons]
      congr 1
      have : ∀ l : List Sp, (∀ s ∈ l, FitS s ∧ 0 ≤ s.lo) → (l.filter (confB y.1 x)).map (fun s => lockI s y.1) = ((l.map (pcOf y.1)).filter (fun p => rconfI p (rofI x))).map rlockI := by
        intro l
        induction l with
        | nil => intro _; rfl
        | cons s l ih2 =>
          intro hl
          have hs := hl s (List.mem_cons_self ..)
          have h2 := ih2 (fun z hz => hl z (List.mem_cons_of_mem _ hz))
          rw [List.map_cons, List.filter_cons, List.filter_cons, conf_pc hs.1 hx]
          split
          · rw [List.map_cons, List.map_cons, h2, rlock_pc hs.1 hs.2]
          · exact h2
      exact this y.2 hy
  exact key T (fun y hy s hs => ⟨h.fit y hy s hs, ((h.ok.sp y hy).each s hs).1⟩)
theorem gran_flat {T : Tb} (h : TInv T) : tGran T = (flatP T).map rlockI := by
  unfold tGran flatP
  rw [List.map_flatMap]
  have key : ∀ B : Tb, (∀ y ∈ B, ∀ s ∈ y.2, FitS s ∧ 0 ≤ s.lo) → B.flatMap (fun x => x.2.map (fun s => lockI s x.1)) = B.flatMap (fun x => (x.2.map (pcOf x.1)).map rlockI) := by
    intro B
    induction B with
    | nil => intro _; rfl
    | cons y B ih =>
      intro hB
      rw [List.flatMap_cons, List.flatMap_cons, ih (fun z hz => hB z (List.mem_cons_of_mem _ hz))]
      congr 1
      rw [List.map_map]
      exact List.map_congr_left (fun s hs => (rlock_pc (hB y (List.mem_cons_self ..) s hs).1 (hB y (List.mem_cons_self ..) s hs).2).symm)
  exact key T (fun y hy s hs => ⟨h.fit y hy s hs, ((h.ok.sp y hy).each s hs).1⟩)
theorem pok_flat {T : Tb} (h : TInv T) : POk (flatP T) := by
  intro p hp
  obtain ⟨x, hx, s, hs, rfl⟩ := mem_flatP hp
  have h1 := (h.ok.sp x hx).each s hs
  have h2 := h.fit x hx s hs
  have h3 := h2.2
  unfold FitH at h3
  have h4 := h2.1
  unfold pcOf hh
  dsimp only
  split <;> omega
end
section
set_option linter.unusedVariables false
set_option linter.unusedSimpArgs false

theorem idx_filter {α : Type} (p : α → Bool) (L : List α) : L[L.findIdx p]? = (L.filter p).head? := by
  induction L with
  | nil => rfl
  | cons a L ih =>
    rw [List.findIdx_cons, List.filter_cons]
    cases h : p a
    · simpa using ih
    · simp
theorem idx_neg {α : Type} (p : α → Bool) (L : List α) : decide (idxI p L < 0) = (L.filter p).isEmpty := by
  have h := idx_filter p L
  unfold idxI
  by_cases hl : L.findIdx p < L.length
  · rw [if_pos hl, decide_eq_false (by omega)]
    rw [List.getElem?_eq_getElem hl] at h
    cases hf : L.filter p with
    | nil => rw [hf] at h; cases h
    | cons a b => rfl
  · rw [if_neg hl, decide_eq_true (by omega)]
    rw [List.getElem?_eq_none (by omega)] at h
    cases hf : L.filter p with
    | nil => rfl
    | cons a b => rw [hf] at h; cases h
theorem conf_empty {T : Tb} (h : TInv T) {x : Lk} (hx : okL x.own x.st x.len = true) : decide (idxI (fun s => rconfI s (rofI x)) (flatP T) < 0) = (tConf T x).isEmpty := by
  rw [idx_neg, conf_flat h hx]
  cases (flatP T).filter (fun p => rconfI p (rofI x)) <;> rfl
theorem with_len {T : Tb} (h : TInv T) {x : Lk} (hx : okL x.own x.st x.len = true) : (rwithP (flatP T) (rofI x)).length = (wSp (tAt T x.own) (spanI x)).length + tCnt T x.own := by
  have h1 := grT_flat h hx
  unfold rgrT at h1
  rw [h1, flatP_len]
  unfold grT
  rw [tAll_put]; omega
theorem grB_flat {T : Tb} (h : TInv T) {x : Lk} (hx : okL x.own x.st x.len = true) : rgrB (flatP T) x = grB T x := by
  unfold rgrB grB
  rw [conf_empty h hx, with_len h hx]
theorem TInv.gr {T : Tb} (h : TInv T) {x : Lk} (hx : okL x.own x.st x.len = true) (hw : (Lit.int .i64 x.own).wf = true) (hl : tAll T ≤ 900) : TInv (grT T x) := by
  have ha := h.at x.own
  have hs := okL_span hx
  have h1 := wSp_len ha.1 hs.2.1
  have h2 := tAll_del h.ok.sort x.own
  have hf := fit_span hx
  have hck := cut_ok ha.1 (lo := (spanI x).lo) (hi := (spanI x).hi) (by omega)
  exact h.put hw (wSp_ok ha.1 hs) (by omega) (join_fit (ins_fit (cut_fit ha.2.1 hf.1 hf.2 ha.1) hf)) (join_canon (ins_ok hck hs cut_off))
theorem del_flat : ∀ (Q : List Lk) (T : Tb) (out : List Int), TInv T → QOk Q → tAll T + 2 * Q.length ≤ 900 → rdelF (flatP T) out Q = ((flatP (delF T out Q).1.1, (delF T out Q).1.2), (delF T out Q).2) ∧ TInv (delF T out Q).1.1 ∧ (delF T out Q).2.Sublist Q := by
  intro Q
  induction Q with
  | nil => intro T out h _ _; exact ⟨rfl, h, List.Sublist.refl _⟩
  | cons x Q ih =>
    intro T out h hq hl
    rw [List.length_cons] at hl
    have hx := hq x (List.mem_cons_self ..)
    have hq2 : QOk Q := fun y hy => hq y (List.mem_cons_of_mem _ hy)
    unfold rdelF delF
    rw [grB_flat h hx.1]
    by_cases hg : grB T x = true
    · rw [if_pos hg, if_pos hg, grT_flat h hx.1]
      have h2 := grT_ok h.ok hx.1 hx.2 (by omega)
      have h3 := ih (grT T x) (out ++ [x.own]) (h.gr hx.1 hx.2 (by omega)) hq2 (by omega)
      exact ⟨h3.1, h3.2.1, h3.2.2.cons _⟩
    · rw [if_neg hg, if_neg hg]
      have h3 := ih T out h hq2 (by omega)
      rw [h3.1]
      exact ⟨rfl, h3.2.1, h3.2.2.cons_cons _⟩
theorem scan_flat : ∀ (n : Nat) (T : Tb) (out : List Int) (Q : List Lk), TInv T → QOk Q → tAll T + 2 * Q.length ≤ 900 →
    rscanF n (flatP T) out Q = ((flatP (scanF n T out Q).1.1, (scanF n T out Q).1.2), (scanF n T out Q).2) ∧ TInv (scanF n T out Q).1.1 ∧ (scanF n T out Q).2.Sublist Q ∧ tAll (scanF n T out Q).1.1 + 2 * (scanF n T out Q).2.length ≤ tAll T + 2 * Q.length := by
  intro n
  induction n with
  | zero => intro T out Q h _ _; exact ⟨rfl, h, List.Sublist.refl _, Nat.le_refl _⟩
  | succ n ih =>
    intro T out Q h hq hl
    have hd := del_flat Q T out h hq hl
    have ha := delF_all Q T out h.ok hq hl
    have hk := delF_ok Q T out h.ok hq hl
    unfold rscanF scanF
    rw [hd.1]
    dsimp only
    by_cases hc : (delF T out Q).2.length < Q.length
    · rw [if_pos hc, if_pos hc]
      have h2 := ih (delF T out Q).1.1 (delF T out Q).1.2 (delF T out Q).2 hd.2.1 hk.2.2 (by omega)
      exact ⟨h2.1, h2.2.1, h2.2.2.1.trans hd.2.2, by omega⟩
    · rw [if_neg hc, if_neg hc]
      exact ⟨rfl, hd.2.1, hd.2.2, ha⟩
theorem hit_flat {T : Tb} (h : TInv T) {x : Lk} (hx : okL x.own x.st x.len = true) : (tConf T x).head? = (rhit (flatP T) (rofI x)).map rlockI := by
  unfold rhit
  rw [idx_filter, conf_flat h hx, List.head?_map]
theorem test_flat {T : Tb} (h : TInv T) (x : Lk) : rtestV (flatP T) x = testV T x := by
  unfold rtestV testV
  cases hx : okL x.own x.st x.len
  · rfl
  · simp only [if_true]
    have h1 := hit_flat h hx
    cases hr : rhit (flatP T) (rofI x) with
    | none =>
      rw [hr] at h1
      cases ht : tConf T x with
      | nil => rfl
      | cons a b => rw [ht] at h1; cases h1
    | some p =>
      rw [hr] at h1
      cases ht : tConf T x with
      | nil => rw [ht] at h1; cases h1
      | cons a b =>
        rw [ht] at h1
        have h2 : a = rlockI p := by simpa using h1
        rw [h2]
        rfl
theorem check_flat {T : Tb} (h : TInv T) (x : Lk) : rchkI (flatP T) x = chkI T x := by
  unfold rchkI chkI
  cases hx : okL x.own x.st x.len
  · rfl
  · simp only [if_true]
    have h1 := hit_flat h hx
    cases hr : rhit (flatP T) (rofI x) with
    | none =>
      rw [hr] at h1
      cases ht : tConf T x with
      | nil => rfl
      | cons a b => rw [ht] at h1; cases h1
    | some p =>
      rw [hr] at h1
      cases ht : tConf T x with
      | nil => rw [ht] at h1; cases h1
      | cons a b => rfl
/-- What holds between two acts. -/
structure GI (B : Nat) (T : Tb) (Q : List Lk) : Prop where
  inv : TInv T
  qok : QOk Q
  nd : (Q.map (·.own)).Nodup
  size : tAll T + 2 * Q.length ≤ B
theorem GI.nil (B : Nat) : GI B [] [] := ⟨TInv.nil, (by intro x hx; cases hx), List.nodup_nil, Nat.zero_le _⟩
theorem GI.mono {B B' : Nat} {T : Tb} {Q : List Lk} (h : GI B T Q) (hb : B ≤ B') : GI B' T Q := ⟨h.inv, h.qok, h.nd, Nat.le_trans h.size hb⟩
theorem GI.sub {B : Nat} {T T' : Tb} {Q Q' : List Lk} (h : GI B T Q) (hT : TInv T') (hQ : Q'.Sublist Q) (hl : tAll T' + 2 * Q'.length ≤ B) : GI B T' Q' :=
  ⟨hT, fun x hx => h.qok x (hQ.subset hx), (hQ.map _).nodup h.nd, hl⟩
theorem GI.scan {B : Nat} {T : Tb} {Q : List Lk} (hT : TInv T) (hQ : QOk Q) (hn : (Q.map (·.own)).Nodup) (hl : tAll T + 2 * Q.length ≤ B) (hB : B ≤ 900) (n : Nat) (out : List Int) :
    rscanF n (flatP T) out Q = ((flatP (scanF n T out Q).1.1, (scanF n T out Q).1.2), (scanF n T out Q).2) ∧ GI B (scanF n T out Q).1.1 (scanF n T out Q).2 := by
  have h := scan_flat n T out Q hT hQ (by omega)
  exact ⟨h.1, h.2.1, fun x hx => hQ x (h.2.2.1.subset hx), (h.2.2.1.map _).nodup hn, by omega⟩
theorem cancQ_sub (Q : List Lk) (o : Int) : (cancQ Q o).Sublist Q := by
  unfold cancQ
  split
  · exact List.eraseIdx_sublist _ _
  · exact List.Sublist.refl _
theorem GI.cancel {B : Nat} {T : Tb} {Q : List Lk} (h : GI B T Q) (o : Int) : GI B T (cancQ Q o) :=
  h.sub h.inv (cancQ_sub Q o) (by have := (cancQ_sub Q o).length_le; have := h.size; omega)
theorem GI.drop {B : Nat} {T : Tb} {Q : List Lk} (h : GI B T Q) (hB : B ≤ 900) (o : Int) :
    rdropF (flatP T) Q o = ((flatP (dropF T Q o).1.1, (dropF T Q o).1.2), (dropF T Q o).2) ∧ GI B (dropF T Q o).1.1 (dropF T Q o).2 := by
  have hc := h.cancel o
  unfold rdropF dropF
  rw [drop_flat h.inv]
  exact GI.scan (h.inv.del o) hc.qok hc.nd (by have := hc.size; have := tAll_del h.inv.ok.sort o; rw [tAll_tDel]; omega) hB _ _
/-- Release: its answers, and the table behind it. -/
def relF (T : Tb) (Q : List Lk) (o s n : Int) : (List Int × Int) × (Tb × List Lk) :=
  if okL o s n = false then (([], 34), (T, Q))
  else if 200 < relN T o s n then (([], 18), (T, Q))
  else (((scanF (Q.length + 1) (relT T o s n) [] Q).1.2, 0), ((scanF (Q.length + 1) (relT T o s n) [] Q).1.1, (scanF (Q.length + 1) (relT T o s n) [] Q).2))
theorem GI.rel {B : Nat} {T : Tb} {Q : List Lk} (h : GI B T Q) (hB : B ≤ 180) (o s n : Int) (hw : (Lit.int .i64 o).wf = true) :
    rrelF (flatP T) Q ⟨o, s, n, false⟩ = ((relF T Q o s n).1, (flatP (relF T Q o s n).2.1, (relF T Q o s n).2.2)) ∧ GI (B + 2) (relF T Q o s n).2.1 (relF T Q o s n).2.2 := by
  unfold rrelF relF
  cases hx : okL o s n
  · exact ⟨rfl, h.mono (by omega)⟩
  · simp only [Bool.true_eq_false, if_false]
    have hr := rel_flat h.inv hx
    have ha := h.inv.at o
    have hlen : (flatP (relT T o s n)).length = relN T o s n := by
      rw [flatP_len]
      unfold relT relN
      rw [tAll_put]; omega
    have hle := endI_le hx
    have h1 := rSp_len ha.1 hle
    have h2 := tAll_del h.inv.ok.sort o
    have h3 := h.size
    have hrn : relN T o s n ≤ tAll T + 1 := by unfold relN; omega
    have hf := fit_span (x := ⟨o, s, n, false⟩) hx
    rw [hr.1, hlen, if_neg (by omega), if_neg (by omega)]
    have hT : TInv (relT T o s n) := h.inv.put hw (rSp_ok ha.1 hle) (by omega) (join_fit (cut_fit ha.2.1 hf.1 hf.2 ha.1)) hr.2
    have hs := GI.scan (B := B + 2) hT h.qok h.nd (by rw [← flatP_len, hlen]; omega) (by omega) (Q.length + 1) []
    rw [hs.1]
    exact ⟨rfl, hs.2⟩
end
section
set_option linter.unusedVariables false
set_option linter.unusedSimpArgs false

/-- Reached from an owner by waiting. -/
inductive Rch (T : Tb) (f : Int → Option Lk) (o0 : Int) : Int → Prop
  | base : Rch T f o0 o0
  | step {o o' : Int} {x : Lk} : Rch T f o0 o → f o = some x → o' ∈ tOwn T x → Rch T f o0 o'
def Dead (T : Tb) (f : Int → Option Lk) (o0 : Int) : Prop := ∃ o x, Rch T f o0 o ∧ f o = some x ∧ o0 ∈ tOwn T x
theorem srch_sound {T : Tb} {f : Int → Option Lk} {o0 : Int} : ∀ (k : Nat) (s : Int → Bool) (t : List Int), (∀ o ∈ t, Rch T f o0 o) → srchT T f o0 k s t = true → Dead T f o0 := by
  intro k
  induction k with
  | zero => intro s t _ h; simp [srchT] at h
  | succ k ih =>
    intro s t ht h
    cases t with
    | nil => simp [srchT] at h
    | cons o t =>
      have ho := ht o (List.mem_cons_self ..)
      have ht2 : ∀ x ∈ t, Rch T f o0 x := fun x hx => ht x (List.mem_cons_of_mem _ hx)
      cases hf : f o with
      | none => simp only [srchT, hf] at h; exact ih s t ht2 h
      | some x =>
        simp only [srchT, hf] at h
        by_cases hs : s o = true
        · rw [if_pos hs] at h; exact ih s t ht2 h
        · rw [if_neg hs] at h
          by_cases hm : o0 ∈ tOwn T x
          · exact ⟨o, x, ho, hf, hm⟩
          · rw [if_neg hm] at h
            refine ih _ _ (fun y hy => ?_) h
            rcases List.mem_append.1 hy with hy | hy
            · exact ht2 y hy
            · exact .step ho hf hy
theorem srch_compl {T : Tb} {f : Int → Option Lk} {o0 : Int} {L : List Lk} (hL : ∀ o x, f o = some x → x ∈ L ∧ x.own = o) (hc : ∀ x, (tOwn T x).length ≤ 1000) : ∀ (k : Nat) (s : Int → Bool) (t : List Int), t.length + 1000 * unseen s L ≤ k →
    (∀ o, s o = true → ∀ x, f o = some x → o0 ∉ tOwn T x ∧ ∀ o' ∈ tOwn T x, s o' = true ∨ f o' = none ∨ o' ∈ t) → srchT T f o0 k s t = false →
    ∃ s' : Int → Bool, (∀ o, s o = true → s' o = true) ∧ (∀ o ∈ t, s' o = true ∨ f o = none) ∧ ∀ o, s' o = true → ∀ x, f o = some x → o0 ∉ tOwn T x ∧ ∀ o' ∈ tOwn T x, s' o' = true ∨ f o' = none := by
  have fin : ∀ (s : Int → Bool), (∀ o, s o = true → ∀ x, f o = some x → o0 ∉ tOwn T x ∧ ∀ o' ∈ tOwn T x, s o' = true ∨ f o' = none ∨ o' ∈ ([] : List Int)) → ∃ s' : Int → Bool, (∀ o, s o = true → s' o = true) ∧ (∀ o ∈ ([] : List Int), s' o = true ∨ f o = none) ∧ ∀ o, s' o = true → ∀ x, f o = some x → o0 ∉ tOwn T x ∧ ∀ o' ∈ tOwn T x, s' o' = true ∨ f o' = none :=
    fun s hJ => ⟨s, fun _ h => h, by simp, fun o ho x hx => ⟨(hJ o ho x hx).1, fun o' ho' => by
      rcases (hJ o ho x hx).2 o' ho' with h | h | h
      · exact .inl h
      · exact .inr h
      · cases h⟩⟩
  intro k
  induction k with
  | zero =>
    intro s t hk hJ _
    obtain rfl : t = [] := List.eq_nil_of_length_eq_zero (by omega)
    exact fin s hJ
  | succ k ih =>
    intro s t hk hJ h
    cases t with
    | nil => exact fin s hJ
    | cons o t =>
      rw [List.length_cons] at hk
      cases hf : f o with
      | none =>
        simp only [srchT, hf] at h
        obtain ⟨s', h1, h2, h3⟩ := ih s t (by omega) (fun o1 ho1 x hx => ⟨(hJ o1 ho1 x hx).1, fun o' ho' => by
          rcases (hJ o1 ho1 x hx).2 o' ho' with h | h | h
          · exact .inl h
          · exact .inr (.inl h)
          · rcases List.mem_cons.1 h with rfl | h
            · exact .inr (.inl hf)
            · exact .inr (.inr h)⟩) h
        refine ⟨s', h1, fun o1 ho1 => ?_, h3⟩
        rcases List.mem_cons.1 ho1 with rfl | ho1
        · exact .inr hf
        · exact h2 o1 ho1
      | some x =>
        simp only [srchT, hf] at h
        by_cases hs : s o = true
        · rw [if_pos hs] at h
          obtain ⟨s', h1, h2, h3⟩ := ih s t (by omega) (fun o1 ho1 x hx => ⟨(hJ o1 ho1 x hx).1, fun o' ho' => by
            rcases (hJ o1 ho1 x hx).2 o' ho' with h | h | h
            · exact .inl h
            · exact .inr (.inl h)
            · rcases List.mem_cons.1 h with rfl | h
              · exact .inl hs
              · exact .inr (.inr h)⟩) h
          refine ⟨s', h1, fun o1 ho1 => ?_, h3⟩
          rcases List.mem_cons.1 ho1 with rfl | ho1
          · exact .inl (h1 _ hs)
          · exact h2 o1 ho1
        · rw [if_neg hs] at h
          by_cases hm : o0 ∈ tOwn T x
          · rw [if_pos hm] at h; cases h
          · rw [if_neg hm] at h
            have hx := hL o x hf
            have hu := unseen_put hx.1 (s := s) (by rw [hx.2]; simpa using hs)
            rw [hx.2] at hu
            have hcx := hc x
            obtain ⟨s', h1, h2, h3⟩ := ih (sPut s o) (t ++ tOwn T x) (by rw [List.length_append]; omega) (fun o1 ho1 x1 hx1 => by
              by_cases he : o1 = o
              · subst he
                have : x = x1 := by rw [hf] at hx1; exact Option.some.inj hx1
                subst this
                exact ⟨hm, fun o' ho' => .inr (.inr (List.mem_append_right _ ho'))⟩
              · have hs1 : s o1 = true := by unfold sPut at ho1; rw [if_neg he] at ho1; exact ho1
                refine ⟨(hJ o1 hs1 x1 hx1).1, fun o' ho' => ?_⟩
                rcases (hJ o1 hs1 x1 hx1).2 o' ho' with h | h | h
                · left; unfold sPut; split; rfl; exact h
                · exact .inr (.inl h)
                · rcases List.mem_cons.1 h with rfl | h
                  · left; unfold sPut; rw [if_pos rfl]
                  · exact .inr (.inr (List.mem_append_left _ h))) h
            refine ⟨s', fun o1 ho1 => h1 o1 (by unfold sPut; split; rfl; exact ho1), fun o1 ho1 => ?_, h3⟩
            rcases List.mem_cons.1 ho1 with rfl | ho1
            · exact .inl (h1 _ (by unfold sPut; rw [if_pos rfl]))
            · exact h2 o1 (List.mem_append_left _ ho1)
theorem dead_iff {T : Tb} (hT : TOk T) (hl : tAll T ≤ 1000) {Q : List Lk} {l : Lk} (hf0 : wtF l Q l.own = some l) : deadT T Q l = true ↔ Dead T (wtF l Q) l.own := by
  refine ⟨fun h => srch_sound _ _ _ (fun o ho => by rw [List.mem_singleton.1 ho]; exact .base) h, fun hd => ?_⟩
  cases h : deadT T Q l with
  | true => rfl
  | false =>
    exfalso
    have hu : unseen (fun _ => false) (l :: Q) = Q.length + 1 := by unfold unseen; simp
    obtain ⟨s', -, h2, h3⟩ := srch_compl (L := l :: Q) (fun o x hx => wtF_mem hx) (fun x => by unfold tOwn; rw [List.length_map]; have := tConf_len hT x; omega) (fuelB Q) (fun _ => false) [l.own] (by rw [hu, List.length_singleton]; unfold fuelB; omega) (fun o ho => by cases ho) h
    have key : ∀ o, Rch T (wtF l Q) l.own o → s' o = true ∨ wtF l Q o = none := by
      intro o ho
      induction ho with
      | base => exact h2 _ (by simp)
      | step hr hx hm ih =>
        rcases ih with ih | ih
        · exact (h3 _ ih _ hx).2 _ hm
        · rw [ih] at hx; cases hx
    obtain ⟨o, x, hr, hx, hm⟩ := hd
    rcases key o hr with h | h
    · exact (h3 o h x hx).1 hm
    · rw [h] at hx; cases hx

theorem rqAt_find (Q : List Lk) (o : Int) : rqAt Q o = Q.find? (fun l => l.own == o) := by
  unfold rqAt
  rw [idx_filter, List.head?_filter]
theorem wtF_fold {o : Int} : ∀ (Q : List Lk) (f : Int → Option Lk), (Q.map (·.own)).Nodup → (Q.foldl wPut f) o = (rqAt Q o).or (f o) := by
  intro Q
  induction Q with
  | nil => intro f _; rfl
  | cons a Q ih =>
    intro f hn
    rw [List.map_cons, List.nodup_cons] at hn
    rw [List.foldl_cons, ih _ hn.2, rqAt_find, rqAt_find, List.find?_cons]
    by_cases ha : a.own = o
    · rw [show (a.own == o) = true by simp [ha]]
      have hnone : Q.find? (fun l => l.own == o) = none := by
        rw [List.find?_eq_none]
        intro x hx
        have : x.own ≠ a.own := fun e => hn.1 (List.mem_map.2 ⟨x, hx, e⟩)
        simp; omega
      rw [hnone]
      unfold wPut
      simp [ha]
    · rw [show (a.own == o) = false by simpa using ha]
      unfold wPut
      rw [if_neg (fun e => ha e.symm)]
theorem wtF_eq {Q : List Lk} {l : Lk} (hn : (Q.map (·.own)).Nodup) (hl : ¬ l.own ∈ Q.map (·.own)) (o : Int) : wtF l Q o = if o = l.own then some l else rqAt Q o := by
  unfold wtF
  rw [wtF_fold Q _ hn]
  by_cases h : o = l.own
  · rw [if_pos h, h]
    have hnone : rqAt Q l.own = none := by
      rw [rqAt_find, List.find?_eq_none]
      intro x hx
      have : x.own ≠ l.own := fun e => hl (List.mem_map.2 ⟨x, hx, e⟩)
      simpa using this
    rw [hnone]
    simp [wPut]
  · rw [if_neg h]
    have : wPut (fun _ => none) l o = none := by unfold wPut; rw [if_neg h]
    rw [this]
    simp
theorem rqAt_mem {Q : List Lk} {o : Int} {y : Lk} (h : rqAt Q o = some y) : y ∈ Q := by
  rw [rqAt_find] at h
  exact List.mem_of_find?_eq_some h
/-- Whom one's conflicts belong to. -/
def Conf (P : List Pc) (c : Pc) (o : Int) : Prop := ∃ g ∈ P, rconfI g c = true ∧ g.own = o
theorem mem_tOwn {T : Tb} (h : TInv T) {x : Lk} (hx : okL x.own x.st x.len = true) (o : Int) : o ∈ tOwn T x ↔ Conf (flatP T) (rofI x) o := by
  unfold tOwn Conf
  rw [conf_flat h hx, List.map_map, List.mem_map]
  constructor
  · rintro ⟨g, hg, rfl⟩
    rw [List.mem_filter] at hg
    exact ⟨g, hg.1, hg.2, rfl⟩
  · rintro ⟨g, h1, h2, rfl⟩
    exact ⟨g, List.mem_filter.2 ⟨h1, h2⟩, rfl⟩
theorem rinn_none {Q : List Lk} {o0 : Int} {c : Pc} : ∀ {P : List Pc} {s : List Int} {t : List Lk}, rinn Q o0 c P s t = none → Conf P c o0 := by
  intro P
  induction P with
  | nil => intro s t h; cases h
  | cons g P ih =>
    intro s t h
    have up : Conf P c o0 → Conf (g :: P) c o0 := fun ⟨x, h1, h2⟩ => ⟨x, List.mem_cons_of_mem _ h1, h2⟩
    unfold rinn at h
    by_cases hg : rconfI g c = false
    · rw [if_pos hg] at h; exact up (ih h)
    · rw [if_neg hg] at h
      by_cases ho : g.own = o0
      · exact ⟨g, List.mem_cons_self .., by simpa using hg, ho⟩
      · rw [if_neg ho] at h
        by_cases hs : g.own ∈ s
        · rw [if_pos hs] at h; exact up (ih h)
        · rw [if_neg hs] at h; exact up (ih h)
/-- What the inner search leaves. -/
structure RInn (P0 : List Pc) (Q : List Lk) (o0 : Int) (c : Pc) (P : List Pc) (s : List Int) (t : List Lk) (s' : List Int) (t' : List Lk) : Prop where
  all : ∀ g ∈ P, rconfI g c = true → g.own ≠ o0 ∧ g.own ∈ s'
  sub : ∀ o ∈ s, o ∈ s'
  subt : ∀ y ∈ t, y ∈ t'
  news : ∀ o ∈ s', o ∈ s ∨ ∀ y, rqAt Q o = some y → y ∈ t'
  fromt : ∀ y ∈ t', y ∈ t ∨ ∃ o, Conf P c o ∧ o ≠ o0 ∧ rqAt Q o = some y
  seen : SeenOk P0 s'
  size : t'.length + 2 * (200 - s'.length) ≤ t.length + 2 * (200 - s.length)
theorem rinn_some {P0 : List Pc} {Q : List Lk} {o0 : Int} {c : Pc} (h0 : P0.length ≤ 200) : ∀ {P : List Pc} {s : List Int} {t : List Lk} {s' : List Int} {t' : List Lk}, (∀ g ∈ P, g ∈ P0) → SeenOk P0 s → rinn Q o0 c P s t = some (s', t') → RInn P0 Q o0 c P s t s' t' := by
  intro P
  induction P with
  | nil =>
    intro s t s' t' _ hs h
    unfold rinn at h
    injection h with h
    injection h with h1 h2
    subst h1 h2
    exact ⟨by simp, fun o h => h, fun y h => h, fun o h => .inl h, fun y h => .inl h, hs, Nat.le_refl _⟩
  | cons g P ih =>
    intro s t s' t' hP hs h
    have hP2 : ∀ g ∈ P, g ∈ P0 := fun x hx => hP x (List.mem_cons_of_mem _ hx)
    have up : ∀ o, Conf P c o → Conf (g :: P) c o := fun o ⟨x, h1, h2⟩ => ⟨x, List.mem_cons_of_mem _ h1, h2⟩
    unfold rinn at h
    by_cases hg : rconfI g c = false
    · rw [if_pos hg] at h
      have r := ih hP2 hs h
      exact ⟨fun x hx hc => by
        rcases List.mem_cons.1 hx with rfl | hx
        · rw [hg] at hc; cases hc
        · exact r.all x hx hc, r.sub, r.subt, r.news, fun y hy => (r.fromt y hy).imp_right (fun ⟨o, h1, h2⟩ => ⟨o, up o h1, h2⟩), r.seen, r.size⟩
    · have hgt : rconfI g c = true := by simpa using hg
      rw [if_neg hg] at h
      by_cases ho : g.own = o0
      · rw [if_pos ho] at h; cases h
      · rw [if_neg ho] at h
        by_cases hsn : g.own ∈ s
        · rw [if_pos hsn] at h
          have r := ih hP2 hs h
          exact ⟨fun x hx hc => by
            rcases List.mem_cons.1 hx with rfl | hx
            · exact ⟨ho, r.sub _ hsn⟩
            · exact r.all x hx hc, r.sub, r.subt, r.news, fun y hy => (r.fromt y hy).imp_right (fun ⟨o, h1, h2⟩ => ⟨o, up o h1, h2⟩), r.seen, r.size⟩
        · rw [if_neg hsn] at h
          have hs2 := hs.snoc (hP g (List.mem_cons_self ..)) hsn
          have hl2 := hs2.len
          rw [List.length_append, List.length_singleton] at hl2
          have r := ih hP2 hs2 h
          have hsz := r.size
          rw [List.length_append, List.length_append, List.length_singleton] at hsz
          have hq1 : (rqAt Q g.own).toList.length ≤ 1 := by cases rqAt Q g.own <;> simp
          refine ⟨fun x hx hc => ?_, fun o h1 => r.sub o (List.mem_append_left _ h1), fun y hy => r.subt y (List.mem_append_left _ hy), fun o h1 => ?_, fun y hy => ?_, r.seen, by omega⟩
          · rcases List.mem_cons.1 hx with rfl | hx
            · exact ⟨ho, r.sub _ (by simp)⟩
            · exact r.all x hx hc
          · rcases r.news o h1 with h2 | h2
            · rcases List.mem_append.1 h2 with h2 | h2
              · exact .inl h2
              · right
                rw [List.mem_singleton.1 h2]
                intro y hy
                exact r.subt y (List.mem_append_right _ (by rw [hy]; simp))
            · exact .inr h2
          · rcases r.fromt y hy with h2 | ⟨o, h2, h3⟩
            · rcases List.mem_append.1 h2 with h2 | h2
              · exact .inl h2
              · right
                cases hq : rqAt Q g.own with
                | none => rw [hq] at h2; cases h2
                | some z =>
                  rw [hq] at h2
                  have : y = z := by simpa using h2
                  subst this
                  exact ⟨g.own, ⟨g, List.mem_cons_self .., hgt, rfl⟩, ho, hq⟩
            · exact .inr ⟨o, up o h2, h3⟩
theorem rsrch_sound {T : Tb} (hT : TInv T) (hP : (flatP T).length ≤ 200) {Q : List Lk} {l : Lk} (hQ : ∀ y ∈ l :: Q, okL y.own y.st y.len = true) (hf : ∀ o, wtF l Q o = if o = l.own then some l else rqAt Q o) : ∀ (n : Nat) (s : List Int) (t : List Lk), SeenOk (flatP T) s →
    (∀ y ∈ t, y ∈ l :: Q ∧ ∃ o, Rch T (wtF l Q) l.own o ∧ wtF l Q o = some y) → rsrch (flatP T) Q l.own n s t = true → Dead T (wtF l Q) l.own := by
  intro n
  induction n with
  | zero => intro s t _ _ h; simp [rsrch] at h
  | succ n ih =>
    intro s t hs ht h
    cases t with
    | nil => simp [rsrch] at h
    | cons y t =>
      obtain ⟨hym, o, hr, hy⟩ := ht y (List.mem_cons_self ..)
      have hyo := hQ y hym
      simp only [rsrch] at h
      cases hi : rinn Q l.own (rofI y) (flatP T) s t with
      | none => exact ⟨o, y, hr, hy, (mem_tOwn hT hyo _).2 (rinn_none hi)⟩
      | some p =>
        obtain ⟨s', t'⟩ := p
        rw [hi] at h
        have r := rinn_some hP (fun g hg => hg) hs hi
        refine ih s' t' r.seen (fun z hz => ?_) h
        rcases r.fromt z hz with h1 | ⟨o', h1, h2, h3⟩
        · exact ht z (List.mem_cons_of_mem _ h1)
        · exact ⟨List.mem_cons_of_mem _ (rqAt_mem h3), o', .step hr hy ((mem_tOwn hT hyo _).2 h1), by rw [hf, if_neg h2]; exact h3⟩
theorem rsrch_compl {T : Tb} (hT : TInv T) (hP : (flatP T).length ≤ 200) {Q : List Lk} {o0 : Int} : ∀ (n : Nat) (s : List Int) (t : List Lk) (D : Lk → Prop), SeenOk (flatP T) s → t.length + 2 * (200 - s.length) ≤ n → (∀ y ∈ t, okL y.own y.st y.len = true) → (∀ y ∈ Q, okL y.own y.st y.len = true) →
    (∀ y, D y → ∀ o' ∈ tOwn T y, o' ≠ o0 ∧ o' ∈ s) → (∀ o ∈ s, ∀ y, rqAt Q o = some y → D y ∨ y ∈ t) → rsrch (flatP T) Q o0 n s t = false →
    ∃ (D' : Lk → Prop) (s' : List Int), (∀ y, D y → D' y) ∧ (∀ y ∈ t, D' y) ∧ (∀ y, D' y → ∀ o' ∈ tOwn T y, o' ≠ o0 ∧ o' ∈ s') ∧ ∀ o ∈ s', ∀ y, rqAt Q o = some y → D' y := by
  intro n
  induction n with
  | zero =>
    intro s t D hs hn _ _ h1 h2 _
    obtain rfl : t = [] := List.eq_nil_of_length_eq_zero (by omega)
    exact ⟨D, s, fun _ h => h, by simp, h1, fun o ho y hy => (h2 o ho y hy).elim id (fun h => by cases h)⟩
  | succ n ih =>
    intro s t D hs hn ht hQ h1 h2 h
    cases t with
    | nil => exact ⟨D, s, fun _ h => h, by simp, h1, fun o ho y hy => (h2 o ho y hy).elim id (fun h => by cases h)⟩
    | cons l t =>
      have hlo := ht l (List.mem_cons_self ..)
      simp only [rsrch] at h
      cases hi : rinn Q o0 (rofI l) (flatP T) s t with
      | none => rw [hi] at h; cases h
      | some p =>
        obtain ⟨s1, t1⟩ := p
        rw [hi] at h
        have r := rinn_some hP (fun g hg => hg) hs hi
        have hsz := r.size
        rw [List.length_cons] at hn
        obtain ⟨D', s', d1, d2, d3, d4⟩ := ih s1 t1 (fun y => D y ∨ y = l) r.seen (by omega) (fun y hy => by
          rcases r.fromt y hy with h3 | ⟨o, -, -, h3⟩
          · exact ht y (List.mem_cons_of_mem _ h3)
          · exact hQ y (rqAt_mem h3)) hQ (fun y hy o' ho' => by
          rcases hy with hy | rfl
          · exact ⟨(h1 y hy o' ho').1, r.sub o' (h1 y hy o' ho').2⟩
          · obtain ⟨g, hg, hg2, rfl⟩ := (mem_tOwn hT hlo _).1 ho'
            exact r.all g hg hg2) (fun o ho y hy => by
          rcases r.news o ho with h3 | h3
          · rcases h2 o h3 y hy with h4 | h4
            · exact .inl (.inl h4)
            · rcases List.mem_cons.1 h4 with rfl | h4
              · exact .inl (.inr rfl)
              · exact .inr (r.subt y h4)
          · exact .inr (h3 y hy)) h
        refine ⟨D', s', fun y hy => d1 y (.inl hy), fun y hy => ?_, d3, d4⟩
        rcases List.mem_cons.1 hy with rfl | hy
        · exact d1 _ (.inr rfl)
        · exact d2 y (r.subt y hy)
theorem reach_iff {T : Tb} (hT : TInv T) (hP : (flatP T).length ≤ 200) {Q : List Lk} {l : Lk} (hQ : ∀ y ∈ l :: Q, okL y.own y.st y.len = true) (hf : ∀ o, wtF l Q o = if o = l.own then some l else rqAt Q o) : rreach (flatP T) Q l = true ↔ Dead T (wtF l Q) l.own := by
  have hf0 : wtF l Q l.own = some l := by rw [hf, if_pos rfl]
  refine ⟨fun h => rsrch_sound hT hP hQ hf 401 [] [l] ⟨List.nodup_nil, by simp⟩ (fun y hy => by rw [List.mem_singleton.1 hy]; exact ⟨List.mem_cons_self .., _, .base, hf0⟩) h, fun hd => ?_⟩
  cases h : rreach (flatP T) Q l with
  | true => rfl
  | false =>
    exfalso
    obtain ⟨D', s', -, d2, d3, d4⟩ := rsrch_compl hT hP (o0 := l.own) 401 [] [l] (fun _ => False) ⟨List.nodup_nil, by simp⟩ (by simp) (fun y hy => by rw [List.mem_singleton.1 hy]; exact hQ l (List.mem_cons_self ..)) (fun y hy => hQ y (List.mem_cons_of_mem _ hy)) (fun y hy => hy.elim) (by simp) h
    have key : ∀ o, Rch T (wtF l Q) l.own o → ∀ x, wtF l Q o = some x → D' x := by
      intro o ho
      induction ho with
      | base => intro x hx; rw [hf0] at hx; injection hx with hx; rw [← hx]; exact d2 l (by simp)
      | step hr hx hm ih =>
        intro y hy
        have h1 := d3 _ (ih _ hx) _ hm
        rw [hf, if_neg h1.1] at hy
        exact d4 _ h1.2 y hy
    obtain ⟨o, x, hr, hx, hm⟩ := hd
    exact (d3 x (key o hr x hx) _ hm).1 rfl
theorem dead_flat {T : Tb} (hT : TInv T) (hl : tAll T ≤ 200) {Q : List Lk} {l : Lk} (hQ : QOk Q) (hlo : okL l.own l.st l.len = true) (hn : (Q.map (·.own)).Nodup) (hnl : ¬ l.own ∈ Q.map (·.own)) : rreach (flatP T) Q l = deadT T Q l := by
  have hf := wtF_eq hn hnl
  have h1 := reach_iff hT (by rw [flatP_len]; exact hl) (l := l) (Q := Q) (fun y hy => by
    rcases List.mem_cons.1 hy with rfl | hy
    · exact hlo
    · exact (hQ y hy).1) hf
  have h2 := dead_iff hT.ok (by omega) (Q := Q) (l := l) (by rw [hf, if_pos rfl])
  rw [Bool.eq_iff_iff, h1, h2]
end
section
set_option linter.unusedVariables false
set_option linter.unusedSimpArgs false

theorem fd_mem {Q : List Lk} {o : Int} (h : ¬ fdI Q o < Q.length) : ¬ o ∈ Q.map (·.own) := by
  intro hm
  obtain ⟨x, hx, rfl⟩ := List.mem_map.1 hm
  exact h (List.findIdx_lt_length_of_exists ⟨x, hx, by simp⟩)
theorem GI.set {B : Nat} {T : Tb} {Q : List Lk} (h : GI B T Q) (hB : B ≤ 180) (l : Lk) (wt : Bool) (hw : (Lit.int .i64 l.own).wf = true) :
    rsetF (flatP T) Q l wt = ((setF T Q l wt).1, (flatP (setF T Q l wt).2.1, (setF T Q l wt).2.2)) ∧ GI (B + 2) (setF T Q l wt).2.1 (setF T Q l wt).2.2 := by
  have hm := h.mono (B' := B + 2) (by omega)
  have hsz := h.size
  unfold rsetF setF
  by_cases h1 : okL l.own l.st l.len = false
  · rw [if_pos h1, if_pos h1]; exact ⟨rfl, hm⟩
  rw [if_neg h1, if_neg h1]
  have hl : okL l.own l.st l.len = true := by simpa using h1
  by_cases h2 : fdI Q l.own < Q.length
  · rw [if_pos h2, if_pos h2]; exact ⟨rfl, hm⟩
  rw [if_neg h2, if_neg h2, conf_empty h.inv hl]
  by_cases h3 : (tConf T l).isEmpty = true
  · rw [if_pos h3, if_pos h3]
    have hg := grT_ok h.inv.ok hl hw (by omega)
    have hlen : (rwithP (flatP T) (rofI l)).length = tAll (grT T l) := by
      have h1 := grT_flat h.inv hl
      unfold rgrT at h1
      rw [h1, flatP_len]
    have hgr : grB T l = true := by
      unfold grB
      rw [h3]
      have := with_len h.inv hl
      simp only [Bool.true_and, decide_eq_true_eq]
      omega
    rw [if_pos hgr, if_pos (by omega)]
    have hgf := grT_flat h.inv hl
    unfold rgrT at hgf
    rw [hgf]
    have hs := GI.scan (B := B + 2) (h.inv.gr hl hw (by omega)) h.qok h.nd (by omega) (by omega) (Q.length + 1) []
    rw [hs.1]
    exact ⟨rfl, hs.2⟩
  · rw [if_neg h3, if_neg h3]
    by_cases h4 : wt = false
    · rw [if_pos h4, if_pos h4]; exact ⟨rfl, hm⟩
    have hq : ¬ 200 ≤ Q.length := by omega
    rw [if_neg h4, if_neg h4, if_neg hq, if_neg hq, dead_flat h.inv (by omega) h.qok hl h.nd (fd_mem h2)]
    by_cases h5 : deadT T Q l = true
    · rw [if_pos h5, if_pos h5]; exact ⟨rfl, hm⟩
    · rw [if_neg h5, if_neg h5]
      refine ⟨rfl, h.inv, fun x hx => ?_, ?_, ?_⟩
      · rcases List.mem_append.1 hx with hx | hx
        · exact h.qok x hx
        · rw [List.mem_singleton.1 hx]; exact ⟨hl, hw⟩
      · rw [List.map_append, List.nodup_append]
        refine ⟨h.nd, List.nodup_cons.2 ⟨by simp, List.nodup_nil⟩, fun a ha b hb => ?_⟩
        have : b = l.own := by simpa using hb
        rw [this]
        exact fun e => fd_mem h2 (e ▸ ha)
      · show tAll T + 2 * (Q ++ [l]).length ≤ B + 2
        rw [List.length_append, List.length_singleton]; omega
/-- One act. -/
def actF (T : Tb) (Q : List Lk) (k : Int) (l : Lk) : Tb × List Lk :=
  if k = 0 then (setF T Q l false).2 else if k = 1 then (setF T Q l true).2 else if k = 2 then (relF T Q l.own l.st l.len).2 else if k = 3 then (T, cancQ Q l.own) else if k = 4 then ((dropF T Q l.own).1.1, (dropF T Q l.own).2) else (T, Q)
theorem GI.act {B : Nat} {T : Tb} {Q : List Lk} (h : GI B T Q) (hB : B ≤ 180) (k : Int) (l : Lk) (hw : (Lit.int .i64 l.own).wf = true) : GI (B + 2) (actF T Q k l).1 (actF T Q k l).2 := by
  unfold actF
  split
  · exact (h.set hB l false hw).2
  split
  · exact (h.set hB l true hw).2
  split
  · exact (h.rel hB l.own l.st l.len hw).2
  split
  · exact (h.cancel l.own).mono (by omega)
  split
  · exact (h.drop (by omega) l.own).2.mono (by omega)
  · exact h.mono (by omega)
/-- Many acts. -/
def playF (L : List (Int × Lk)) : Tb × List Lk := L.foldl (fun s a => actF s.1 s.2 a.1 a.2) ([], [])
theorem playF_snoc {L : List (Int × Lk)} {k : Nat} {a : Int × Lk} (h : L[k]? = some a) : playF (L.take (k + 1)) = actF (playF (L.take k)).1 (playF (L.take k)).2 a.1 a.2 := by
  unfold playF
  rw [List.take_add_one, h, List.foldl_append]
  rfl
theorem playF_ok (L : List (Int × Lk)) (hw : ∀ a ∈ L, (Lit.int .i64 a.2.own).wf = true) (hl : L.length ≤ 60) : ∀ k, k ≤ L.length → GI (2 * k) (playF (L.take k)).1 (playF (L.take k)).2 := by
  intro k
  induction k with
  | zero => intro _; rw [List.take_zero]; exact GI.nil _
  | succ k ih =>
    intro hk
    have h1 := ih (by omega)
    have hx : L[k]? = some L[k] := List.getElem?_eq_getElem (by omega)
    rw [playF_snoc hx]
    have := h1.act (by omega) L[k].1 L[k].2 (hw _ (List.getElem_mem _))
    exact this.mono (by omega)
end
end Go.Proofs.YtoolflmaaooplaaGreat
