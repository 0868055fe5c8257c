/- Ranges: plain tables; scan, one pass. -/
import Derived.Test.YtoolflmaaooplaaGreatMD
import Derived.Test.YtoolflmaaooplaaGreatME
import Derived.Deep.MidRow
namespace Go.Proofs.YtoolflmaaooplaaGreat
section
set_option linter.unusedVariables false
set_option linter.unusedSimpArgs false

/-- Spans in order and apart. -/
structure SpOk (l : List Sp) : Prop where
  apart : l.Pairwise (fun a b => a.hi ≤ b.lo)
  each : ∀ s ∈ l, 0 ≤ s.lo ∧ s.lo < s.hi ∧ s.hi ≤ 1152921504606846976
/-- A span put at its place. -/
def insLo (S : Sp) : List Sp → List Sp
  | [] => [S]
  | x :: l => if S.lo < x.lo then S :: x :: l else x :: insLo S l
theorem mem_insLo {S x : Sp} {l : List Sp} : x ∈ insLo S l ↔ x = S ∨ x ∈ l := by
  induction l with
  | nil => simp [insLo]
  | cons y l ih =>
    unfold insLo
    split
    · simp
    · rw [List.mem_cons, ih, List.mem_cons]
      constructor
      · rintro (h | h | h)
        · exact .inr (.inl h)
        · exact .inl h
        · exact .inr (.inr h)
      · rintro (h | h | h)
        · exact .inr (.inl h)
        · exact .inl h
        · exact .inr (.inr h)
theorem insLo_perm (S : Sp) (l : List Sp) : (insLo S l).Perm (l ++ [S]) := by
  induction l with
  | nil => exact List.Perm.refl _
  | cons y l ih =>
    unfold insLo
    split
    · exact (List.perm_append_singleton S (y :: l)).symm
    · exact ih.cons y
/-- Apart from a span. -/
def Off (S : Sp) (l : List Sp) : Prop := ∀ s ∈ l, s.hi ≤ S.lo ∨ S.hi ≤ s.lo
theorem ins_ok {S : Sp} {l : List Sp} (h : SpOk l) (hS : 0 ≤ S.lo ∧ S.lo < S.hi ∧ S.hi ≤ 1152921504606846976) (ho : Off S l) : SpOk (insLo S l) := by
  refine ⟨?_, fun s hs => ?_⟩
  · have h1 := h.apart
    have h2 := h.each
    clear h
    induction l with
    | nil => exact List.pairwise_singleton _ _
    | cons x l ih =>
      rw [List.pairwise_cons] at h1
      have hx := h2 x (List.mem_cons_self ..)
      have ox := ho x (List.mem_cons_self ..)
      unfold insLo
      split
      · rename_i hlt
        have hsx : S.hi ≤ x.lo := by omega
        refine List.pairwise_cons.2 ⟨fun y hy => ?_, List.pairwise_cons.2 h1⟩
        rcases List.mem_cons.1 hy with rfl | hy
        · exact hsx
        · have := h1.1 y hy; omega
      · rename_i hge
        have hxs : x.hi ≤ S.lo := by omega
        refine List.pairwise_cons.2 ⟨fun y hy => ?_, ih (fun s hs => ho s (List.mem_cons_of_mem _ hs)) h1.2 (fun s hs => h2 s (List.mem_cons_of_mem _ hs))⟩
        rcases mem_insLo.1 hy with rfl | hy
        · exact hxs
        · exact h1.1 y hy
  · rcases mem_insLo.1 hs with rfl | hs
    · exact hS
    · exact h.each s hs
theorem mem_cut {l : List Sp} {lo hi : Int} {x : Sp} : x ∈ cutP l lo hi ↔ ∃ s ∈ l, (s.lo < min s.hi lo ∧ x = ⟨s.lo, min s.hi lo, s.ex⟩) ∨ (max s.lo hi < s.hi ∧ x = ⟨max s.lo hi, s.hi, s.ex⟩) := by
  unfold cutP leftP rightP
  rw [List.mem_flatMap]
  constructor
  · rintro ⟨s, hs, hx⟩
    refine ⟨s, hs, ?_⟩
    rw [List.mem_append] at hx
    rcases hx with hx | hx
    · split at hx
      · exact .inl ⟨by assumption, by simpa using hx⟩
      · cases hx
    · split at hx
      · exact .inr ⟨by assumption, by simpa using hx⟩
      · cases hx
  · rintro ⟨s, hs, ⟨h1, rfl⟩ | ⟨h1, rfl⟩⟩
    · exact ⟨s, hs, List.mem_append_left _ (by rw [if_pos h1]; simp)⟩
    · exact ⟨s, hs, List.mem_append_right _ (by rw [if_pos h1]; simp)⟩
theorem cut_off {l : List Sp} {S : Sp} : Off S (cutP l S.lo S.hi) := by
  intro x hx
  obtain ⟨s, hs, ⟨h1, rfl⟩ | ⟨h1, rfl⟩⟩ := mem_cut.1 hx
  · left; simp only; omega
  · right; simp only; omega
theorem cut_ok {l : List Sp} (h : SpOk l) {lo hi : Int} (hlh : lo ≤ hi) : SpOk (cutP l lo hi) := by
  refine ⟨?_, fun x hx => ?_⟩
  · unfold cutP
    rw [List.pairwise_flatMap]
    refine ⟨fun s hs => ?_, h.apart.imp_of_mem fun {a b} ha hb hab x hx y hy => ?_⟩
    · unfold leftP rightP
      split <;> split <;> simp
      omega
    · have hx' : x.hi ≤ a.hi := by
        unfold leftP rightP at hx
        rw [List.mem_append] at hx
        rcases hx with hx | hx
        · split at hx
          · rw [List.mem_singleton] at hx; subst hx; simp only; omega
          · cases hx
        · split at hx
          · rw [List.mem_singleton] at hx; subst hx; simp
          · cases hx
      have hy' : b.lo ≤ y.lo := by
        unfold leftP rightP at hy
        rw [List.mem_append] at hy
        rcases hy with hy | hy
        · split at hy
          · rw [List.mem_singleton] at hy; subst hy; simp
          · cases hy
        · split at hy
          · rw [List.mem_singleton] at hy; subst hy; simp only; omega
          · cases hy
      omega
  · obtain ⟨s, hs, ⟨h1, rfl⟩ | ⟨h1, rfl⟩⟩ := mem_cut.1 hx
    · have := h.each s hs; simp only; omega
    · have := h.each s hs; simp only; omega
/-- Joining leaves the spans in order and apart. -/
theorem join_ok {l : List Sp} (h : SpOk l) : SpOk (joinP l) := by
  have key : ∀ (l out : List Sp), SpOk out → SpOk l → (∀ a ∈ out, ∀ b ∈ l, a.hi ≤ b.lo) → SpOk (l.foldl joinS out) := by
    intro l
    induction l with
    | nil => intro out h _ _; exact h
    | cons s l ih =>
      intro out ho hl hb
      have hl1 := List.pairwise_cons.1 hl.apart
      have hs := hl.each s (List.mem_cons_self ..)
      have hl2 : SpOk l := ⟨hl1.2, fun x hx => hl.each x (List.mem_cons_of_mem _ hx)⟩
      rw [List.foldl_cons]
      have step : SpOk (joinS out s) ∧ ∀ a ∈ joinS out s, ∀ b ∈ l, a.hi ≤ b.lo := by
        rcases List.eq_nil_or_concat out with rfl | ⟨A, z, rfl⟩
        · have e : joinS [] s = [s] := rfl
          rw [e]
          exact ⟨⟨List.pairwise_singleton _ _, fun x hx => by rw [List.mem_singleton] at hx; subst hx; exact hs⟩, fun a ha b hb' => by rw [List.mem_singleton] at ha; subst ha; exact hl1.1 b hb'⟩
        · rw [List.concat_eq_append] at ho hb ⊢
          rw [joinS_some]
          have hz := ho.each z (by simp)
          have hzs := hb z (by simp) s (List.mem_cons_self ..)
          have hA := List.pairwise_append.1 ho.apart
          split
          · refine ⟨⟨List.pairwise_append.2 ⟨hA.1, List.pairwise_singleton _ _, fun a ha b hb' => ?_⟩, fun x hx => ?_⟩, fun a ha b hb' => ?_⟩
            · rw [List.mem_singleton] at hb'; subst hb'
              exact hA.2.2 a ha z (by simp)
            · rcases List.mem_append.1 hx with hx | hx
              · exact ho.each x (List.mem_append_left _ hx)
              · rw [List.mem_singleton] at hx; subst hx; simp only; omega
            · rcases List.mem_append.1 ha with ha | ha
              · exact hb a (List.mem_append_left _ ha) b (List.mem_cons_of_mem _ hb')
              · rw [List.mem_singleton] at ha; subst ha; exact hl1.1 b hb'
          · refine ⟨⟨List.pairwise_append.2 ⟨ho.apart, List.pairwise_singleton _ _, fun a ha b hb' => ?_⟩, fun x hx => ?_⟩, fun a ha b hb' => ?_⟩
            · rw [List.mem_singleton] at hb'; subst hb'
              exact hb a ha b (List.mem_cons_self ..)
            · rcases List.mem_append.1 hx with hx | hx
              · exact ho.each x hx
              · rw [List.mem_singleton] at hx; subst hx; exact hs
            · rcases List.mem_append.1 ha with ha | ha
              · exact hb a ha b (List.mem_cons_of_mem _ hb')
              · rw [List.mem_singleton] at ha; subst ha; exact hl1.1 b hb'
      exact ih _ step.1 hl2 step.2
  exact key l [] ⟨List.Pairwise.nil, by simp⟩ h (by simp)
/-- What is sorted is sorted in one way, where the spans lie apart. -/
theorem sorted_one {L l' : List Sp} (hL : SpOk L) (hp : l'.Perm L) (hs : l'.Pairwise (fun a b => ¬ b.lo < a.lo)) : l' = L := by
  refine hp.eq_of_pairwise (le := fun a b => a.lo ≤ b.lo) (fun a b ha hb h1 h2 => ?_) (hs.imp fun h => by omega) (hL.apart.imp_of_mem fun {a b} ha hb h => by have := hL.each a ha; omega)
  have ha' := hp.mem_iff.1 ha
  have e : a.lo = b.lo := by omega
  obtain ⟨i, hi, rfl⟩ := List.getElem_of_mem ha'
  obtain ⟨j, hj, rfl⟩ := List.getElem_of_mem hb
  have hP := List.pairwise_iff_getElem.1 hL.apart
  rcases Nat.lt_trichotomy i j with h | h | h
  · have h1 := hP i j hi hj h
    have h2 := hL.each _ (List.getElem_mem hi)
    omega
  · subst h; rfl
  · have h1 := hP j i hj hi h
    have h2 := hL.each _ (List.getElem_mem hj)
    omega
/-- An owner's spans behind the grant of one more, behind a release. -/
def wSp (l : List Sp) (S : Sp) : List Sp := joinP (insLo S (cutP l S.lo S.hi))
def rSp (l : List Sp) (lo hi : Int) : List Sp := joinP (cutP l lo hi)
theorem wSp_one {l l' : List Sp} {S : Sp} (h : SpOk l) (hS : 0 ≤ S.lo ∧ S.lo < S.hi ∧ S.hi ≤ 1152921504606846976) (hp : l'.Perm (cutP l S.lo S.hi ++ [S])) (hs : l'.Pairwise (fun a b => ¬ b.lo < a.lo)) : joinP l' = wSp l S := by
  unfold wSp
  rw [sorted_one (ins_ok (cut_ok h (by omega)) hS cut_off) (hp.trans (insLo_perm S _).symm) hs]
theorem rSp_one {l l' : List Sp} {lo hi : Int} (h : SpOk l) (hlh : lo ≤ hi) (hp : l'.Perm (cutP l lo hi)) (hs : l'.Pairwise (fun a b => ¬ b.lo < a.lo)) : joinP l' = rSp l lo hi := by
  unfold rSp
  rw [sorted_one (cut_ok h hlh) hp hs]
theorem wSp_ok {l : List Sp} {S : Sp} (h : SpOk l) (hS : 0 ≤ S.lo ∧ S.lo < S.hi ∧ S.hi ≤ 1152921504606846976) : SpOk (wSp l S) := join_ok (ins_ok (cut_ok h (by omega)) hS cut_off)
theorem rSp_ok {l : List Sp} {lo hi : Int} (h : SpOk l) (hlh : lo ≤ hi) : SpOk (rSp l lo hi) := join_ok (cut_ok h hlh)
theorem joinS_pos (out : List Sp) (s : Sp) : 0 < (joinS out s).length := by
  unfold joinS
  split
  · split <;> simp
  · simp
theorem joinP_pos {l : List Sp} (h : l ≠ []) : 0 < (joinP l).length := by
  rcases List.eq_nil_or_concat l with rfl | ⟨A, z, rfl⟩
  · exact absurd rfl h
  · unfold joinP
    rw [List.concat_eq_append, List.foldl_append]
    exact joinS_pos _ _
theorem insLo_ne (S : Sp) (l : List Sp) : insLo S l ≠ [] := by
  cases l with
  | nil => simp [insLo]
  | cons x l => unfold insLo; split <;> simp
theorem wSp_pos (l : List Sp) (S : Sp) : 0 < (wSp l S).length := joinP_pos (insLo_ne _ _)
theorem insLo_len (S : Sp) (l : List Sp) : (insLo S l).length = l.length + 1 := by rw [(insLo_perm S l).length_eq]; simp
end
section
set_option linter.unusedVariables false
set_option linter.unusedSimpArgs false

abbrev Tb := List (Int × List Sp)
def plainG (G : List Ent) : Tb := G.map (fun e => (e.own, e.l))
def tAt (T : Tb) (o : Int) : List Sp := match T.find? (fun x => x.1 == o) with | some x => x.2 | none => []
def tDel (T : Tb) (o : Int) : Tb := T.filter (fun x => x.1 != o)
def tIns (x : Int × List Sp) : Tb → Tb
  | [] => [x]
  | y :: T => if x.1 < y.1 then x :: y :: T else y :: tIns x T
def tPut (T : Tb) (o : Int) (l : List Sp) : Tb := if l.isEmpty then tDel T o else tIns (o, l) (tDel T o)
def tConf (T : Tb) (l : Lk) : List Lk := T.flatMap (fun x => (x.2.filter (confB x.1 l)).map (fun s => lockI s x.1))
def tCnt (T : Tb) (o : Int) : Nat := ((T.filter (fun x => x.1 != o)).map (fun x => x.2.length)).sum
def tGran (T : Tb) : List Lk := T.flatMap (fun x => x.2.map (fun s => lockI s x.1))
theorem plain_at (G : List Ent) (o : Int) : spansOf G o = tAt (plainG G) o := by
  unfold spansOf tAt plainG gAt
  rw [List.find?_map]
  have e : ((fun x : Int × List Sp => x.1 == o) ∘ fun e : Ent => (e.own, e.l)) = fun e : Ent => e.own == o := rfl
  rw [e]
  cases G.find? (fun e => e.own == o) <;> rfl
theorem plain_del (G : List Ent) (o : Int) : plainG (gDel G o) = tDel (plainG G) o := by
  unfold plainG gDel tDel
  rw [List.filter_map]
  rfl
theorem plain_ins (e : Ent) (G : List Ent) : plainG (gIns e G) = tIns (e.own, e.l) (plainG G) := by
  induction G with
  | nil => rfl
  | cons x G ih =>
    unfold gIns
    unfold plainG at ih ⊢
    rw [List.map_cons]
    unfold tIns
    split
    · rfl
    · rw [List.map_cons, ih]
theorem plain_put (G : List Ent) (e : Ent) (h : 0 < e.l.length) : plainG (gPut G e) = tPut (plainG G) e.own e.l := by
  unfold gPut tPut
  rw [plain_ins, plain_del, if_neg (by intro he; rw [List.isEmpty_iff] at he; rw [he] at h; simp at h)]
theorem plain_conf (G : List Ent) (l : Lk) : confL G l = tConf (plainG G) l := by
  unfold confL tConf plainG
  rw [List.flatMap_map]
theorem plain_gran (G : List Ent) : grantL G = tGran (plainG G) := by
  unfold grantL tGran plainG
  rw [List.flatMap_map]
theorem plain_cnt (G : List Ent) (o : Int) : cntG G o = tCnt (plainG G) o := by
  unfold cntG tCnt plainG
  induction G with
  | nil => rfl
  | cons e G ih =>
    rw [List.map_cons, List.filter_cons]
    unfold sumG
    rw [ih]
    by_cases h : e.own = o
    · simp [h]
    · simp [h]
/-- A table of owners in order, each with spans in order and apart. -/
structure TOk (T : Tb) : Prop where
  sort : T.Pairwise (fun a b => a.1 < b.1)
  wf : ∀ x ∈ T, (Lit.int .i64 x.1).wf = true
  sp : ∀ x ∈ T, SpOk x.2
  ne : ∀ x ∈ T, 0 < x.2.length
  len : ∀ x ∈ T, x.2.length ≤ 1000
theorem TOk.nil : TOk [] := ⟨List.Pairwise.nil, by simp, by simp, by simp, by simp⟩
theorem TOk.gsort {G : List Ent} (h : TOk (plainG G)) : GSort G := by
  have := h.sort
  unfold plainG at this
  rw [List.pairwise_map] at this
  exact this
theorem TOk.gok {G : List Ent} (h : TOk (plainG G)) : GOk G := by
  have hm : ∀ e ∈ G, (e.own, e.l) ∈ plainG G := fun e he => List.mem_map.2 ⟨e, he, rfl⟩
  exact ⟨fun e he => h.wf _ (hm e he), fun e he => h.len _ (hm e he), fun e he s hs => by have := (h.sp _ (hm e he)).each s hs; omega⟩
theorem mem_tDel {T : Tb} {o : Int} {x : Int × List Sp} : x ∈ tDel T o ↔ x ∈ T ∧ x.1 ≠ o := by unfold tDel; rw [List.mem_filter]; simp
theorem mem_tIns {x y : Int × List Sp} {T : Tb} : y ∈ tIns x T ↔ y = x ∨ y ∈ T := by
  induction T with
  | nil => simp [tIns]
  | cons z T ih =>
    unfold tIns
    split
    · simp
    · rw [List.mem_cons, ih, List.mem_cons]
      constructor
      · rintro (h | h | h)
        · exact .inr (.inl h)
        · exact .inl h
        · exact .inr (.inr h)
      · rintro (h | h | h)
        · exact .inr (.inl h)
        · exact .inl h
        · exact .inr (.inr h)
theorem mem_tPut {T : Tb} {o : Int} {l : List Sp} {x : Int × List Sp} (h : x ∈ tPut T o l) : (x = (o, l) ∧ 0 < l.length) ∨ (x ∈ T ∧ x.1 ≠ o) := by
  unfold tPut at h
  split at h
  · exact .inr (mem_tDel.1 h)
  · rename_i hl
    rcases mem_tIns.1 h with rfl | h
    · exact .inl ⟨rfl, by cases l with | nil => simp at hl | cons => simp⟩
    · exact .inr (mem_tDel.1 h)
theorem TOk.del {T : Tb} (h : TOk T) (o : Int) : TOk (tDel T o) :=
  ⟨h.sort.filter _, fun x hx => h.wf x (mem_tDel.1 hx).1, fun x hx => h.sp x (mem_tDel.1 hx).1, fun x hx => h.ne x (mem_tDel.1 hx).1, fun x hx => h.len x (mem_tDel.1 hx).1⟩
theorem tIns_sort {T : Tb} {x : Int × List Sp} (h : T.Pairwise (fun a b => a.1 < b.1)) (hn : ∀ y ∈ T, y.1 ≠ x.1) : (tIns x T).Pairwise (fun a b => a.1 < b.1) := by
  induction T with
  | nil => exact List.pairwise_singleton _ _
  | cons y T ih =>
    rw [List.pairwise_cons] at h
    have hy := hn y (List.mem_cons_self ..)
    unfold tIns
    split
    · rename_i hlt
      refine List.pairwise_cons.2 ⟨fun z hz => ?_, List.pairwise_cons.2 h⟩
      rcases List.mem_cons.1 hz with rfl | hz
      · exact hlt
      · have := h.1 z hz; omega
    · rename_i hge
      refine List.pairwise_cons.2 ⟨fun z hz => ?_, ih h.2 (fun w hw => hn w (List.mem_cons_of_mem _ hw))⟩
      rcases mem_tIns.1 hz with rfl | hz
      · omega
      · exact h.1 z hz
theorem TOk.put {T : Tb} (h : TOk T) {o : Int} {l : List Sp} (hw : (Lit.int .i64 o).wf = true) (hl : SpOk l) (hn : l.length ≤ 1000) : TOk (tPut T o l) := by
  have hd := h.del o
  refine ⟨?_, fun x hx => ?_, fun x hx => ?_, fun x hx => ?_, fun x hx => ?_⟩
  · unfold tPut
    split
    · exact hd.sort
    · exact tIns_sort hd.sort (fun y hy => (mem_tDel.1 hy).2)
  · rcases mem_tPut hx with ⟨rfl, -⟩ | ⟨hx, -⟩
    · exact hw
    · exact h.wf x hx
  · rcases mem_tPut hx with ⟨rfl, -⟩ | ⟨hx, -⟩
    · exact hl
    · exact h.sp x hx
  · rcases mem_tPut hx with ⟨rfl, hp⟩ | ⟨hx, -⟩
    · exact hp
    · exact h.ne x hx
  · rcases mem_tPut hx with ⟨rfl, -⟩ | ⟨hx, -⟩
    · exact hn
    · exact h.len x hx
theorem tAt_ok {T : Tb} (h : TOk T) (o : Int) : SpOk (tAt T o) ∧ (tAt T o).length ≤ 1000 := by
  unfold tAt
  cases hf : T.find? (fun x => x.1 == o) with
  | none => exact ⟨⟨List.Pairwise.nil, by simp⟩, by simp⟩
  | some x => exact ⟨h.sp x (List.mem_of_find?_eq_some hf), h.len x (List.mem_of_find?_eq_some hf)⟩
/-- How many spans there are. -/
def tAll (T : Tb) : Nat := (T.map (fun x => x.2.length)).sum
theorem tAll_del {T : Tb} (h : T.Pairwise (fun a b => a.1 < b.1)) (o : Int) : tAll T = tCnt T o + (tAt T o).length := by
  induction T with
  | nil => rfl
  | cons x T ih =>
    rw [List.pairwise_cons] at h
    have h2 := ih h.2
    unfold tAll tCnt tAt at h2 ⊢
    rw [List.map_cons, List.sum_cons, List.filter_cons, List.find?_cons]
    by_cases hx : x.1 = o
    · have e1 : (x.1 != o) = false := by simp [hx]
      have e2 : (x.1 == o) = true := by simp [hx]
      rw [e1, e2]
      have e3 : T.find? (fun y => y.1 == o) = none := by
        rw [List.find?_eq_none]
        intro y hy
        have := h.1 y hy
        simp; omega
      rw [e3] at h2
      simp only [List.length_nil, Nat.add_zero] at h2
      simp only [Bool.false_eq_true, if_false]
      omega
    · have e1 : (x.1 != o) = true := by simp [hx]
      have e2 : (x.1 == o) = false := by simp [hx]
      rw [e1, e2]
      simp only [if_true, List.map_cons, List.sum_cons]
      omega
theorem tAll_ins (x : Int × List Sp) (T : Tb) : tAll (tIns x T) = tAll T + x.2.length := by
  induction T with
  | nil => simp [tIns, tAll]
  | cons y T ih =>
    unfold tIns
    split
    · simp [tAll]; omega
    · unfold tAll at ih ⊢
      rw [List.map_cons, List.sum_cons, ih, List.map_cons, List.sum_cons]; omega
theorem tAll_put (T : Tb) (o : Int) (l : List Sp) : tAll (tPut T o l) = tCnt T o + l.length := by
  unfold tPut
  split
  · rename_i h
    rw [List.isEmpty_iff] at h
    subst h
    rfl
  · rw [tAll_ins]
    rfl
theorem len_all {T : Tb} (h : ∀ x ∈ T, 0 < x.2.length) : T.length ≤ tAll T := by
  induction T with
  | nil => simp
  | cons x T ih =>
    have h1 := h x (List.mem_cons_self ..)
    have h2 := ih (fun y hy => h y (List.mem_cons_of_mem _ hy))
    unfold tAll at h2 ⊢
    rw [List.map_cons, List.sum_cons, List.length_cons]; omega
end
section
set_option linter.unusedVariables false
set_option linter.unusedSimpArgs false
open Go.RowKit Go.Maps Go.Sort Go.Lib Go.Shelf Go.Proofs.YtoolflmaaooplaaGreatW.PrintWords Go.Proofs.YtoolflmaaooplaaGreatW.PrintLast Go.Proofs.YtoolflmaaooplaaGreatW.PrintMore FLib
attribute [local go_sem] below_alloc_T below_drew_T below_drewN_T

theorem own_ty {w : World} {base e sz n : Nat} {v : Value} {xs : List Value} (h : w.ownsRow base e sz v n xs) {k : Nat} (hk : v.ownBlock = some k) : ∃ cs, w.heap[k]? = some (.cells cs e (0, 0)) := by
  rcases h.2 with ⟨rfl, -⟩ | ⟨g, c, cur, rfl, -, h3, -⟩
  · cases hk
  · have e : g = k := by simpa [Value.ownBlock] using hk
    exact ⟨cur, e ▸ h3⟩
/-- Blocks of other types are none of the table's. -/
theorem TG.not_own {W : World} {p mb : Nat} {qv : Value} {G : List Ent} {Q : List Lk} (h : TG W p mb qv G Q) {b t : Nat} {cs : Array Value} (hb : W.heap[b]? = some (.cells cs t (0, 0))) (h1 : t ≠ 48) (h2 : t ≠ 29) (h3 : t ≠ 50) : ¬ GOwn p mb qv G b := by
  rintro (rfl | rfl | hk | ⟨e, he, rfl⟩)
  · rw [h.hdr] at hb; cases hb; exact h1 rfl
  · obtain ⟨D, ⟨es, clock, ho, -⟩, -⟩ := h.map
    rw [ho] at hb; cases hb
  · obtain ⟨cs', hc⟩ := own_ty h.queue hk
    rw [hc] at hb; cases hb; exact h2 rfl
  · obtain ⟨cs', hc⟩ := own_ty (h.row e he) (k := e.g) rfl
    rw [hc] at hb; cases hb; exact h3 rfl
theorem part_le {s : Sp} {lo hi : Int} (h : ¬ (s.lo < lo ∧ hi < s.hi)) : (leftP s lo ++ rightP s hi).length ≤ 1 := by
  unfold leftP rightP
  split <;> split <;> simp
  omega
theorem part_le2 (s : Sp) (lo hi : Int) : (leftP s lo ++ rightP s hi).length ≤ 2 := by
  unfold leftP rightP
  split <;> split <;> simp
theorem cut_le0 {l : List Sp} {lo hi : Int} (h : ∀ s ∈ l, ¬ (s.lo < lo ∧ hi < s.hi)) : (cutP l lo hi).length ≤ l.length := by
  induction l with
  | nil => simp [cutP]
  | cons a l ih =>
    have h1 := ih (fun s hs => h s (List.mem_cons_of_mem _ hs))
    have h2 := part_le (h a (List.mem_cons_self ..))
    unfold cutP at h1 ⊢
    rw [List.flatMap_cons, List.length_append, List.length_cons]; omega
theorem cut_le1 {l : List Sp} (h : SpOk l) {lo hi : Int} (hlh : lo ≤ hi) : (cutP l lo hi).length ≤ l.length + 1 := by
  induction l with
  | nil => simp [cutP]
  | cons a l ih =>
    have hp := List.pairwise_cons.1 h.apart
    have hl : SpOk l := ⟨hp.2, fun x hx => h.each x (List.mem_cons_of_mem _ hx)⟩
    by_cases hs : a.lo < lo ∧ hi < a.hi
    · have h1 := cut_le0 (l := l) (lo := lo) (hi := hi) (fun s hs' hc => by have := hp.1 s hs'; omega)
      have h2 := part_le2 a lo hi
      unfold cutP at h1 ⊢
      rw [List.flatMap_cons, List.length_append, List.length_cons]; omega
    · have h1 := ih hl
      have h2 := part_le hs
      unfold cutP at h1 ⊢
      rw [List.flatMap_cons, List.length_append, List.length_cons]; omega
theorem wSp_len {l : List Sp} {S : Sp} (h : SpOk l) (hS : S.lo < S.hi) : (wSp l S).length ≤ l.length + 2 := by
  unfold wSp
  have h1 := joinP_len (insLo S (cutP l S.lo S.hi))
  rw [insLo_len] at h1
  have := cut_le1 h (lo := S.lo) (hi := S.hi) (by omega)
  omega
theorem rSp_len {l : List Sp} {lo hi : Int} (h : SpOk l) (hlh : lo ≤ hi) : (rSp l lo hi).length ≤ l.length + 1 := by
  unfold rSp
  have h1 := joinP_len (cutP l lo hi)
  have := cut_le1 h hlh
  omega
/-- May a waiting lock be granted? -/
def grB (T : Tb) (x : Lk) : Bool := (tConf T x).isEmpty && decide ((wSp (tAt T x.own) (spanI x)).length + tCnt T x.own ≤ 200)
def grT (T : Tb) (x : Lk) : Tb := tPut T x.own (wSp (tAt T x.own) (spanI x))
/-- What scan's closure stands on. -/
structure ScI (W : World) (p mb : Nat) (qv : Value) (T : Tb) (Q : List Lk) (bt bo ba base : Nat) (out : List Int) (ag : Bool) : Prop where
  tg : ∃ G, TG W p mb qv G Q ∧ plainG G = T
  ct : W.heap[bt]? = some (.cells #[.pointer (some ⟨p, 0, none⟩)] 24 (0, 0))
  co : ∃ u, W.heap[bo]? = some (.cells #[u] 35 (0, 0)) ∧ W.ownsRow base 3 1 u out.length (out.map encZ)
  ca : W.heap[ba]? = some (.cells #[.bool ag] 4 (0, 0))
/-- What the closure may turn. -/
def ScF (W : World) (mb bo ba base : Nat) (k : Nat) : Prop := k = mb ∨ k = bo ∨ k = ba ∨ (base ≤ k ∧ ∃ cs, W.heap[k]? = some (.cells cs 3 (0, 0)))
theorem okL_span {x : Lk} (h : okL x.own x.st x.len = true) : 0 ≤ (spanI x).lo ∧ (spanI x).lo < (spanI x).hi ∧ (spanI x).hi ≤ 1152921504606846976 := by
  have := okL_iff.1 h
  unfold spanI endI
  dsimp only
  split <;> omega
theorem ScI.below {W W' : World} {p mb : Nat} {qv : Value} {T : Tb} {Q : List Lk} {bt bo ba base : Nat} {out : List Int} {ag : Bool} (h : ScI W p mb qv T Q bt bo ba base out ag) (hb : Below W.heap.size W W') : ScI W' p mb qv T Q bt bo ba base out ag := by
  obtain ⟨⟨G, hT, hG⟩, h1, ⟨u, h2, h3⟩, h4⟩ := h
  exact ⟨⟨G, hT.below hb, hG⟩, blk_below h1 hb, ⟨u, blk_below h2 hb, pw_own_below h3 hb⟩, blk_below h4 hb⟩
set_option maxRecDepth 100000 in
set_option maxHeartbeats 1000000 in
theorem grant_no (p mb : Nat) (qv : Value) (T : Tb) (Q : List Lk) (bt bo ba base : Nat) (out : List Int) (ag : Bool) (hT : TOk T) (hTl : tAll T ≤ 900) (x : Lk) (hx : okL x.own x.st x.len = true) (hwf : (Lit.int .i64 x.own).wf = true) (hg : grB T x = false)
    (w : World) (h : ScI w p mb qv T Q bt bo ba base out ag) :
    Calls Tryz.prog 49 #[lkV x, .pointer (some ⟨bt, 0, none⟩), .pointer (some ⟨bo, 0, none⟩), .pointer (some ⟨ba, 0, none⟩)] w fun e w' => e = .returned (.bool false) ∧ Below w.heap.size w w' := by
  obtain ⟨⟨G, hTG, rfl⟩, hct, -, -⟩ := h
  have HF := Lib.hid (fun w h => free_any p mb qv G Q hT.gsort hT.gok x (okL_sum hx) w h)
  have HWI := Lib.hid (fun w h => with_any p mb qv G Q hT.gok x (okL_sum hx) hwf w h)
  have HCO := Lib.hid (fun a n c hn w h => count_any p mb qv G Q hT.gsort hT.gok.len x.own a n c hn w h)
  have HW1 := Lib.hid (fun l' hp hs => wSp_one (l' := l') (tAt_ok hT x.own).1 (okL_span hx) (by rw [← plain_at]; exact hp) hs)
  have HLW := Lib.hid (show (wSp (tAt (plainG G) x.own) (spanI x)).length ≤ 1000 by
    have h1 := wSp_len (tAt_ok hT x.own).1 (okL_span hx).2.1
    have h2 := tAll_del hT.sort x.own
    omega)
  have HK := Lib.hid hT.gok.len
  have hs0 := Below.refl w.heap.size w
  unfold grB at hg
  rw [← plain_conf, ← plain_cnt] at hg
  have HTG := Lib.hid hTG
  have c0 := later_cell (v := .pointer (some ⟨p, 0, none⟩)) (blk_cell hct 0)
  clear hct hx hwf hT hTl
  simp only [lkV] at HF HWI ⊢
  have hbx := blk_new w (.cells x.cells.toArray 29)
  have hB := below_alloc (Below.refl w.heap.size w) (.cells x.cells.toArray 29)
  simp only [Lk.cells] at hbx hB
  have HB := Lib.hid (And.intro hB hbx)
  clear hB hbx
  cases hc : (confL G x).isEmpty
  · rw [hc] at HF
    clear hg hc
    go_enter Tryz.func49, Tryz.ntmps49
    go_wp2_with fail
    refine (HF.out _ (HTG.out.below HB.out.1)).mono ?_
    rintro e w2 ⟨rfl, hb2⟩
    have H2 := Lib.hid (HB.out.1.trans (hb2.mono HB.out.1.size))
    clear hb2
    go_wp2
    go_ret
    exact ⟨rfl, H2.out⟩
  · rw [hc] at HF hg
    rw [Bool.true_and] at hg
    have hg' := of_decide_eq_false hg
    generalize wSp (tAt (plainG G) x.own) (spanI x) = L at HW1 HLW hg'
    have HG := Lib.hid hg'
    clear hg hg' hc
    go_enter Tryz.func49, Tryz.ntmps49
    go_wp2_with fail
    refine (HF.out _ (HTG.out.below HB.out.1)).mono ?_
    rintro e w2 ⟨rfl, hb2⟩
    have c02 := c0 _ (HB.out.1.trans (hb2.mono HB.out.1.size))
    have hx2 := blk_below HB.out.2 hb2
    have z0 : w2.cell? ⟨w.heap.size, 0, none⟩ = some (.int .i64 x.own) := blk_cell hx2 0
    have z1 : w2.cell? ⟨w.heap.size, 1, none⟩ = some (.int .i64 x.st) := blk_cell hx2 1
    have z2 : w2.cell? ⟨w.heap.size, 2, none⟩ = some (.int .i64 x.len) := blk_cell hx2 2
    have z3 : w2.cell? ⟨w.heap.size, 3, none⟩ = some (.bool x.ex) := blk_cell hx2 3
    have H2 := Lib.hid (And.intro ((HTG.out.below HB.out.1).below hb2) (HB.out.1.trans (hb2.mono HB.out.1.size)))
    clear hb2 hx2 c0 hs0
    go_wp2_with fail
    refine (HWI.out _ H2.out.1).mono ?_
    rintro e w4 ⟨u, rfl, l', hp, hsrt, hu, hb4⟩
    replace c02 := pw_cell_below hb4 c02
    replace z0 := pw_cell_below hb4 z0
    have H4 := Lib.hid (And.intro (H2.out.1.below hb4) (H2.out.2.trans (hb4.mono H2.out.2.size)))
    have hj := HW1.out l' hp hsrt
    rw [hj] at hu
    have HLL := HLW.out
    clear hp hsrt hb4 z1 z2 z3 hj HW1 HWI HF
    obtain ⟨a, c, rfl⟩ : ∃ a c, u = .slice a L.length c := by
      rcases row_form hu with ⟨rfl, hz⟩ | ⟨g, c, rfl⟩
      · exact ⟨none, 0, by rw [hz]⟩
      · exact ⟨_, c, rfl⟩
    clear hu
    have hcnt : cntG G x.own ≤ 1000000 := by
      have := sum_le x.own (fun _ => false) G HK.out
      unfold cntG; have := H4.out.1.len; omega
    have d1 : decide ((200 : Int) < ((L.length + cntG G x.own : Nat) : Int)) = true := decide_eq_true (by have := HG.out; omega)
    obtain ⟨N, hN⟩ : ∃ N : Nat, L.length + cntG G x.own = N := ⟨_, rfl⟩
    have HCO2 := Lib.hid (HCO.out a L.length c HLL w4 H4.out.1)
    rw [hN] at HCO2 d1
    clear hN hcnt HCO
    go_wp2_with fail
    refine HCO2.out.mono ?_
    rintro e w5 ⟨rfl, hb5⟩
    have H5 := Lib.hid (H4.out.2.trans (hb5.mono H4.out.2.size))
    clear hb5
    go_wp2
    go_ret
    exact ⟨rfl, H5.out⟩
end
section
set_option linter.unusedVariables false
set_option linter.unusedSimpArgs false
open Go.RowKit Go.Maps Go.Sort Go.Lib Go.Shelf Go.Proofs.YtoolflmaaooplaaGreatW.PrintWords Go.Proofs.YtoolflmaaooplaaGreatW.PrintLast Go.Proofs.YtoolflmaaooplaaGreatW.PrintMore FLib
attribute [local go_sem] below_alloc_T below_drew_T below_drewN_T

theorem map_ne {W : World} {p mb : Nat} {qv : Value} {G : List Ent} {Q : List Lk} (h : TG W p mb qv G Q) {b t : Nat} {cs : Array Value} (hb : W.heap[b]? = some (.cells cs t (0, 0))) : b ≠ mb := by
  rintro rfl
  obtain ⟨D, ⟨es, clock, ho, -⟩, -⟩ := h.map
  rw [ho] at hb; cases hb
theorem ty_ne {W : World} {a b t t' : Nat} {cs cs' : Array Value} (ha : W.heap[a]? = some (.cells cs t (0, 0))) (hb : W.heap[b]? = some (.cells cs' t' (0, 0))) (h : t ≠ t') : a ≠ b := by
  rintro rfl
  rw [ha] at hb; cases hb; exact h rfl
set_option maxRecDepth 100000 in
set_option maxHeartbeats 1000000 in
theorem grant_yes (p mb : Nat) (qv : Value) (T : Tb) (Q : List Lk) (bt bo ba base : Nat) (out : List Int) (ag : Bool) (hT : TOk T) (hTl : tAll T ≤ 900) (ho : out.length ≤ 100000) (x : Lk) (hx : okL x.own x.st x.len = true) (hwf : (Lit.int .i64 x.own).wf = true) (hg : grB T x = true)
    (w : World) (hbase : base ≤ w.heap.size) (h : ScI w p mb qv T Q bt bo ba base out ag) :
    Calls Tryz.prog 49 #[lkV x, .pointer (some ⟨bt, 0, none⟩), .pointer (some ⟨bo, 0, none⟩), .pointer (some ⟨ba, 0, none⟩)] w fun e w' => e = .returned (.bool true) ∧ ScI w' p mb qv (grT T x) Q bt bo ba base (out ++ [x.own]) true ∧ Keeps w w' (ScF w mb bo ba base) := by
  obtain ⟨⟨G, hTG, rfl⟩, hct, ⟨u0, hco, hu0⟩, hca⟩ := h
  have hGl : G.length < 1000 := by have := len_all hT.ne; unfold plainG at this hTl; rw [List.length_map] at this; omega
  have HF := Lib.hid (fun w h => free_any p mb qv G Q hT.gsort hT.gok x (okL_sum hx) w h)
  have HWI := Lib.hid (fun w h => with_any p mb qv G Q hT.gok x (okL_sum hx) hwf w h)
  have HCO := Lib.hid (fun a n c hn w h => count_any p mb qv G Q hT.gsort hT.gok.len x.own a n c hn w h)
  have HPU := Lib.hid (fun e (he : e.own = x.own) hne hl w h hr h1 h2 h3 => put_ins p mb qv G Q hT.gsort e (by rw [he]; exact hwf) hne hl hGl w h hr h1 h2 h3)
  have HW1 := Lib.hid (fun l' hp hs => wSp_one (l' := l') (tAt_ok hT x.own).1 (okL_span hx) (by rw [← plain_at]; exact hp) hs)
  have HLW := Lib.hid (show (wSp (tAt (plainG G) x.own) (spanI x)).length ≤ 1000 by
    have h1 := wSp_len (tAt_ok hT x.own).1 (okL_span hx).2.1
    have h2 := tAll_del hT.sort x.own
    omega)
  have HPL := Lib.hid (fun g c => plain_put G ⟨x.own, g, c, wSp (tAt (plainG G) x.own) (spanI x)⟩ (wSp_pos _ _))
  have HPO := Lib.hid (wSp_pos (tAt (plainG G) x.own) (spanI x))
  obtain ⟨i0, hi0, hz0, hz1, hz2⟩ := info_parts info3
  have HI := Lib.hid (And.intro hi0 (And.intro hz0 (And.intro hz1 hz2)))
  have hs0 := Below.refl w.heap.size w
  unfold grB at hg
  unfold grT
  rw [← plain_conf, ← plain_cnt, Bool.and_eq_true] at hg
  rw [hg.1] at HF
  have hg2 := of_decide_eq_true hg.2
  have HTG := Lib.hid hTG
  have HC0 := Lib.hid (And.intro hct (And.intro hco (And.intro hca (And.intro hu0 (And.intro hbase ho)))))
  have c0 := later_cell (v := .pointer (some ⟨p, 0, none⟩)) (blk_cell hct 0)
  generalize wSp (tAt (plainG G) x.own) (spanI x) = L at HW1 HLW HPL HPO hg2 ⊢
  have HG2 := Lib.hid hg2
  clear hct hx hwf hT hTl hg hg2 hco hu0 hca hbase ho hi0 hz0 hz1 hz2 hGl
  simp only [lkV] at HF HWI ⊢
  have hbx := blk_new w (.cells x.cells.toArray 29)
  have hB := below_alloc (Below.refl w.heap.size w) (.cells x.cells.toArray 29)
  simp only [Lk.cells] at hbx hB
  have HB := Lib.hid (And.intro hB hbx)
  clear hB hbx
  go_enter Tryz.func49, Tryz.ntmps49
  go_wp2_with fail
  refine (HF.out _ (HTG.out.below HB.out.1)).mono ?_
  rintro e w2 ⟨rfl, hb2⟩
  have c02 := c0 _ (HB.out.1.trans (hb2.mono HB.out.1.size))
  have hx2 := blk_below HB.out.2 hb2
  have z0 : w2.cell? ⟨w.heap.size, 0, none⟩ = some (.int .i64 x.own) := blk_cell hx2 0
  have z1 : w2.cell? ⟨w.heap.size, 1, none⟩ = some (.int .i64 x.st) := blk_cell hx2 1
  have z2 : w2.cell? ⟨w.heap.size, 2, none⟩ = some (.int .i64 x.len) := blk_cell hx2 2
  have z3 : w2.cell? ⟨w.heap.size, 3, none⟩ = some (.bool x.ex) := blk_cell hx2 3
  have H2 := Lib.hid (And.intro ((HTG.out.below HB.out.1).below hb2) (And.intro (HB.out.1.trans (hb2.mono HB.out.1.size)) hx2))
  clear hb2 hx2 c0 hs0
  go_wp2_with fail
  refine (HWI.out _ H2.out.1).mono ?_
  rintro e w4 ⟨u, rfl, l', hp, hsrt, hu, hb4⟩
  replace c02 := pw_cell_below hb4 c02
  replace z0 := pw_cell_below hb4 z0
  have hj := HW1.out l' hp hsrt
  rw [hj] at hu
  have H4 := Lib.hid (And.intro (H2.out.1.below hb4) (And.intro (H2.out.2.1.trans (hb4.mono H2.out.2.1.size)) (And.intro (blk_below H2.out.2.2 hb4) (own_base (base := w.heap.size) hu H2.out.2.1.size))))
  have HLL := HLW.out
  clear hp hsrt hb4 z1 z2 z3 hj HW1 HWI HF hu
  obtain ⟨g, c, rfl⟩ : ∃ g c, u = .slice (some ⟨g, 0, none⟩) L.length c := by
    rcases row_form H4.out.2.2.2 with ⟨rfl, hz⟩ | ⟨g, c, rfl⟩
    · have := HPO.out; omega
    · exact ⟨g, c, rfl⟩
  have d1 : decide ((200 : Int) < ((L.length + cntG G x.own : Nat) : Int)) = false := decide_eq_false (by have := HG2.out; omega)
  obtain ⟨N, hN⟩ : ∃ N : Nat, L.length + cntG G x.own = N := ⟨_, rfl⟩
  have HCO2 := Lib.hid (HCO.out (some ⟨g, 0, none⟩) L.length c HLL w4 H4.out.1)
  rw [hN] at HCO2 d1
  clear hN HCO
  go_wp2_with fail
  refine HCO2.out.mono ?_
  rintro e w5 ⟨rfl, hb5⟩
  replace c02 := pw_cell_below hb5 c02
  replace z0 := pw_cell_below hb5 z0
  have H5 := Lib.hid (And.intro (H4.out.1.below hb5) (And.intro (H4.out.2.1.trans (hb5.mono H4.out.2.1.size)) (And.intro (blk_below H4.out.2.2.1 hb5) (pw_own_below H4.out.2.2.2 hb5))))
  clear hb5 H4
  have HPU2 := Lib.hid (HPU.out ⟨x.own, g, c, L⟩ rfl HPO.out (by show L.length ≤ 100000; omega) w5 H5.out.1 (own_base H5.out.2.2.2 (Nat.zero_le _)) (fun e => by have h1 := (H5.out.2.2.2.lt g rfl).1; have h2 := HTG.out.own_lt (k := p) (.inl rfl); dsimp only at e; omega)
    (fun e => by have h1 := (H5.out.2.2.2.lt g rfl).1; have h2 := HTG.out.own_lt (k := mb) (.inr (.inl rfl)); dsimp only at e; omega) (fun e => by have h1 := (H5.out.2.2.2.lt g rfl).1; have h2 := HTG.out.own_lt (k := g) (.inr (.inr (.inl e))); omega))
  simp only [entV] at HPU2
  go_wp2_with fail
  refine HPU2.out.mono ?_
  rintro e w6 ⟨rfl, hT6, hg6⟩
  obtain ⟨hct, hco, hca, hu0, hbase, ho⟩ := HC0.out
  have hct6 := blk_grown (blk_below hct H5.out.2.1) hg6 (fun e => map_ne HTG.out hct (by injection e))
  have hco6 := blk_grown (blk_below hco H5.out.2.1) hg6 (fun e => map_ne HTG.out hco (by injection e))
  have hca6 := blk_grown (blk_below hca H5.out.2.1) hg6 (fun e => map_ne HTG.out hca (by injection e))
  have hx6 := blk_grown H5.out.2.2.1 hg6 (fun e => by have h2 := HTG.out.own_lt (k := mb) (.inr (.inl rfl)); have e2 : w.heap.size = mb := by injection e
                                                      omega)
  have hu6 : w6.ownsRow base 3 1 u0 out.length (out.map encZ) := (pw_own_below hu0 H5.out.2.1).kept hg6 (by
    cases hq : u0.ownBlock with
    | none => exact .inl rfl
    | some k =>
      obtain ⟨cs, hc⟩ := own_ty hu0 hq
      exact .inr (fun e => map_ne HTG.out hc (by injection e)))
  have hk6 : Keeps w w6 (fun k => k = mb) := (Keeps.of_below H5.out.2.1 _).grown hg6 (fun k hk => .inl (by injection hk with hk; exact hk.symm))
  have y0 : w6.cell? ⟨w.heap.size, 0, none⟩ = some (.int .i64 x.own) := blk_cell hx6 0
  have y1 : w6.cell? ⟨bo, 0, none⟩ = some u0 := blk_cell hco6 0
  have y2 : w6.cell? ⟨ba, 0, none⟩ = some (.bool ag) := blk_cell hca6 0
  have H6 := Lib.hid (And.intro hT6 (And.intro hk6 (And.intro hct6 (And.intro hco6 (And.intro hca6 hu6)))))
  have HB7 := Lib.hid (fun (w7 : World) (hg : (w6.alloc (.cells #[.int .i64 x.own] 3)).grownBy w7 u0.ownBlock) => And.intro (blk_grown (blk_alloc hco6 (.cells #[.int .i64 x.own] 3)) hg (fun e => by obtain ⟨cs, hc⟩ := own_ty hu6 e.symm; exact ty_ne hco6 hc (by omega) rfl)) (blk_grown (blk_alloc hca6 (.cells #[.int .i64 x.own] 3)) hg (fun e => by obtain ⟨cs, hc⟩ := own_ty hu6 e.symm; exact ty_ne hca6 hc (by omega) rfl)))
  have hboa : bo ≠ ba := ty_ne hco6 hca6 (by omega)
  clear hT6 hg6 c02 z0 hct hco hca hu0 hbase ho hct6 hco6 hca6 hx6 hu6 hk6 H5 HPU HPU2
  obtain ⟨n, hn⟩ : ∃ n, out.length = n := ⟨_, rfl⟩
  have HN := Lib.hid (And.intro hn HC0.out.2.2.2.2)
  rw [hn] at H6
  clear hn
  go_wp2_with (at_builtin; refine wpList_append_own (w6.alloc (.cells #[.int .i64 x.own] 3)) rfl (.tmp 25) (.tmp 28) 35 rfl base 3 i0 (.int .i64 0) 1 8 Tryz.underlying35 HI.out.1 HI.out.2.1 HI.out.2.2.1 HI.out.2.2.2 rfl (by decide) u0 n (out.map encZ) rfl (World.ownsRow.alloc H6.out.2.2.2.2.2 _) ⟨w6.heap.size, 0, none⟩ 1 1 [.int .i64 x.own] rfl rfl (fun j z h => cells_new j z h) (by simp [Value.oneCell']) (by have := HN.out; unfold maxLen; omega) (by have := HN.out; omega) (by have := HN.out.2.1; have := H6.out.2.1.size; simp; omega) ?_; intro v' w7 hown' hg7 hnil7; obtain ⟨g7, c7, rfl⟩ := row_some hown'; have f0 := blk_cell (HB7.out w7 hg7).1 0; have f1 := blk_frozen (HB7.out w7 hg7).1 0; have f2 := blk_cell (HB7.out w7 hg7).2 0; have f3 := blk_frozen (HB7.out w7 hg7).2 0; simp only [List.getElem?_toArray, List.getElem?_cons_zero] at f0 f2)
  refine bodyPost_ret (v := .bool true) (by simp [results, Tryz.results49, go_sem]) rfl ?_
  obtain ⟨hT6, hk6, hct6, hco6, hca6, hu6⟩ := H6.out
  obtain ⟨h7o, h7a⟩ := HB7.out w7 hg7
  have hkA : Keeps w6 w7 (fun k => u0.ownBlock = some k) := ((Keeps.refl w6 _).alloc _).grown hg7 (fun k hk => .inl hk)
  have hkB : Keeps w6 ((w7.setCell ⟨bo, 0, none⟩ (.slice (some ⟨g7, 0, none⟩) (n + 1) c7)).setCell ⟨ba, 0, none⟩ (.bool true)) (fun k => k = bo ∨ k = ba ∨ u0.ownBlock = some k) :=
    ((hkA.mono (fun k hk => .inr (.inr hk))).set ⟨bo, 0, none⟩ _ (.inl (.inl rfl))).set ⟨ba, 0, none⟩ _ (.inl (.inr (.inl rfl)))
  have hg7n : g7 ≠ bo ∧ g7 ≠ ba := by
    obtain ⟨cs, hc⟩ := own_ty hown' (k := g7) rfl
    exact ⟨ty_ne hc h7o (by omega), ty_ne hc h7a (by omega)⟩
  refine ⟨rfl, ⟨⟨_, hT6.keep hkB (fun k hk => ?_), HPL.out g c⟩, ?_, ⟨_, blk_far (blk_put h7o 0 _ rfl) hboa _, ?_⟩, blk_put (blk_far h7a (Ne.symm hboa) _) 0 _ rfl⟩, ?_⟩
  · rcases hk with rfl | rfl | hk
    · exact hT6.not_own hco6 (by omega) (by omega) (by omega)
    · exact hT6.not_own hca6 (by omega) (by omega) (by omega)
    · obtain ⟨cs, hc⟩ := own_ty hu6 hk
      exact hT6.not_own hc (by omega) (by omega) (by omega)
  · exact (hkB.block bt (blk_lt hct6) (by
      rintro (rfl | rfl | hk)
      · rw [hct6] at hco6; cases hco6
      · rw [hct6] at hca6; cases hca6
      · obtain ⟨cs, hc⟩ := own_ty hu6 hk
        rw [hct6] at hc; cases hc)).trans hct6
  · have e1 : (out ++ [x.own]).length = n + 1 := by rw [List.length_append, HN.out.1]; rfl
    have e2 : (out ++ [x.own]).map encZ = out.map encZ ++ [.int .i64 x.own] := by rw [List.map_append]; rfl
    rw [e1, e2]
    exact own_move hown' (fun k hk => by
      have e : g7 = k := by simpa [Value.ownBlock] using hk
      subst e
      exact (Below.heap_setCell _ _ _ _ hg7n.2).trans (Below.heap_setCell _ _ _ _ hg7n.1))
  · refine (hk6.mono (fun k hk => .inl hk)).trans hkB (fun k hk => ?_)
    rcases hk with rfl | rfl | hk
    · exact .inl (.inr (.inl rfl))
    · exact .inl (.inr (.inr (.inl rfl)))
    · obtain ⟨cs, hc⟩ := own_ty HC0.out.2.2.2.1 hk
      exact .inl (.inr (.inr (.inr ⟨(HC0.out.2.2.2.1.lt k hk).1, cs, hc⟩)))
end
section
set_option linter.unusedVariables false
set_option linter.unusedSimpArgs false
open Go.RowKit Go.Maps Go.Sort Go.Lib Go.Shelf Go.Proofs.YtoolflmaaooplaaGreatW.PrintWords Go.Proofs.YtoolflmaaooplaaGreatW.PrintLast Go.Proofs.YtoolflmaaooplaaGreatW.PrintMore FLib
attribute [local go_sem] below_alloc_T below_drew_T below_drewN_T

/-- The locks that wait are in their ranges. -/
def QOk (Q : List Lk) : Prop := ∀ x ∈ Q, okL x.own x.st x.len = true ∧ (Lit.int .i64 x.own).wf = true
theorem ScI.row {W : World} {p mb : Nat} {qv : Value} {T : Tb} {Q : List Lk} {bt bo ba base : Nat} {out : List Int} {ag : Bool} (h : ScI W p mb qv T Q bt bo ba base out ag) : W.ownsRow 0 29 4 qv Q.length (lflat Q) := by
  obtain ⟨⟨G, hT, -⟩, -⟩ := h
  exact hT.queue
set_option maxRecDepth 100000 in
set_option maxHeartbeats 1000000 in
theorem idx60_any (p mb gq c : Nat) (T : Tb) (Q : List Lk) (bt bo ba base : Nat) (out : List Int) (ag : Bool) (hT : TOk T) (hTl : tAll T ≤ 900) (ho : out.length ≤ 100000) (hQ : QOk Q) (hql : Q.length ≤ 1000)
    (w : World) (hbase : base ≤ w.heap.size) (h : ScI w p mb (.slice (some ⟨gq, 0, none⟩) Q.length c) T Q bt bo ba base out ag) :
    Calls Tryz.prog 19 #[.slice (some ⟨gq, 0, none⟩) Q.length c, .func (.func 49) #[] #[.pointer (some ⟨bt, 0, none⟩), .pointer (some ⟨bo, 0, none⟩), .pointer (some ⟨ba, 0, none⟩)]] w fun e w' =>
      (e = .returned (.int .i64 (-1)) ∧ (∀ x ∈ Q, grB T x = false) ∧ Below w.heap.size w w') ∨
      ∃ (k : Nat) (x : Lk), Q[k]? = some x ∧ (∀ y ∈ Q.take k, grB T y = false) ∧ grB T x = true ∧ e = .returned (.int .i64 k) ∧ ScI w' p mb (.slice (some ⟨gq, 0, none⟩) Q.length c) (grT T x) Q bt bo ba base (out ++ [x.own]) true ∧ Keeps w w' (ScF w mb bo ba base) := by
  have HS := Lib.hid h
  have HNO := Lib.hid (fun x hx hg w h => grant_no p mb (.slice (some ⟨gq, 0, none⟩) Q.length c) T Q bt bo ba base out ag hT hTl x (hQ x hx).1 (hQ x hx).2 hg w h)
  have HYES := Lib.hid (fun x hx hg w hb h => grant_yes p mb (.slice (some ⟨gq, 0, none⟩) Q.length c) T Q bt bo ba base out ag hT hTl ho x (hQ x hx).1 (hQ x hx).2 hg w hb h)
  have HL := Lib.hid hql
  have HBS := Lib.hid hbase
  clear h hT hTl ho hQ hql hbase
  go_enter Tryz.func19, Tryz.ntmps19
  go_wp2
  go_loopw [8] (fun t wr => ∃ k : Nat, k ≤ Q.length ∧ t = .int .i64 k ∧ Hid (∀ y ∈ Q.take k, grB T y = false) ∧ Hid (Below w.heap.size w wr)) (fun t _ => Q.length - (RowKit.intOf t).toNat)
  case atStart => exact ⟨0, Nat.zero_le _, rfl, Lib.hid (by simp), Lib.hid (Below.refl _ _)⟩
  case round =>
    obtain ⟨k, hk, rfl, hI, hBw⟩ := hrel
    have hlr : (Q.length : Int) ≤ 1000 := by have := HL.out; omega
    by_cases hlt : k < Q.length
    · obtain ⟨x, hx⟩ : ∃ x, Q[k]? = some x := ⟨_, List.getElem?_eq_getElem hlt⟩
      have hS := HS.out.below hBw.out
      obtain ⟨p0, p1, p2, p3⟩ := row_lk hS.row hx
      have hk0 : (0 : Int) ≤ (k : Int) := by omega
      have hk1 : (k : Int) < (Q.length : Int) := by omega
      have HKL := Lib.hid hlt
      have HX := Lib.hid hx
      have HN := Lib.hid (fun hg => HNO.out x (List.mem_of_getElem? hx) hg wr hS)
      have HY := Lib.hid (fun hg => HYES.out x (List.mem_of_getElem? hx) hg wr (Nat.le_trans HBS.out hBw.out.size) hS)
      simp only [lkV] at HN HY
      clear hx hlt hS
      cases hg : grB T x
      · have HN2 := Lib.hid (HN.out hg)
        have HG := Lib.hid hg
        clear hg HN HY
        go_wp2_with fail
        refine HN2.out.mono ?_
        rintro e w3 ⟨rfl, hb3⟩
        have HB3 := Lib.hid (below_step hBw.out hb3)
        clear hb3
        go_wp2
        go_roundw
        case rel => exact ⟨k + 1, by have := HKL.out; omega, by go_num, Lib.hid (fun y hy => by
          rw [List.take_add_one, HX.out] at hy
          rcases List.mem_append.1 hy with hy | hy
          · exact hI.out y hy
          · simp at hy; subst hy; exact HG.out), HB3⟩
        case measure => have := HKL.out; simp [RowKit.intOf]; omega
      · have HY2 := Lib.hid (HY.out hg)
        have HG := Lib.hid hg
        clear hg HN HY
        go_wp2_with fail
        refine HY2.out.mono ?_
        rintro e w3 ⟨rfl, hS3, hK3⟩
        have H3 := Lib.hid (And.intro hS3 hK3)
        clear hS3 hK3
        go_wp2
        go_ret
        refine .inr ⟨k, x, HX.out, hI.out, HG.out, rfl, H3.out.1, (Keeps.of_below hBw.out _).trans H3.out.2 (fun i hi => ?_)⟩
        rcases hi with rfl | rfl | rfl | ⟨h1, cs, h2⟩
        · exact .inl (.inl rfl)
        · exact .inl (.inr (.inl rfl))
        · exact .inl (.inr (.inr (.inl rfl)))
        · by_cases hi2 : i < w.heap.size
          · exact .inl (.inr (.inr (.inr ⟨h1, cs, (hBw.out.block i hi2).symm.trans h2⟩)))
          · exact .inr (by omega)
    · obtain rfl : k = Q.length := by omega
      rw [List.take_length] at hI
      go_wp2
      go_ret
      exact .inl ⟨rfl, hI.out, hBw.out⟩
end
section
set_option linter.unusedVariables false
set_option linter.unusedSimpArgs false
open Go.RowKit Go.Maps Go.Sort Go.Lib Go.Shelf Go.Proofs.YtoolflmaaooplaaGreatW.PrintWords Go.Proofs.YtoolflmaaooplaaGreatW.PrintLast Go.Proofs.YtoolflmaaooplaaGreatW.PrintMore FLib

/-- Cells put into a list from a place on. -/
def putAt {α : Type} (xs : List α) (o : Nat) : List α → List α
  | [] => xs
  | v :: vs => putAt (xs.set o v) (o + 1) vs
theorem putAt_len {α : Type} (vs : List α) : ∀ (xs : List α) (o : Nat), (putAt xs o vs).length = xs.length := by
  induction vs with
  | nil => intro xs o; rfl
  | cons v vs ih => intro xs o; rw [putAt, ih, List.length_set]
theorem putAt_get {α : Type} (vs : List α) : ∀ (xs : List α) (o : Nat), o + vs.length ≤ xs.length → ∀ i, (putAt xs o vs)[i]? = if o ≤ i ∧ i < o + vs.length then vs[i - o]? else xs[i]? := by
  induction vs with
  | nil => intro xs o h i; rw [putAt, if_neg (by simp)]
  | cons v vs ih =>
    intro xs o h i
    rw [List.length_cons] at h
    rw [putAt, ih _ _ (by rw [List.length_set]; omega)]
    rw [List.length_cons]
    by_cases h1 : o + 1 ≤ i ∧ i < o + 1 + vs.length
    · rw [if_pos h1, if_pos (by omega), show i - o = (i - (o + 1)) + 1 by omega, List.getElem?_cons_succ]
    · rw [if_neg h1]
      by_cases h2 : i = o
      · subst h2
        rw [if_pos (by omega), Nat.sub_self, List.getElem?_set_self (by omega)]; rfl
      · rw [if_neg (by omega), List.getElem?_set_ne (by omega)]
theorem own_sets {base e sz g c n : Nat} (vs : List Value) : ∀ (w : World) (xs : List Value) (o : Nat), w.ownsRow base e sz (.slice (some ⟨g, 0, none⟩) n c) n xs → (w.setCells g o vs).ownsRow base e sz (.slice (some ⟨g, 0, none⟩) n c) n (putAt xs o vs) := by
  induction vs with
  | nil => intro w xs o h; exact h
  | cons v vs ih => intro w xs o h; exact ih _ _ _ (own_set h o v)
theorem lflat_len (L : List Lk) : (lflat L).length = L.length * 4 := by induction L with | nil => rfl | cons a L ih => unfold lflat at *; rw [List.flatMap_cons, List.length_append, ih]; simp [Lk.cells]; omega
theorem lflat_get (L : List Lk) (i j : Nat) (hj : j < 4) : (lflat L)[i * 4 + j]? = (L[i]?).bind (fun x => x.cells[j]?) := by
  cases h : L[i]? with
  | none =>
    have := List.getElem?_eq_none_iff.1 h
    rw [List.getElem?_eq_none (by rw [lflat_len]; omega)]; rfl
  | some x => unfold lflat; rw [flat_at Lk.cells 4 (fun _ => rfl) L i x h j hj]; rfl
/-- Locks put into a row. -/
theorem lflat_put (L M : List Lk) (i : Nat) (h : i + M.length ≤ L.length) : putAt (lflat L) (i * 4) (lflat M) = lflat (putAt L i M) := by
  apply List.ext_getElem?
  intro t
  obtain ⟨a, b, hb, rfl⟩ : ∃ a b, b < 4 ∧ t = a * 4 + b := ⟨t / 4, t % 4, by omega, by omega⟩
  rw [putAt_get _ _ _ (by rw [lflat_len, lflat_len]; omega), lflat_get L _ _ hb, lflat_get (putAt L i M) _ _ hb, putAt_get _ _ _ h, lflat_len]
  by_cases h1 : i ≤ a ∧ a < i + M.length
  · rw [if_pos (by omega), if_pos h1, show a * 4 + b - i * 4 = (a - i) * 4 + b by omega, lflat_get _ _ _ hb]
  · rw [if_neg (by omega), if_neg h1]
theorem putAt_one {α : Type} (L : List α) (i : Nat) (x : α) : putAt L i [x] = L.set i x := rfl
theorem lflat_one (x : Lk) : lflat [x] = x.cells := by simp [lflat]
theorem own_cut {w : World} {base e sz g c n i : Nat} {xs : List Value} (h : w.ownsRow base e sz (.slice (some ⟨g, 0, none⟩) n c) n xs) (hi : i ≤ n) : w.ownsRow base e sz (.slice (some ⟨g, 0, none⟩) i c) i (xs.take (i * sz)) := by
  refine ⟨by rw [List.length_take, h.1]; exact Nat.min_eq_left (Nat.mul_le_mul_right _ hi), ?_⟩
  rcases h.2 with ⟨h2, -⟩ | ⟨g', c', cur, h1, hb, h3, h4, h5, h6, h7⟩
  · cases h2
  · cases h1
    exact .inr ⟨g, c, cur, rfl, hb, h3, Nat.le_trans hi h4, h5, h6, by rw [← h7, List.take_take, Nat.min_eq_left (Nat.mul_le_mul_right _ hi)]⟩
theorem lflat_take (L : List Lk) (i : Nat) (h : i ≤ L.length) : (lflat L).take (i * 4) = lflat (L.take i) := by
  conv => lhs; rw [← List.take_append_drop i L]
  unfold lflat
  rw [List.flatMap_append]
  have e : ((L.take i).flatMap Lk.cells).length = i * 4 := by have := lflat_len (L.take i); unfold lflat at this; rw [this, List.length_take, Nat.min_eq_left h]
  rw [← e, List.take_left]

/-- A pass over the queue: what is granted, and who still waits. -/
def delF : Tb → List Int → List Lk → (Tb × List Int) × List Lk
  | T, out, [] => ((T, out), [])
  | T, out, x :: Q => if grB T x then delF (grT T x) (out ++ [x.own]) Q else ((delF T out Q).1, x :: (delF T out Q).2)
theorem delF_snoc (Q : List Lk) (x : Lk) : ∀ (T : Tb) (out : List Int), delF T out (Q ++ [x]) =
    if grB (delF T out Q).1.1 x then ((grT (delF T out Q).1.1 x, (delF T out Q).1.2 ++ [x.own]), (delF T out Q).2) else ((delF T out Q).1, (delF T out Q).2 ++ [x]) := by
  induction Q with
  | nil => intro T out; by_cases h : grB T x = true <;> simp [delF, h]
  | cons y Q ih =>
    intro T out
    rw [List.cons_append]
    unfold delF
    split
    · rw [ih]
    · rw [ih]
      split <;> rfl
theorem delF_none {T : Tb} (out : List Int) {Q : List Lk} (h : ∀ y ∈ Q, grB T y = false) : delF T out Q = ((T, out), Q) := by
  induction Q with
  | nil => rfl
  | cons y Q ih =>
    unfold delF
    rw [h y (List.mem_cons_self ..), ih (fun z hz => h z (List.mem_cons_of_mem _ hz))]
    rfl
theorem delF_len (Q : List Lk) : ∀ (T : Tb) (out : List Int), (delF T out Q).1.2.length + (delF T out Q).2.length = out.length + Q.length := by
  induction Q with
  | nil => intro T out; rfl
  | cons y Q ih =>
    intro T out
    unfold delF
    split
    · rw [ih]; simp; omega
    · have := ih T out; simp only [List.length_cons]; omega
theorem grT_ok {T : Tb} (h : TOk T) {x : Lk} (hx : okL x.own x.st x.len = true) (hw : (Lit.int .i64 x.own).wf = true) (hl : tAll T ≤ 900) : TOk (grT T x) ∧ tAll (grT T x) ≤ tAll T + 2 := by
  have h1 := wSp_len (tAt_ok h x.own).1 (okL_span hx).2.1
  have h2 := tAll_del h.sort x.own
  refine ⟨h.put hw (wSp_ok (tAt_ok h x.own).1 (okL_span hx)) (by omega), ?_⟩
  unfold grT
  rw [tAll_put]; omega
theorem delF_ok (Q : List Lk) : ∀ (T : Tb) (out : List Int), TOk T → QOk Q → tAll T + 2 * Q.length ≤ 900 → TOk (delF T out Q).1.1 ∧ tAll (delF T out Q).1.1 ≤ tAll T + 2 * Q.length ∧ QOk (delF T out Q).2 := by
  induction Q with
  | nil => intro T out h hq hl; exact ⟨h, by simp [delF], hq⟩
  | cons y Q ih =>
    intro T out h hq hl
    rw [List.length_cons] at hl
    have hy := hq y (List.mem_cons_self ..)
    have hq2 : QOk Q := fun z hz => hq z (List.mem_cons_of_mem _ hz)
    unfold delF
    split
    · obtain ⟨g1, g2⟩ := grT_ok h hy.1 hy.2 (by omega)
      obtain ⟨i1, i2, i3⟩ := ih (grT T y) (out ++ [y.own]) g1 hq2 (by omega)
      exact ⟨i1, by rw [List.length_cons]; exact Nat.le_trans i2 (by omega), i3⟩
    · obtain ⟨i1, i2, i3⟩ := ih T out h hq2 (by omega)
      exact ⟨i1, by rw [List.length_cons]; exact Nat.le_trans i2 (by omega), fun z hz => by rcases List.mem_cons.1 hz with rfl | hz; exact hy; exact i3 z hz⟩
end
section
set_option linter.unusedVariables false
set_option linter.unusedSimpArgs false
open Go.RowKit Go.Maps Go.Sort Go.Lib Go.Shelf Go.Proofs.YtoolflmaaooplaaGreatW.PrintWords Go.Proofs.YtoolflmaaooplaaGreatW.PrintLast Go.Proofs.YtoolflmaaooplaaGreatW.PrintMore FLib
attribute [local go_sem] below_alloc_T below_drew_T below_drewN_T

theorem setCells_far2 {g : Nat} (vs : List Value) : ∀ (w : World) (o k : Nat), k ≠ g → (w.setCells g o vs).heap[k]? = w.heap[k]? := by
  induction vs with
  | nil => intro w o k hk; rfl
  | cons v vs ih => intro w o k hk; exact (ih _ _ k hk).trans (Below.heap_setCell _ _ _ _ hk)
theorem keeps_sets (w : World) (g o : Nat) (vs : List Value) : Keeps w (w.setCells g o vs) (fun k => k = g) := by
  induction vs generalizing w o with
  | nil => exact Keeps.refl _ _
  | cons v vs ih => exact ((Keeps.refl w (fun k => k = g)).set ⟨g, o, none⟩ v (.inl rfl)).trans (ih (w.setCell ⟨g, o, none⟩ v) (o + 1)) (fun i hi => .inl hi)
theorem TG.turnq {W : World} {p mb gq n c : Nat} {G : List Ent} {Q : List Lk} (h : TG W p mb (.slice (some ⟨gq, 0, none⟩) n c) G Q) (hn : n = Q.length) (M : List Lk) (i : Nat) (hi : i + M.length ≤ Q.length) :
    TG (W.setCells gq (i * 4) (lflat M)) p mb (.slice (some ⟨gq, 0, none⟩) n c) G (putAt Q i M) := by
  subst hn
  obtain ⟨D, hD, hL⟩ := h.map
  have s1 : p ≠ gq := fun e => h.sepq.1 (by rw [e]; rfl)
  have s2 : mb ≠ gq := fun e => h.sepq.2 (by rw [e]; rfl)
  have hb : ∀ k, k ≠ gq → (W.setCells gq (i * 4) (lflat M)).heap[k]? = W.heap[k]? := fun k hk => setCells_far2 _ _ _ k hk
  have s3 : ∀ e ∈ G, e.g ≠ gq := fun e he e2 => (h.sepr e he).2.2 (by rw [e2]; rfl)
  refine ⟨(hb p s1).trans h.hdr, ⟨D, ?_, hL⟩, fun e he => own_move (h.row e he) (fun k hk => hb k (fun e2 => s3 e he ((show e.g = k by simpa [entV, Value.ownBlock] using hk).trans e2))), h.sepr, ?_, h.sepq, h.len⟩
  · obtain ⟨es, clock, ho, F', hs, e⟩ := hD
    exact ⟨es, clock, (hb _ s2).trans ho, F', hs, e⟩
  · rw [putAt_len, ← lflat_put _ _ _ hi]
    exact own_sets _ _ _ _ h.queue
theorem ScI.turn {W : World} {p mb gq n c : Nat} {T : Tb} {Q : List Lk} {bt bo ba base : Nat} {out : List Int} {ag : Bool} (h : ScI W p mb (.slice (some ⟨gq, 0, none⟩) n c) T Q bt bo ba base out ag) (hn : n = Q.length) (M : List Lk) (i : Nat) (hi : i + M.length ≤ Q.length) :
    ScI (W.setCells gq (i * 4) (lflat M)) p mb (.slice (some ⟨gq, 0, none⟩) n c) T (putAt Q i M) bt bo ba base out ag := by
  obtain ⟨⟨G, hT, hG⟩, h1, ⟨u, h2, h3⟩, h4⟩ := h
  obtain ⟨cq, hq⟩ := own_ty hT.queue (k := gq) rfl
  have hb : ∀ k, k ≠ gq → (W.setCells gq (i * 4) (lflat M)).heap[k]? = W.heap[k]? := fun k hk => setCells_far2 _ _ _ k hk
  refine ⟨⟨G, hT.turnq hn M i hi, hG⟩, (hb _ (ty_ne h1 hq (by omega))).trans h1, ⟨u, (hb _ (ty_ne h2 hq (by omega))).trans h2, own_move h3 (fun k hk => hb k ?_)⟩, (hb _ (ty_ne h4 hq (by omega))).trans h4⟩
  obtain ⟨cs, hc⟩ := own_ty h3 hk
  exact ty_ne hc hq (by omega)
/-- What a pass may turn. -/
def ScG (w : World) (mb bo ba base gq k : Nat) : Prop := ScF w mb bo ba base k ∨ k = gq
theorem scg_trans {w w1 w2 : World} {mb bo ba base gq : Nat} (h1 : Keeps w w1 (ScG w mb bo ba base gq)) (h2 : Keeps w1 w2 (ScG w1 mb bo ba base gq)) : Keeps w w2 (ScG w mb bo ba base gq) := by
  refine h1.trans h2 (fun i hi => ?_)
  by_cases hw : i < w.heap.size
  · left
    by_cases hf : ScG w mb bo ba base gq i
    · exact hf
    · have hb := h1.block i hw hf
      rcases hi with (rfl | rfl | rfl | ⟨hb2, cs, hc⟩) | rfl
      · exact .inl (.inl rfl)
      · exact .inl (.inr (.inl rfl))
      · exact .inl (.inr (.inr (.inl rfl)))
      · exact .inl (.inr (.inr (.inr ⟨hb2, cs, hb ▸ hc⟩)))
      · exact .inr rfl
  · exact .inr (by omega)
theorem zero_flat (m : Nat) : (Builtin.zeroCells #[.int .i64 0, .int .i64 0, .int .i64 0, .bool false] m).toList = lflat (List.replicate m ⟨0, 0, 0, false⟩) := by
  apply List.ext_getElem?
  intro t
  obtain ⟨a, b, hb, rfl⟩ : ∃ a b, b < 4 ∧ t = a * 4 + b := ⟨t / 4, t % 4, by omega, by omega⟩
  rw [lflat_get _ _ _ hb]
  unfold Builtin.zeroCells
  by_cases h : a < m
  · have h1 : a * 4 + b < m * 4 := by omega
    have e : (a * 4 + b) % 4 = b := by omega
    simp [h, h1, e]
    have : b = 0 ∨ b = 1 ∨ b = 2 ∨ b = 3 := by omega
    rcases this with rfl | rfl | rfl | rfl <;> rfl
  · have h1 : ¬ a * 4 + b < m * 4 := by omega
    simp [h, h1]
theorem zero23 (w : World) : (zeroValue 29).run Tryz.prog w = .ok (.agg #[.int .i64 0, .int .i64 0, .int .i64 0, .bool false]) w := by kernel_rfl
theorem row_there {w : World} {base g c n : Nat} {L : List Lk} (h : w.ownsRow base 29 4 (.slice (some ⟨g, 0, none⟩) n c) n (lflat L)) (hn : n = L.length) {o m : Nat} (ho : o + m ≤ L.length * 4) : ∀ j, j < m → (w.cell? ⟨g, o + j, none⟩).isSome = true ∧ w.frozen? ⟨g, o + j, none⟩ = false := by
  intro j hj
  refine ⟨?_, own_frozen h _⟩
  have hlt : o + j < (lflat L).length := by rw [lflat_len]; omega
  have h1 := h.cells (g := g) rfl (o + j) _ (List.getElem?_eq_getElem hlt)
  rw [addmk, Nat.zero_add] at h1
  rw [h1]; rfl
theorem run_clear23 (ty : TypeId) (g o m c : Nat) (w : World) (h : ∀ j, j < (m + 1) * 4 → (w.cell? ⟨g, o + j, none⟩).isSome = true ∧ w.frozen? ⟨g, o + j, none⟩ = false) :
    (Builtin.clear_ #[26] ty #[.slice (some ⟨g, o, none⟩) (m + 1) c]).run Tryz.prog w = .ok (.tuple #[]) (w.setCells g o (lflat (List.replicate (m + 1) ⟨0, 0, 0, false⟩))) := by
  have hl : (lflat (List.replicate (m + 1) ⟨0, 0, 0, false⟩)).length = (m + 1) * 4 := by rw [lflat_len, List.length_replicate]
  have hst := run_storeCells_cells (P := Tryz.prog) g o (lflat (List.replicate (m + 1) ⟨0, 0, 0, false⟩)) 0 w (fun j hj => (h j (by omega)).1) (fun j hj => (h j (by omega)).2) (fun v hv => by
    unfold lflat at hv
    obtain ⟨x, hx, hv⟩ := List.mem_flatMap.1 hv
    rw [List.eq_of_mem_replicate hx] at hv
    simp [Lk.cells] at hv
    rcases hv with rfl | rfl <;> rfl)
  simp only [Nat.add_zero] at hst
  have hz := zero_flat (m + 1)
  simp [Builtin.clear_, run_underlying Tryz.underlying26, zero23, Value.cells, hz, hst]

set_option maxRecDepth 100000 in
set_option maxHeartbeats 2000000 in
theorem del60_any (p mb gq c : Nat) (T : Tb) (Q : List Lk) (bt bo ba base : Nat) (out : List Int) (ag : Bool) (hT : TOk T) (hTl : tAll T + 2 * Q.length ≤ 900) (ho : out.length + Q.length ≤ 100000) (hQ : QOk Q) (hc : Q.length ≤ c)
    (w : World) (hbase : base ≤ w.heap.size) (h : ScI w p mb (.slice (some ⟨gq, 0, none⟩) Q.length c) T Q bt bo ba base out ag) :
    Calls Tryz.prog 48 #[.slice (some ⟨gq, 0, none⟩) Q.length c, .func (.func 49) #[] #[.pointer (some ⟨bt, 0, none⟩), .pointer (some ⟨bo, 0, none⟩), .pointer (some ⟨ba, 0, none⟩)]] w fun e w' =>
      ∃ Qc : List Lk, e = .returned (.slice (some ⟨gq, 0, none⟩) (delF T out Q).2.length c) ∧ ScI w' p mb (.slice (some ⟨gq, 0, none⟩) Q.length c) (delF T out Q).1.1 Qc bt bo ba base (delF T out Q).1.2 (ag || decide ((delF T out Q).2.length < Q.length)) ∧
        Qc.length = Q.length ∧ Qc.take (delF T out Q).2.length = (delF T out Q).2 ∧ Keeps w w' (ScG w mb bo ba base gq) := by
  have HIX := Lib.hid (idx60_any p mb gq c T Q bt bo ba base out ag hT (by omega) (by omega) hQ (by omega) w hbase h)
  have HQ := Lib.hid hQ
  have HT := Lib.hid hT
  have HL := Lib.hid (And.intro hTl (And.intro ho (And.intro hbase hc)))
  have HS := Lib.hid h
  clear h hT hTl ho hQ hbase hc
  go_enter Tryz.func48, Tryz.ntmps48
  go_wp2_with fail
  refine HIX.out.mono ?_
  rintro e w1 (⟨rfl, hno, hb1⟩ | ⟨k, x, hx, hpre, hgx, rfl, hS1, hK1⟩)
  · have HN := Lib.hid (delF_none out hno)
    have H1 := Lib.hid (And.intro (HS.out.below hb1) (Keeps.of_below hb1 (ScG w mb bo ba base gq)))
    clear hno hb1
    go_wp2
    go_ret
    rw [HN.out]
    exact ⟨Q, rfl, by rw [show decide (Q.length < Q.length) = false from decide_eq_false (Nat.lt_irrefl _), Bool.or_false]; exact H1.out.1, rfl, List.take_length, H1.out.2⟩
  · have hkl : k < Q.length := (List.getElem?_eq_some_iff.1 hx).1
    have hd0 : delF T out (Q.take (k + 1)) = ((grT T x, out ++ [x.own]), Q.take k) := by
      rw [List.take_add_one, hx]
      show delF T out (Q.take k ++ [x]) = _
      rw [delF_snoc, delF_none out hpre, if_pos hgx]
    have HKL := Lib.hid hkl
    have HD0 := Lib.hid hd0
    have H1 := Lib.hid (And.intro hS1 (hK1.mono (fun i hi => show ScG w mb bo ba base gq i from .inl hi)))
    have hQ1 : (Q.length : Int) ≤ 1000 := by have := HL.out.1; omega
    have hkI : (k : Int) < (Q.length : Int) := by omega
    have hk0 : (0 : Int) ≤ (k : Int) := by omega
    have hkne : ((k : Int) == -1) = false := by simp
    clear hx hpre hgx hS1 hK1 hd0 hkl
    go_wp2
    go_loopw [6, 5] (fun t6 t5 wr => ∃ j : Nat, j ≤ Q.length ∧ t6 = .int .i64 j ∧ t5 = .int .i64 (((delF T out (Q.take j)).2.length : Nat) : Int) ∧ ∃ Qc : List Lk, Hid (ScI wr p mb (.slice (some ⟨gq, 0, none⟩) Q.length c) (delF T out (Q.take j)).1.1 Qc bt bo ba base (delF T out (Q.take j)).1.2 true) ∧
      Hid (Qc.length = Q.length ∧ Qc.take (delF T out (Q.take j)).2.length = (delF T out (Q.take j)).2 ∧ Qc.drop j = Q.drop j ∧ (delF T out (Q.take j)).2.length < j) ∧ Hid (Keeps w wr (ScG w mb bo ba base gq))) (fun t6 _ _ => Q.length - (RowKit.intOf t6).toNat)
    case atStart =>
      refine ⟨k + 1, by have := HKL.out; omega, by go_num, ?_, Q, ?_, ?_, Lib.hid H1.out.2⟩
      · rw [HD0.out, List.length_take]; congr 1; have := HKL.out; omega
      · rw [HD0.out]; exact Lib.hid H1.out.1
      · rw [HD0.out, List.length_take]
        exact Lib.hid ⟨rfl, by rw [Nat.min_eq_left (by have := HKL.out; omega)], rfl, by omega⟩
    case round =>
      obtain ⟨j, hj, rfl, rfl, Qc, hS, hq, hK⟩ := hrel
      by_cases hlt : j < Q.length
      · obtain ⟨x, hx⟩ : ∃ x, Q[j]? = some x := ⟨_, List.getElem?_eq_getElem hlt⟩
        have hcx : Qc[j]? = some x := by
          have h1 : (Qc.drop j)[0]? = (Q.drop j)[0]? := by rw [hq.out.2.2.1]
          rw [List.getElem?_drop, List.getElem?_drop] at h1
          simpa [hx] using h1
        have hxm := List.mem_of_getElem? hx
        obtain ⟨d1, d2, -⟩ := delF_ok (Q.take j) T out HT.out (fun y hy => HQ.out y (List.mem_of_mem_take hy)) (by rw [List.length_take]; have := HL.out.1; omega)
        have d3 := delF_len (Q.take j) T out
        rw [List.length_take] at d2 d3
        have DS : delF T out (Q.take (j + 1)) = if grB (delF T out (Q.take j)).1.1 x then ((grT (delF T out (Q.take j)).1.1 x, (delF T out (Q.take j)).1.2 ++ [x.own]), (delF T out (Q.take j)).2) else ((delF T out (Q.take j)).1, (delF T out (Q.take j)).2 ++ [x]) := by
          rw [List.take_add_one, hx]
          exact delF_snoc _ _ _ _
        generalize delF T out (Q.take j) = r at hS hq d1 d2 d3 DS ⊢
        obtain ⟨⟨T1, o1⟩, q1⟩ := r
        dsimp only at hS hq d1 d2 d3 DS ⊢
        have hrow : wr.ownsRow 0 29 4 (.slice (some ⟨gq, 0, none⟩) Q.length c) Q.length (lflat Qc) := by have := hS.out.row; rw [hq.out.1] at this; exact this
        obtain ⟨p0, p1, p2, p3⟩ := row_lk hrow hcx
        have hk0' : (0 : Int) ≤ (j : Int) := by omega
        have hk1' : (j : Int) < (Q.length : Int) := by omega
        have hi0 : (0 : Int) ≤ (q1.length : Int) := by omega
        have hi1 : (q1.length : Int) < (Q.length : Int) := by have := hq.out.2.2.2; omega
        have hSb := hS.out.below (below_alloc (Below.refl _ wr) (.cells x.cells.toArray 29))
        have HNO := Lib.hid (fun hg => grant_no p mb (.slice (some ⟨gq, 0, none⟩) Q.length c) T1 Qc bt bo ba base o1 true d1 (by have := HL.out.1; omega) x (HQ.out x hxm).1 (HQ.out x hxm).2 hg (wr.alloc (.cells x.cells.toArray 29)) hSb)
        have HYES := Lib.hid (fun hg hb => grant_yes p mb (.slice (some ⟨gq, 0, none⟩) Q.length c) T1 Qc bt bo ba base o1 true d1 (by have := HL.out.1; omega) (by have := HL.out; omega) x (HQ.out x hxm).1 (HQ.out x hxm).2 hg (wr.alloc (.cells x.cells.toArray 29)) hb hSb)
        have HDS := Lib.hid DS
        have HSb := Lib.hid hSb
        have HLT := Lib.hid hlt
        clear hx hcx hxm d1 d2 d3 DS hlt hSb hrow
        simp only [lkV, Lk.cells] at HNO HYES HSb
        cases hg : grB T1 x
        · have HN := Lib.hid (HNO.out hg)
          have hds := HDS.out
          rw [hg] at hds
          have HD := Lib.hid (show delF T out (Q.take (j + 1)) = ((T1, o1), q1 ++ [x]) from hds)
          clear hg hds HNO HYES HDS
          go_wp2_with fail
          refine HN.out.mono ?_
          rintro e w3 ⟨rfl, hb3⟩
          have h7 := blk_below (blk_new wr (.cells #[.int .i64 x.own, .int .i64 x.st, .int .i64 x.len, .bool x.ex] 29)) hb3
          have y0 : w3.cell? ⟨wr.heap.size, 0, none⟩ = some (.int .i64 x.own) := blk_cell h7 0
          have y1 : w3.cell? ⟨wr.heap.size, 1, none⟩ = some (.int .i64 x.st) := blk_cell h7 1
          have y2 : w3.cell? ⟨wr.heap.size, 2, none⟩ = some (.int .i64 x.len) := blk_cell h7 2
          have y3 : w3.cell? ⟨wr.heap.size, 3, none⟩ = some (.bool x.ex) := blk_cell h7 3
          have hS3 := HSb.out.below hb3
          have HTH := Lib.hid (show w3.there gq (q1.length * 4) 4 from row_there (by have := hS3.row; rw [hq.out.1] at this; exact this) hq.out.1.symm (by rw [hq.out.1]; omega))
          have H3 := Lib.hid (And.intro hS3 (scg_trans hK.out (Keeps.of_below ((below_alloc (Below.refl _ wr) _).trans (hb3.mono (by simp))) _)))
          clear hb3 h7 hS3 HN p0 p1 p2 p3
          go_wp2_with (refine gate_ (.store 29 (.tmp 33) (.tmp 32)) rfl ?_; refine wpList_store_mid rfl 29 (.tmp 33) (.tmp 32) rfl gq (q1.length * 4) #[.int .i64 x.own, .int .i64 x.st, .int .i64 x.len, .bool x.ex] (by rfl) (by rfl) HTH.out (by kernel_rfl) (by kernel_rfl) ?_)
          go_roundw
          case rel =>
            have hs := ScI.turn H3.out.1 hq.out.1.symm [x] q1.length (by rw [hq.out.1]; have := hq.out.2.2.2; have := HLT.out; simp; omega)
            refine ⟨j + 1, by have := HLT.out; omega, by go_num, by rw [HD.out]; simp, putAt Qc q1.length [x], by rw [HD.out]; exact Lib.hid hs, ?_, Lib.hid (scg_trans H3.out.2 ((keeps_sets w3 gq _ _).mono (fun i hi => .inr hi)))⟩
            rw [HD.out]
            refine Lib.hid ⟨by rw [putAt_len]; exact hq.out.1, ?_, ?_, ?_⟩
            · show (Qc.set q1.length x).take (q1 ++ [x]).length = q1 ++ [x]
              rw [List.length_append, List.length_singleton, List.take_add_one, List.take_set_of_le (Nat.le_refl _), hq.out.2.1, List.getElem?_set_self (by rw [hq.out.1]; have := hq.out.2.2.2; have := HLT.out; omega)]
              rfl
            · show (Qc.set q1.length x).drop (j + 1) = Q.drop (j + 1)
              rw [List.drop_set_of_lt (by have := hq.out.2.2.2; omega), ← List.drop_drop, ← List.drop_drop, hq.out.2.2.1]
            · show (q1 ++ [x]).length < j + 1
              rw [List.length_append, List.length_singleton]; have := hq.out.2.2.2; omega
          case measure => have := HLT.out; simp [RowKit.intOf]; omega
        · have HY := Lib.hid (HYES.out hg (Nat.le_trans HL.out.2.2.1 (Nat.le_trans hK.out.size (by simp))))
          have hds := HDS.out
          rw [hg] at hds
          have HD := Lib.hid (show delF T out (Q.take (j + 1)) = ((grT T1 x, o1 ++ [x.own]), q1) from hds)
          clear hg hds HNO HYES HDS
          go_wp2_with fail
          refine HY.out.mono ?_
          rintro e w3 ⟨rfl, hS3, hK3⟩
          have H3 := Lib.hid (And.intro hS3 (scg_trans hK.out (scg_trans (Keeps.of_below (below_alloc (Below.refl _ wr) _) _) (hK3.mono (fun i hi => show ScG _ mb bo ba base gq i from .inl hi)))))
          clear hS3 hK3 HY p0 p1 p2 p3
          go_wp2
          go_roundw
          case rel =>
            refine ⟨j + 1, by have := HLT.out; omega, by go_num, by rw [HD.out], Qc, by rw [HD.out]; exact Lib.hid H3.out.1, ?_, Lib.hid H3.out.2⟩
            rw [HD.out]
            exact Lib.hid ⟨hq.out.1, hq.out.2.1, by rw [← List.drop_drop, ← List.drop_drop, hq.out.2.2.1], Nat.lt_succ_of_lt hq.out.2.2.2⟩
          case measure => have := HLT.out; simp [RowKit.intOf]; omega
      · obtain rfl : j = Q.length := by omega
        rw [List.take_length] at hS hq ⊢
        obtain ⟨r, hr⟩ : ∃ r, delF T out Q = r := ⟨_, rfl⟩
        rw [hr] at hS hq ⊢
        have HR := Lib.hid hr
        clear hr
        obtain ⟨⟨T1, o1⟩, q1⟩ := r
        dsimp only at hS hq ⊢
        have hi0 : (0 : Int) ≤ (q1.length : Int) := by omega
        have hi1 : (q1.length : Int) < (Q.length : Int) := by have := hq.out.2.2.2; omega
        have hi2 : (q1.length : Int) ≤ (Q.length : Int) := by omega
        have hi3 : (q1.length : Int) ≤ (c : Int) := by have := HL.out.2.2.2; omega
        have hi4 : (Q.length : Int) ≤ (c : Int) := by have := HL.out.2.2.2; omega
        obtain ⟨m, hm⟩ : ∃ m, Q.length - q1.length = m + 1 := ⟨Q.length - q1.length - 1, by have := hq.out.2.2.2; omega⟩
        have hrow : wr.ownsRow 0 29 4 (.slice (some ⟨gq, 0, none⟩) Q.length c) Q.length (lflat Qc) := by have := hS.out.row; rw [hq.out.1] at this; exact this
        have hcl : (Builtin.clear_ #[26] 0 #[.slice (some ⟨gq, q1.length * 4, none⟩) (Q.length - q1.length) (c - q1.length)]).run Tryz.prog wr = .ok (.tuple #[]) (wr.setCells gq (q1.length * 4) (lflat (List.replicate (m + 1) ⟨0, 0, 0, false⟩))) := by
          rw [hm]
          exact run_clear23 0 gq _ m _ wr (row_there hrow hq.out.1.symm (by rw [hq.out.1]; have := hq.out.2.2.2; omega))
        have HM := Lib.hid hm
        clear hrow hm
        go_wp2
        go_ret
        have hs := ScI.turn hS.out hq.out.1.symm (List.replicate (m + 1) ⟨0, 0, 0, false⟩) q1.length (by rw [hq.out.1, List.length_replicate]; have := HM.out; omega)
        rw [HR.out]
        refine ⟨putAt Qc q1.length (List.replicate (m + 1) ⟨0, 0, 0, false⟩), ?_, ?_, by rw [putAt_len]; exact hq.out.1, ?_, scg_trans hK.out ((keeps_sets wr gq _ _).mono (fun i hi => .inr hi))⟩
        · rfl
        · rw [show decide (q1.length < Q.length) = true from decide_eq_true hq.out.2.2.2, Bool.or_true]
          exact hs
        · show (putAt Qc q1.length _).take q1.length = q1
          apply List.ext_getElem?
          intro i
          by_cases hi : i < q1.length
          · rw [List.getElem?_take_of_lt hi, putAt_get _ _ _ (by rw [hq.out.1, List.length_replicate]; have := HM.out; omega), if_neg (by omega)]
            conv => rhs; rw [← hq.out.2.1]
            rw [List.getElem?_take_of_lt hi]
          · rw [List.getElem?_eq_none (by rw [List.length_take]; omega), List.getElem?_eq_none (by omega)]
end
section
set_option linter.unusedVariables false
set_option linter.unusedSimpArgs false
open Go.RowKit Go.Maps Go.Sort Go.Lib Go.Shelf Go.Proofs.YtoolflmaaooplaaGreatW.PrintWords Go.Proofs.YtoolflmaaooplaaGreatW.PrintLast Go.Proofs.YtoolflmaaooplaaGreatW.PrintMore FLib
attribute [local go_sem] below_alloc_T below_drew_T below_drewN_T

/-- Passes over the queue until nothing more is granted. -/
def scanF : Nat → Tb → List Int → List Lk → (Tb × List Int) × List Lk
  | 0, T, out, Q => ((T, out), Q)
  | n + 1, T, out, Q => if (delF T out Q).2.length < Q.length then scanF n (delF T out Q).1.1 (delF T out Q).1.2 (delF T out Q).2 else delF T out Q
/-- The queue as it lies. -/
def QvOk (gq : Option Nat) (qv : Value) (Q : List Lk) : Prop := (qv = .slice none 0 0 ∧ Q = []) ∨ ∃ g c, gq = some g ∧ qv = .slice (some ⟨g, 0, none⟩) Q.length c ∧ Q.length ≤ c
theorem row_qv {W : World} {base : Nat} {qv : Value} {Q : List Lk} (h : W.ownsRow base 29 4 qv Q.length (lflat Q)) : QvOk qv.ownBlock qv Q := by
  rcases h.2 with ⟨rfl, hz⟩ | ⟨g, c, cur, rfl, -, -, h4, -⟩
  · exact .inl ⟨rfl, List.eq_nil_of_length_eq_zero hz⟩
  · exact .inr ⟨g, c, rfl, rfl, h4⟩
theorem ScI.setq {W : World} {p mb : Nat} {qv qv' : Value} {T : Tb} {Q Q' : List Lk} {bt bo ba base : Nat} {out : List Int} {ag : Bool} (h : ScI W p mb qv T Q bt bo ba base out ag) (hr : W.ownsRow 0 29 4 qv' Q'.length (lflat Q')) (hb : qv'.ownBlock = qv.ownBlock) :
    ScI (W.setCell ⟨p, 1, none⟩ qv') p mb qv' T Q' bt bo ba base out ag := by
  obtain ⟨⟨G, hT, hG⟩, h1, ⟨u, h2, h3⟩, h4⟩ := h
  refine ⟨⟨G, hT.setq hr (by rw [hb]; exact hT.sepq.1) (by rw [hb]; exact hT.sepq.2) (fun e he => by rw [hb]; exact (hT.sepr e he).2.2), hG⟩, blk_far h1 (ty_ne h1 hT.hdr (by omega)) _, ⟨u, blk_far h2 (ty_ne h2 hT.hdr (by omega)) _, own_move h3 (fun k hk => Below.heap_setCell _ _ _ _ ?_)⟩, blk_far h4 (ty_ne h4 hT.hdr (by omega)) _⟩
  obtain ⟨cs, hc⟩ := own_ty h3 hk
  exact ty_ne hc hT.hdr (by omega)
/-- What a pass leaves. -/
theorem pass_any (p mb : Nat) (gq : Option Nat) (qv : Value) (T : Tb) (Q : List Lk) (bt bo ba base : Nat) (out : List Int) (hq : QvOk gq qv Q) (hgq : qv.ownBlock = gq ∨ Q = []) (hT : TOk T) (hTl : tAll T + 2 * Q.length ≤ 900) (ho : out.length + Q.length ≤ 100000) (hQ : QOk Q)
    (w : World) (hbase : base ≤ w.heap.size) (h : ScI w p mb qv T Q bt bo ba base out false) :
    Calls Tryz.prog 48 #[qv, .func (.func 49) #[] #[.pointer (some ⟨bt, 0, none⟩), .pointer (some ⟨bo, 0, none⟩), .pointer (some ⟨ba, 0, none⟩)]] w fun e w' =>
      ∃ qv' : Value, e = .returned qv' ∧ qv'.oneCell' = true ∧ w'.heap[bt]? = some (.cells #[.pointer (some ⟨p, 0, none⟩)] 24 (0, 0)) ∧ w'.heap[p]? = some (.cells #[.map (some mb), qv] 48 (0, 0)) ∧
        ScI (w'.setCell ⟨p, 1, none⟩ qv') p mb qv' (delF T out Q).1.1 (delF T out Q).2 bt bo ba base (delF T out Q).1.2 (decide ((delF T out Q).2.length < Q.length)) ∧ QvOk gq qv' (delF T out Q).2 ∧
        Keeps w w' (fun k => ScF w mb bo ba base k ∨ qv.ownBlock = some k) := by
  rcases hq with ⟨rfl, rfl⟩ | ⟨g, c, hg, rfl, hc⟩
  · refine (del_nil _ w).mono ?_
    rintro e w' ⟨rfl, rfl⟩
    obtain ⟨G, hTG, hG⟩ := h.tg
    exact ⟨_, rfl, rfl, h.ct, hTG.hdr, h.setq (World.ownsRow_nil _ _ _ _) rfl, .inl ⟨rfl, rfl⟩, Keeps.refl _ _⟩
  · refine (del60_any p mb g c T Q bt bo ba base out false hT hTl ho hQ hc w hbase h).mono ?_
    rintro e w' ⟨Qc, rfl, hS, hl, ht, hK⟩
    obtain ⟨G, hTG, hG⟩ := hS.tg
    have hle : (delF T out Q).2.length ≤ Q.length := by
      have h1 := congrArg List.length ht
      rw [List.length_take, hl] at h1; omega
    refine ⟨_, rfl, rfl, hS.ct, hTG.hdr, ?_, .inr ⟨g, c, hg, rfl, Nat.le_trans hle hc⟩, hK.mono (fun k hk => ?_)⟩
    · rw [Bool.false_or] at hS
      refine hS.setq ?_ rfl
      have hr := hS.row
      rw [hl] at hr
      have h2 := own_cut hr hle
      rw [lflat_take _ _ (by rw [hl]; exact hle), ht] at h2
      exact h2
    · rcases hk with hk | rfl
      · exact .inl hk
      · exact .inr rfl
end
end Go.Proofs.YtoolflmaaooplaaGreat
