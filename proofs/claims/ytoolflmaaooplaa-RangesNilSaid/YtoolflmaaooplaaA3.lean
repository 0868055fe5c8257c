/- Ranges: the map's entries in the order of their owners: plain. -/
import Derived.Test.YtoolflmaaooplaaA2
namespace Go.Proofs.Ytoolflmaaooplaa
set_option linter.unusedVariables false
set_option linter.unusedSimpArgs false
open Go.RowKit Go.Maps Go.Sort Go.Proofs.YtoolflmaaooplaaW.PrintWords Go.Proofs.YtoolflmaaooplaaW.PrintLast Go.Proofs.YtoolflmaaooplaaW.PrintMore FLib

def gDel (G : List Ent) (k : Int) : List Ent := G.filter (fun e => e.own != k)
def gIns (e : Ent) : List Ent → List Ent
  | [] => [e]
  | x :: G => if e.own < x.own then e :: x :: G else x :: gIns e G
def gPut (G : List Ent) (e : Ent) : List Ent := gIns e (gDel G e.own)
def GSort (G : List Ent) : Prop := G.Pairwise (fun a b => a.own < b.own)
theorem gAt_cons (x : Ent) (G : List Ent) (k : Int) : gAt (x :: G) k = if x.own = k then some x else gAt G k := by
  unfold gAt
  rw [List.find?_cons]
  by_cases h : x.own = k
  · rw [if_pos h]; simp [h]
  · rw [if_neg h]
    have : (x.own == k) = false := by simpa using h
    rw [this]
theorem gAt_mem {G : List Ent} {k : Int} {e : Ent} (h : gAt G k = some e) : e ∈ G ∧ e.own = k := by
  unfold gAt at h
  exact ⟨List.mem_of_find?_eq_some h, by simpa using List.find?_some h⟩
theorem gAt_del (G : List Ent) (k j : Int) : gAt (gDel G k) j = if j = k then none else gAt G j := by
  induction G with
  | nil => unfold gDel gAt; simp
  | cons x G ih =>
    unfold gDel at ih ⊢
    rw [List.filter_cons]
    by_cases h : x.own = k
    · have : (x.own != k) = false := by simp [h]
      rw [this]
      simp only [Bool.false_eq_true, if_false]
      rw [ih, gAt_cons]
      by_cases hj : j = k
      · rw [if_pos hj, if_pos hj]
      · rw [if_neg hj, if_neg hj, if_neg (by omega)]
    · have : (x.own != k) = true := by simpa using h
      rw [this]
      simp only [if_true]
      rw [gAt_cons, gAt_cons, ih]
      by_cases hj : j = k
      · rw [if_pos hj, if_pos hj, if_neg (by omega)]
      · rw [if_neg hj, if_neg hj]
theorem gAt_ins {e : Ent} {G : List Ent} (h : gAt G e.own = none) (j : Int) : gAt (gIns e G) j = if j = e.own then some e else gAt G j := by
  induction G with
  | nil =>
    unfold gIns
    rw [gAt_cons]
    by_cases hj : j = e.own
    · rw [if_pos hj, if_pos hj.symm]
    · rw [if_neg hj, if_neg (fun h => hj h.symm)]
  | cons x G ih =>
    rw [gAt_cons] at h
    have hx : x.own ≠ e.own := fun hx => by rw [if_pos hx] at h; cases h
    rw [if_neg hx] at h
    unfold gIns
    split
    · rw [gAt_cons]
      by_cases hj : j = e.own
      · rw [if_pos hj, if_pos hj.symm]
      · rw [if_neg hj, if_neg (fun h => hj h.symm)]
    · rw [gAt_cons, gAt_cons, ih h]
      by_cases hj : j = e.own
      · rw [if_pos hj, if_neg (by omega), if_pos hj]
      · rw [if_neg hj, if_neg hj]
theorem gAt_put (G : List Ent) (e : Ent) (j : Int) : gAt (gPut G e) j = if j = e.own then some e else gAt G j := by
  unfold gPut
  rw [gAt_ins (by rw [gAt_del, if_pos rfl]), gAt_del]
  split
  · rfl
  · rfl
theorem gIns_len (e : Ent) (G : List Ent) : (gIns e G).length = G.length + 1 := by
  induction G with
  | nil => rfl
  | cons x G ih =>
    unfold gIns
    split
    · rfl
    · rw [List.length_cons, ih, List.length_cons]
theorem mem_gIns {e x : Ent} {G : List Ent} : x ∈ gIns e G ↔ x = e ∨ x ∈ G := by
  induction G with
  | nil => simp [gIns]
  | cons y G ih =>
    unfold gIns
    split
    · simp
    · rw [List.mem_cons, ih, List.mem_cons]
      constructor
      · rintro (h | h | h)
        · exact .inr (.inl h)
        · exact .inl h
        · exact .inr (.inr h)
      · rintro (h | h | h)
        · exact .inr (.inl h)
        · exact .inl h
        · exact .inr (.inr h)
theorem mem_gDel {x : Ent} {G : List Ent} {k : Int} : x ∈ gDel G k ↔ x ∈ G ∧ x.own ≠ k := by
  unfold gDel
  rw [List.mem_filter]
  simp
theorem mem_gPut {e x : Ent} {G : List Ent} : x ∈ gPut G e ↔ x = e ∨ (x ∈ G ∧ x.own ≠ e.own) := by
  unfold gPut
  rw [mem_gIns, mem_gDel]
theorem GSort.del {G : List Ent} (h : GSort G) (k : Int) : GSort (gDel G k) := List.Pairwise.filter _ h
theorem GSort.ins {e : Ent} {G : List Ent} (h : GSort G) (hn : ∀ x ∈ G, x.own ≠ e.own) : GSort (gIns e G) := by
  induction G with
  | nil => exact List.pairwise_singleton _ _
  | cons x G ih =>
    unfold GSort at h ih
    rw [List.pairwise_cons] at h
    have hx := hn x (List.mem_cons_self ..)
    unfold gIns
    split
    · rename_i hlt
      refine List.pairwise_cons.2 ⟨fun y hy => ?_, List.pairwise_cons.2 h⟩
      rcases List.mem_cons.1 hy with rfl | hy
      · exact hlt
      · have := h.1 y hy; omega
    · rename_i hge
      refine List.pairwise_cons.2 ⟨fun y hy => ?_, ih h.2 (fun z hz => hn z (List.mem_cons_of_mem _ hz))⟩
      rcases mem_gIns.1 hy with rfl | hy
      · omega
      · exact h.1 y hy
theorem GSort.put {G : List Ent} (h : GSort G) (e : Ent) : GSort (gPut G e) := (h.del _).ins (fun x hx => (mem_gDel.1 hx).2)
theorem gDel_none {G : List Ent} {k : Int} (h : gAt G k = none) : gDel G k = G := by
  unfold gDel
  rw [List.filter_eq_self]
  intro x hx
  unfold gAt at h
  rw [List.find?_eq_none] at h
  simpa using h x hx
theorem gDel_len {G : List Ent} (h : GSort G) (k : Int) : (gDel G k).length + (if (gAt G k).isSome then 1 else 0) = G.length := by
  induction G with
  | nil => rfl
  | cons x G ih =>
    unfold GSort at h ih
    rw [List.pairwise_cons] at h
    rw [gAt_cons]
    unfold gDel at ih ⊢
    rw [List.filter_cons]
    by_cases hx : x.own = k
    · have hb : (x.own != k) = false := by simp [hx]
      have hn : gAt G k = none := by
        unfold gAt
        rw [List.find?_eq_none]
        intro y hy
        have := h.1 y hy
        simp; omega
      have hd := gDel_none hn
      unfold gDel at hd
      rw [hb, if_pos hx]
      simp [hd]
    · have hb : (x.own != k) = true := by simpa using hx
      rw [hb, if_neg hx]
      have := ih h.2
      simp only [if_true, List.length_cons]
      omega
theorem gPut_len {G : List Ent} (h : GSort G) (e : Ent) : (gPut G e).length = if (gAt G e.own).isSome then G.length else G.length + 1 := by
  unfold gPut
  rw [gIns_len]
  have := gDel_len h e.own
  split at this
  · rename_i hs; rw [if_pos hs]; omega
  · rename_i hs; rw [if_neg hs]; omega

theorem key_ne {a b : Int} (h : a ≠ b) : (Lit.int .i64 a) ≠ (Lit.int .i64 b) := fun e => h (by injection e)
theorem key_lit {k : Int} (h : (Lit.int .i64 k).wf = true) : WideAt.IsKeyLit (Lit.int .i64 k) := by trivial
theorem DG.put {D : DataW Unit} {G : List Ent} (h : DG D G) (ht : Tidy D) (hs : GSort G) (e : Ent) (hw : (Lit.int .i64 e.own).wf = true) : DG (D.put (.int .i64 e.own) (entD (some e))) (gPut G e) := by
  refine ⟨fun k => ?_, fun k => ?_, ?_⟩
  · rw [gAt_put]
    by_cases hk : k = e.own
    · subst hk; rw [if_pos rfl]; exact atKey_put_same ht.isMap (key_lit hw) _ _
    · rw [if_neg hk, atKey_put_other (key_ne hk), h.look]
  · rw [gAt_put]
    by_cases hk : k = e.own
    · subst hk; rw [if_pos rfl]; exact has_put_same ht.isMap (key_lit hw) _
    · rw [if_neg hk, has_put_other (key_ne hk), h.has]
  · rw [size_put ht, h.has, h.size, gPut_len hs]
theorem DG.del {D : DataW Unit} {G : List Ent} (h : DG D G) (ht : Tidy D) (hs : GSort G) (k : Int) : DG (D.del (.int .i64 k)) (gDel G k) := by
  refine ⟨fun j => ?_, fun j => ?_, ?_⟩
  · rw [gAt_del]
    by_cases hj : j = k
    · subst hj; rw [if_pos rfl]; exact atKey_del_same _
    · rw [if_neg hj, atKey_del_other (key_ne hj), h.look]
  · rw [gAt_del]
    by_cases hj : j = k
    · subst hj; rw [if_pos rfl]; exact has_del_same
    · rw [if_neg hj, has_del_other (key_ne hj), h.has]
  · have h1 := size_del (k := .int .i64 k) ht
    have h2 := gDel_len hs k
    rw [h.has, h.size] at h1
    omega
/-- The bound of a map's entries is their number. -/
theorem owns_tight {W : World} {b n m : Nat} {D : DataW Unit} (h : W.ownsMap Try.prog 3 Rd b n D) (hs : size D ≤ m) : W.ownsMap Try.prog 3 Rd b m D := by
  obtain ⟨es, clock, ho, F, _, rfl⟩ := h
  refine ⟨es, clock, ho, F, ?_, rfl⟩
  simpa [Maps.size, length_sorted] using hs
end Go.Proofs.Ytoolflmaaooplaa
