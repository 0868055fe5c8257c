/- Ranges: the laws. -/
import Derived.Test.YtoolflmaaooplaaMP
import Derived.DeepKeys4
import Derived.WideKeyArr
namespace Go.Proofs.Ytoolflmaaooplaa
section
set_option linter.unusedVariables false
set_option linter.unusedSimpArgs false
open Go.RowKit Go.Maps Go.Sort Go.Lib Go.Shelf Go.WideMaps Go.Proofs.YtoolflmaaooplaaW.PrintWords Go.Proofs.YtoolflmaaooplaaW.PrintLast Go.Proofs.YtoolflmaaooplaaW.PrintMore FLib

def kk (x y : Int) : Lit := .string (keyBytes [.int .i64 x, .int .i64 y])
theorem cells44 : Try.prog.cellsOf 44 = 2 := by kernel_rfl
theorem cells3 : Try.prog.cellsOf 3 = 1 := by kernel_rfl
theorem arr44 : ArrKey Try.prog 44 3 2 := ⟨Try.underlying44, by kernel_rfl, cells3, cells44⟩
theorem keyed44 : Keyed Try.prog 44 := Keyed.of_law arr44.law
theorem size_two : ∃ m, Try.prog.types.size = m + 1 := ⟨Try.prog.types.size - 1, by kernel_rfl⟩
theorem key44 {x y : Int} (hx : (Lit.int .i64 x).wf = true) (hy : (Lit.int .i64 y).wf = true) : keyOf Try.prog 44 (.agg #[.int .i64 x, .int .i64 y]) = some (kk x y) := by
  unfold keyOf
  rw [Try.underlying44]
  have hk := arr44.keyType size_two
  obtain ⟨m, hm⟩ := size_two
  have hf : (Value.agg #[.int .i64 x, .int .i64 y]).formed Try.prog 44 = true := by simp [Value.formed, Try.underlying44, cells44]
  simp only [hk, hf, Bool.and_self, if_true]
  rw [hm]
  simp [Program.keyLits, Try.underlying44, Try.underlying3, cells44, cells3, Value.cells, List.range, List.range.loop, hx, hy, kk]
theorem kk_inj {x y x' y' : Int} (hx : (Lit.int .i64 x).wf = true) (hy : (Lit.int .i64 y).wf = true) (hx' : (Lit.int .i64 x').wf = true) (hy' : (Lit.int .i64 y').wf = true) (h : kk x y = kk x' y') : x = x' ∧ y = y' := by
  have := keyed44.inj (key44 hx hy) (h ▸ key44 hx' hy')
  simpa using this
/-- The map of pairs. -/
structure AM (W : World) (b : Nat) (f : Int → Int → Bool) (n : Nat) : Prop where
  map : ∃ D, W.ownsMap Try.prog 44 RdB b n D ∧ ∀ x y : Int, (Lit.int .i64 x).wf = true → (Lit.int .i64 y).wf = true → D.atKey (kk x y) (.lit (.bool false)) = .lit (.bool (f x y))
theorem AM.made (w : World) : AM (w.alloc (.map #[] 0)) w.heap.size (fun _ _ => false) 0 := ⟨.map [], World.ownsMap_made w Try.prog 44 RdB, fun x y _ _ => by simp [DataW.atKey]⟩
theorem AM.move {W W' : World} {b n : Nat} {f : Int → Int → Bool} (h : AM W b f n) (e : W'.heap[b]? = W.heap[b]?) : AM W' b f n := by
  obtain ⟨D, ⟨es, clock, ho, F', hs, e'⟩, hL⟩ := h.map
  exact ⟨D, ⟨es, clock, e.trans ho, F', hs, e'⟩, hL⟩
theorem AM.lt {W : World} {b n : Nat} {f : Int → Int → Bool} (h : AM W b f n) : b < W.heap.size := by
  obtain ⟨D, hD, -⟩ := h.map
  exact hD.lt
theorem AM.run_look {W : World} {b n : Nat} {f : Int → Int → Bool} (h : AM W b f n) {x y : Int} (hx : (Lit.int .i64 x).wf = true) (hy : (Lit.int .i64 y).wf = true) :
    (Instr.lookup 42 (.map (some b)) (.agg #[.int .i64 x, .int .i64 y]) false).run Try.prog W = .ok (.bool (f x y)) W := by
  obtain ⟨D, hD, hL⟩ := h.map
  obtain ⟨v, ps, hrun, hv⟩ := hD.lookup keyed44 Try.underlying42 (zero4 W) (zd := .lit (.bool false)) (zp := []) rfl (key44 hx hy)
  rw [hL x y hx hy] at hv
  rw [RdB_inv hv] at hrun
  exact hrun
def aPut (f : Int → Int → Bool) (x y : Int) : Int → Int → Bool := fun a b => if a = x ∧ b = y then true else f a b
theorem AM.put {W : World} {b n : Nat} {f : Int → Int → Bool} (h : AM W b f n) (x y : Int) (hx : (Lit.int .i64 x).wf = true) (hy : (Lit.int .i64 y).wf = true) (hn : n ≤ 1000000000) :
    ∃ w', (Instr.mapUpdate 42 (.map (some b)) (.agg #[.int .i64 x, .int .i64 y]) (.bool true)).run Try.prog W = .ok () w' ∧ AM w' b (aPut f x y) (n + 1) ∧ W.grownBy w' (some b) := by
  obtain ⟨D, hD, hL⟩ := h.map
  have ht := World.ownsMap.tidy hD keyed44
  obtain ⟨w', hrun, hown, hg⟩ := hD.update (val := .bool true) keyed44 Try.underlying42 (by unfold maxLen; omega) (key44 hx hy) (show RdB (.bool true) = some (.lit (.bool true), []) from rfl)
  refine ⟨w', hrun, ⟨_, hown, fun a c ha hc => ?_⟩, hg⟩
  unfold aPut
  by_cases he : a = x ∧ c = y
  · obtain ⟨rfl, rfl⟩ := he
    rw [if_pos ⟨rfl, rfl⟩]; exact atKey_put_same ht.isMap (show WideAt.IsKeyLit (kk a c) from trivial) _ _
  · rw [if_neg he, atKey_put_other (fun e => he (kk_inj ha hc hx hy e)), hL a c ha hc]

/-- Who waits for whom. -/
def Edge (T : Tb) (Q : List Lk) (a b : Int) : Prop := ∃ w ∈ Q, w.own = a ∧ b ∈ tOwn T w
inductive Pth (E : Int → Int → Prop) : Int → Int → Prop
  | one {a b : Int} : E a b → Pth E a b
  | cat {a b c : Int} : Pth E a b → Pth E b c → Pth E a c
def NCyc (T : Tb) (Q : List Lk) : Prop := ∀ o, ¬ Pth (Edge T Q) o o
theorem edge_of {T : Tb} {Q : List Lk} {B : Nat} (h : GI B T Q) {x y : Lk} (hx : x ∈ Q) (hy : y ∈ tGran T) (hc : confJ x y = true) : Pth (Edge T Q) x.own y.own :=
  .one ⟨x, hx, rfl, List.mem_map.2 ⟨y, (conf_gran h.inv (h.qok x hx).1).2 ⟨hy, hc⟩, rfl⟩⟩
/-- What the map has come to: only pairs that are joined by waiting. -/
def RI (E : Int → Int → Prop) (b N : Nat) (W : World) : Prop := ∃ f n, n ≤ N ∧ AM W b f n ∧ ∀ x y, f x y = true → Pth E x y
theorem RI.move {E : Int → Int → Prop} {b N : Nat} {W W' : World} (h : RI E b N W) (e : W'.heap[b]? = W.heap[b]?) : RI E b N W' := by
  obtain ⟨f, n, hn, ha, hf⟩ := h
  exact ⟨f, n, hn, ha.move e, hf⟩
theorem RI.mono {E : Int → Int → Prop} {b N N' : Nat} {W : World} (h : RI E b N W) (e : N ≤ N') : RI E b N' W := by
  obtain ⟨f, n, hn, ha, hf⟩ := h
  exact ⟨f, n, Nat.le_trans hn e, ha, hf⟩
theorem RI.look {E : Int → Int → Prop} {b N : Nat} {W : World} (h : RI E b N W) {x y : Int} (hx : (Lit.int .i64 x).wf = true) (hy : (Lit.int .i64 y).wf = true) :
    ∃ r : Bool, (Instr.lookup 42 (.map (some b)) (.agg #[.int .i64 x, .int .i64 y]) false).run Try.prog W = .ok (.bool r) W ∧ (r = true → Pth E x y) := by
  obtain ⟨f, n, hn, ha, hf⟩ := h
  exact ⟨f x y, ha.run_look hx hy, hf x y⟩
theorem RI.put {E : Int → Int → Prop} {b N : Nat} {W : World} (h : RI E b N W) {x y : Int} (hx : (Lit.int .i64 x).wf = true) (hy : (Lit.int .i64 y).wf = true) (hN : N ≤ 1000000000) (hp : Pth E x y) :
    ∃ w', (Instr.mapUpdate 42 (.map (some b)) (.agg #[.int .i64 x, .int .i64 y]) (.bool true)).run Try.prog W = .ok () w' ∧ RI E b (N + 1) w' ∧ W.grownBy w' (some b) := by
  obtain ⟨f, n, hn, ha, hf⟩ := h
  obtain ⟨w', hr, ha', hg⟩ := ha.put x y hx hy (by omega)
  refine ⟨w', hr, ⟨_, n + 1, by omega, ha', fun a c hac => ?_⟩, hg⟩
  unfold aPut at hac
  split at hac
  · rename_i he; rw [he.1, he.2]; exact hp
  · exact hf a c hac
end
section
set_option linter.unusedVariables false
set_option linter.unusedSimpArgs false

theorem Pth.imp {E E' : Int → Int → Prop} (h : ∀ a b, E' a b → E a b) {a b : Int} (hp : Pth E' a b) : Pth E a b := by
  induction hp with
  | one h1 => exact .one (h _ _ h1)
  | cat _ _ i1 i2 => exact .cat i1 i2
theorem ncyc_imp {T T' : Tb} {Q Q' : List Lk} (h : ∀ a b, Edge T' Q' a b → Edge T Q a b) (hn : NCyc T Q) : NCyc T' Q' := fun o ho => hn o (ho.imp h)
theorem pth_sink {E E' : Int → Int → Prop} {o : Int} (h : ∀ a b, E' a b → E a b ∨ b = o) (hs : ∀ b, ¬ E' o b) {a c : Int} (hp : Pth E' a c) : (∃ d, E' a d) ∧ (c = o ∨ Pth E a c) := by
  induction hp with
  | one h1 => exact ⟨⟨_, h1⟩, (h _ _ h1).elim (fun h => .inr (.one h)) .inl⟩
  | cat _ _ i1 i2 =>
    refine ⟨i1.1, ?_⟩
    rcases i1.2 with rfl | p1
    · obtain ⟨d, hd⟩ := i2.1
      exact absurd hd (hs d)
    · exact i2.2.imp id (fun p2 => .cat p1 p2)
theorem ncyc_sink {T T' : Tb} {Q Q' : List Lk} {o : Int} (h : ∀ a b, Edge T' Q' a b → Edge T Q a b ∨ b = o) (hs : ∀ y ∈ Q', y.own ≠ o) (hn : NCyc T Q) : NCyc T' Q' := by
  have hs2 : ∀ b, ¬ Edge T' Q' o b := fun b ⟨w, hw, he, _⟩ => hs w hw he
  intro x hx
  obtain ⟨⟨d, hd⟩, h2⟩ := pth_sink h hs2 hx
  rcases h2 with rfl | h2
  · exact hs2 d hd
  · exact hn x h2
theorem mem_tOwn2 {T : Tb} {w : Lk} {b : Int} : b ∈ tOwn T w ↔ ∃ z ∈ T, z.1 = b ∧ ∃ s ∈ z.2, confB z.1 w s = true := by
  unfold tOwn
  rw [List.mem_map]
  constructor
  · rintro ⟨y, hy, rfl⟩
    obtain ⟨z, hz, s, hs, hc, rfl⟩ := mem_conf.1 hy
    exact ⟨z, hz, rfl, s, hs, hc⟩
  · rintro ⟨z, hz, rfl, s, hs, hc⟩
    exact ⟨_, mem_conf.2 ⟨z, hz, s, hs, hc, rfl⟩, rfl⟩
theorem edge_gr {T : Tb} {x : Lk} {Q Q' : List Lk} (hq : ∀ y ∈ Q', y ∈ Q) (a b : Int) (h : Edge (grT T x) Q' a b) : Edge T Q a b ∨ b = x.own := by
  obtain ⟨w, hw, he, hb⟩ := h
  obtain ⟨z, hz, hzb, s, hs, hc⟩ := mem_tOwn2.1 hb
  rcases mem_tPut hz with ⟨rfl, -⟩ | ⟨hz, -⟩
  · exact .inr hzb.symm
  · exact .inl ⟨w, hq w hw, he, mem_tOwn2.2 ⟨z, hz, hzb, s, hs, hc⟩⟩
theorem delF_ncyc : ∀ (Q K : List Lk) (T : Tb) (out : List Int), NCyc T (K ++ Q) → ((K ++ Q).map (·.own)).Nodup → NCyc (delF T out Q).1.1 (K ++ (delF T out Q).2)
  | [], K, T, out, h, _ => h
  | x :: Q, K, T, out, h, hn => by
    have hsub : ∀ y ∈ K ++ Q, y ∈ K ++ x :: Q := fun y hy => by
      rcases List.mem_append.1 hy with hy | hy
      · exact List.mem_append_left _ hy
      · exact List.mem_append_right _ (List.mem_cons_of_mem _ hy)
    have hsl : (K ++ Q).Sublist (K ++ x :: Q) := (List.Sublist.refl K).append (List.sublist_cons_self x Q)
    unfold delF
    split
    · refine delF_ncyc Q K _ _ (ncyc_sink (o := x.own) (edge_gr hsub) (fun y hy e => ?_) h) ((hsl.map _).nodup hn)
      have hp := ((List.perm_middle (a := x) (l₁ := K) (l₂ := Q)).map (·.own)).nodup_iff.1 hn
      exact (List.nodup_cons.1 hp).1 (List.mem_map.2 ⟨y, hy, e⟩)
    · have := delF_ncyc Q (K ++ [x]) T out (by rw [List.append_assoc]; exact h) (by rw [List.append_assoc]; exact hn)
      rw [List.append_assoc] at this
      exact this
theorem scanF_ncyc : ∀ (n : Nat) (T : Tb) (out : List Int) (Q : List Lk), NCyc T Q → (Q.map (·.own)).Nodup → NCyc (scanF n T out Q).1.1 (scanF n T out Q).2
  | 0, _, _, _, h, _ => h
  | n + 1, T, out, Q, h, hn => by
    have hd := delF_ncyc Q [] T out h hn
    unfold scanF
    split
    · exact scanF_ncyc n _ _ _ hd (((delF_sub Q T out).map _).nodup hn)
    · exact hd
theorem mem_tAt {T : Tb} {o : Int} {s : Sp} (h : s ∈ tAt T o) : ∃ z ∈ T, z.1 = o ∧ s ∈ z.2 := by
  unfold tAt at h
  split at h
  · rename_i x hx
    exact ⟨x, List.mem_of_find?_eq_some hx, by simpa using List.find?_some hx, h⟩
  · cases h
theorem edge_rel {T : Tb} (hT : TInv T) {o s n : Int} (hx : okL o s n = true) {Q : List Lk} (a b : Int) (h : Edge (relT T o s n) Q a b) : Edge T Q a b := by
  obtain ⟨w, hw, he, hb⟩ := h
  obtain ⟨z, hz, hzb, p, hp, hc⟩ := mem_tOwn2.1 hb
  rcases mem_tPut hz with ⟨rfl, -⟩ | ⟨hz, -⟩
  · have ha := hT.at o
    have hsp := okL_span (x := ⟨o, s, n, false⟩) hx
    have hcan := cut_canon ha.1 ha.2.2 (lo := s) (hi := endI s n) hsp.2.1
    have hp2 : p ∈ cutP (tAt T o) s (endI s n) := by
      have h1 : p ∈ rSp (tAt T o) s (endI s n) := hp
      unfold rSp at h1
      rw [join_id hcan] at h1
      exact h1
    obtain ⟨t, ht, hcase⟩ := mem_cut.1 hp2
    obtain ⟨z', hz', hzo, hs'⟩ := mem_tAt ht
    refine ⟨w, hw, he, mem_tOwn2.2 ⟨z', hz', hzo.trans hzb, t, hs', ?_⟩⟩
    rw [hzo]
    unfold confB overI at hc ⊢
    simp only [Bool.and_eq_true, decide_eq_true_eq] at hc ⊢
    have key : t.lo ≤ p.lo ∧ p.hi ≤ t.hi ∧ p.ex = t.ex := by
      rcases hcase with ⟨h1, rfl⟩ | ⟨h1, rfl⟩
      · exact ⟨Int.le_refl _, Int.min_le_left _ _, rfl⟩
      · exact ⟨Int.le_max_left _ _, Int.le_refl _, rfl⟩
    rw [← key.2.2]
    refine ⟨hc.1, ⟨by have := hc.2.1.1; omega, by have := hc.2.1.2; omega⟩, hc.2.2⟩
  · exact ⟨w, hw, he, mem_tOwn2.2 ⟨z, hz, hzb, p, hp, hc⟩⟩
theorem edge_del {T : Tb} {o : Int} {Q Q' : List Lk} (hq : ∀ y ∈ Q', y ∈ Q) (a b : Int) (h : Edge (tDel T o) Q' a b) : Edge T Q a b := by
  obtain ⟨w, hw, he, hb⟩ := h
  obtain ⟨z, hz, hzb, s, hs, hc⟩ := mem_tOwn2.1 hb
  exact ⟨w, hq w hw, he, mem_tOwn2.2 ⟨z, (mem_tDel.1 hz).1, hzb, s, hs, hc⟩⟩
theorem rq_of {Q : List Lk} (hn : (Q.map (·.own)).Nodup) {w : Lk} (hw : w ∈ Q) : rqAt Q w.own = some w := by
  rw [rqAt_find]
  induction Q with
  | nil => cases hw
  | cons a Q ih =>
    rw [List.map_cons, List.nodup_cons] at hn
    rw [List.find?_cons]
    rcases List.mem_cons.1 hw with rfl | hw
    · simp
    · have : a.own ≠ w.own := fun e => hn.1 (List.mem_map.2 ⟨w, hw, e.symm⟩)
      rw [show (a.own == w.own) = false by simpa using this]
      exact ih hn.2 hw
theorem pth_split {E E' : Int → Int → Prop} {o : Int} (h : ∀ a b, E' a b → E a b ∨ a = o) {a c : Int} (hp : Pth E' a c) : Pth E a c ∨ ((a = o ∨ Pth E' a o) ∧ Pth E' o c) := by
  induction hp with
  | one h1 =>
    rcases h _ _ h1 with h2 | rfl
    · exact .inl (.one h2)
    · exact .inr ⟨.inl rfl, .one h1⟩
  | cat p1 p2 i1 i2 =>
    rcases i1 with i1 | ⟨i1, i1'⟩
    · rcases i2 with i2 | ⟨i2, i2'⟩
      · exact .inl (.cat i1 i2)
      · refine .inr ⟨.inr ?_, i2'⟩
        rcases i2 with rfl | i2
        · exact p1
        · exact .cat p1 i2
    · exact .inr ⟨i1, .cat i1' p2⟩
theorem ncyc_wait {T : Tb} (hT : TOk T) (hl : tAll T ≤ 1000) {Q : List Lk} {l : Lk} (hn : (Q.map (·.own)).Nodup) (hnl : ¬ l.own ∈ Q.map (·.own)) (hd : deadT T Q l = false) (h : NCyc T Q) : NCyc T (Q ++ [l]) := by
  have hf := wtF_eq hn hnl
  have hfl : wtF l Q l.own = some l := by rw [hf, if_pos rfl]
  have hfw : ∀ w ∈ Q ++ [l], wtF l Q w.own = some w := fun w hw => by
    rcases List.mem_append.1 hw with hw | hw
    · rw [hf, if_neg (fun e => hnl (List.mem_map.2 ⟨w, hw, e⟩))]
      exact rq_of hn hw
    · rw [List.mem_singleton.1 hw]; exact hfl
  have hsp : ∀ a b, Edge T (Q ++ [l]) a b → Edge T Q a b ∨ a = l.own := fun a b ⟨w, hw, he, hb⟩ => by
    rcases List.mem_append.1 hw with hw | hw
    · exact .inl ⟨w, hw, he, hb⟩
    · rw [List.mem_singleton.1 hw] at he; exact .inr he.symm
  have key : ∀ {a c : Int}, Pth (Edge T (Q ++ [l])) a c → Rch T (wtF l Q) l.own a → ∃ o x, Rch T (wtF l Q) l.own o ∧ wtF l Q o = some x ∧ c ∈ tOwn T x := by
    intro a c hp
    induction hp with
    | one h1 =>
      intro hr
      obtain ⟨w, hw, rfl, hb⟩ := h1
      exact ⟨w.own, w, hr, hfw w hw, hb⟩
    | cat p1 p2 i1 i2 =>
      intro hr
      obtain ⟨o, x, h1, h2, h3⟩ := i1 hr
      exact i2 (.step h1 h2 h3)
  intro o ho
  have hll : Pth (Edge T (Q ++ [l])) l.own l.own := by
    rcases pth_split hsp ho with h1 | ⟨h1, h2⟩
    · exact absurd h1 (h o)
    · rcases h1 with rfl | h1
      · exact h2
      · exact .cat h2 h1
  have hdead : Dead T (wtF l Q) l.own := key hll .base
  rw [(dead_iff hT hl hfl).2 hdead] at hd
  cases hd
theorem set_ncyc {B : Nat} {T : Tb} {Q : List Lk} (h : GI B T Q) (hB : B ≤ 180) (hN : NCyc T Q) (l : Lk) (wt : Bool) : NCyc (setF T Q l wt).2.1 (setF T Q l wt).2.2 := by
  have hsz := h.size
  unfold setF
  split
  · exact hN
  split
  · exact hN
  rename_i h2
  split
  · split
    · refine scanF_ncyc _ _ _ _ (ncyc_sink (o := l.own) (edge_gr (fun y hy => hy)) (fun y hy e => fd_mem h2 (List.mem_map.2 ⟨y, hy, e⟩)) hN) h.nd
    · exact hN
  split
  · exact hN
  split
  · exact hN
  split
  · exact hN
  · rename_i hd
    exact ncyc_wait h.inv.ok (by omega) h.nd (fd_mem h2) (by simpa using hd) hN
theorem act_ncyc {B : Nat} {T : Tb} {Q : List Lk} (h : GI B T Q) (hB : B ≤ 180) (hN : NCyc T Q) (k : Int) (l : Lk) : NCyc (actF T Q k l).1 (actF T Q k l).2 := by
  unfold actF
  split
  · exact set_ncyc h hB hN l false
  split
  · exact set_ncyc h hB hN l true
  split
  · unfold relF
    split
    · exact hN
    · rename_i hv
      split
      · exact hN
      · exact scanF_ncyc _ _ _ _ (ncyc_imp (edge_rel h.inv (by simpa using hv)) hN) h.nd
  split
  · exact ncyc_imp (fun a b ⟨w, hw, he, hb⟩ => ⟨w, (cancQ_sub Q l.own).subset hw, he, hb⟩) hN
  split
  · unfold dropF
    exact scanF_ncyc _ _ _ _ (ncyc_imp (edge_del (fun y hy => (cancQ_sub Q l.own).subset hy)) hN) (((cancQ_sub Q l.own).map _).nodup h.nd)
  · exact hN
theorem play_ncyc (L : List (Int × Lk)) (hw : ∀ a ∈ L, (Lit.int .i64 a.2.own).wf = true) (hl : L.length ≤ 60) : ∀ k, k ≤ L.length → NCyc (playF (L.take k)).1 (playF (L.take k)).2 := by
  intro k
  induction k with
  | zero =>
    intro _ o ho
    have key : ∀ {a b : Int}, Pth (Edge (playF (L.take 0)).1 (playF (L.take 0)).2) a b → False := by
      intro a b hp
      induction hp with
      | one h1 => obtain ⟨w, hw, -⟩ := h1; simp [playF] at hw
      | cat _ _ i1 _ => exact i1
    exact key ho
  | succ k ih =>
    intro hk
    have hx : L[k]? = some L[k] := List.getElem?_eq_getElem (by omega)
    rw [playF_snoc hx]
    exact act_ncyc (playF_ok L hw hl k (by omega)) (by omega) (ih (by omega)) _ _
theorem played_ncyc {w : World} {a : Option Addr} {len : Nat} {L : List (Int × Lk)} (h : Opens2.ActRow w a len L) (hl : len ≤ 60) : NCyc (plT L) (plQ L) := by
  have h2 := play_ncyc (mod8 L) (fun y hy => by
    unfold mod8 at hy
    obtain ⟨x, hx, rfl⟩ := List.mem_map.1 hy
    obtain ⟨i, hi, rfl⟩ := List.getElem_of_mem hx
    exact (h.2.2 i _ (List.getElem?_eq_getElem hi)).2.1) (by rw [mod8_len, h.1]; exact hl) len (by rw [mod8_len, h.1]; exact Nat.le_refl _)
  rw [List.take_of_length_le (by rw [mod8_len, h.1]; exact Nat.le_refl _)] at h2
  exact h2
end
section
set_option linter.unusedVariables false
set_option linter.unusedSimpArgs false
open Go.RowKit Go.Maps Go.Sort Go.Lib Go.Shelf Go.Proofs.YtoolflmaaooplaaW.PrintWords Go.Proofs.YtoolflmaaooplaaW.PrintLast Go.Proofs.YtoolflmaaooplaaW.PrintMore FLib
attribute [local go_sem] below_alloc_T below_drew_T below_drewN_T

theorem self_any (E : Int → Int → Prop) (hE : ∀ o, ¬ Pth E o o) (b mbm N : Nat) (x : Lk) (hx : (Lit.int .i64 x.own).wf = true) (w : World) (hc : w.cell? ⟨b, 0, none⟩ = some (.map (some mbm))) (h : RI E mbm N w) (hlt : mbm < w.heap.size) :
    Calls Try.prog 20 #[lkV x, .pointer (some ⟨b, 0, none⟩)] w fun e w' => e = .returned (.bool false) ∧ Below w.heap.size w w' := by
  obtain ⟨x0, x1, x2, x3⟩ := x
  simp only [lkV]
  obtain ⟨r, hr, hp⟩ := (h.move (W' := w.alloc (.cells #[.int .i64 x0, .int .i64 x1, .int .i64 x2, .bool x3] 23)) (Below.heap_alloc _ _ _ hlt)).look hx hx
  have hf : r = false := by
    cases r with
    | false => rfl
    | true => exact absurd (hp rfl) (hE _)
  subst hf
  have c0 : ∀ o : Obj, (w.alloc o).cell? ⟨b, 0, none⟩ = some (.map (some mbm)) := fun o => pw_cell_below (below_alloc (Below.refl w.heap.size w) o) hc
  clear hc h hp hlt
  go_enter Try.func20, Try.ntmps20
  go_wp2
  go_ret
  exact ⟨rfl, below_alloc (Below.refl _ _) _⟩
theorem kb {w W W' : World} {m : Nat} (h : Below w.heap.size w W) (hk : Keeps W W' (fun k => k = m)) (hm : w.heap.size ≤ m) : Below w.heap.size w W' := h.trans (Keeps.below hk h.size (fun i hi => by omega))
set_option maxRecDepth 100000 in
set_option maxHeartbeats 2000000 in
theorem waits_law (a : Option Addr) (len cap : Nat) (L : List (Int × Lk)) (hN : len ≤ 60 → NCyc (plT L) (plQ L)) (w : World) (h : Opens2.ActRow w a len L) :
    Calls Try.prog 4 #[.slice a len cap] w fun e w' => e = .returned (.bool true) ∧ Below w.heap.size w w' := by
  have HAW := Lib.hid awake_any
  have HH := Lib.hid h
  have HNC := Lib.hid hN
  have hmm := @run_makeMap Try.prog
  clear h hN
  by_cases hlen : 60 < len
  · have hd : decide ((60 : Int) < (len : Int)) = true := decide_eq_true (by omega)
    clear hlen hmm
    go_enter Try.func4, Try.ntmps4
    go_wp2_with fail
    refine (HAW.out _).mono ?_
    rintro e w1 ⟨rfl, hb1⟩
    have H1 := Lib.hid hb1
    clear hb1
    go_wp2
    go_ret
    exact ⟨rfl, H1.out⟩
  · have hd : decide ((60 : Int) < (len : Int)) = false := decide_eq_false (by omega)
    have HL := Lib.hid hlen
    clear hlen
    go_enter Try.func4, Try.ntmps4
    go_wp2_with fail
    refine (HAW.out _).mono ?_
    rintro e w1 ⟨rfl, hb1⟩
    have HP := Lib.hid (played_any a len cap L (by have := HL.out; omega) w1 (act_below HH.out hb1))
    have HBW := Lib.hid hb1
    clear hb1
    go_wp2_with fail
    refine HP.out.mono ?_
    rintro e w2 ⟨p, mb, rfl, hP2, hb2⟩
    have HGI := Lib.hid (play_all HH.out (by have := HL.out; omega))
    have HNY := Lib.hid (HNC.out (by have := HL.out; omega))
    generalize plT L = T at HGI hP2 HNY
    generalize plQ L = Q at HGI hP2 HNY
    have H2 := Lib.hid (And.intro hP2 (below_back HBW.out hb2))
    clear hP2 hb2
    go_wp2_with fail
    refine (granted_c HGI.out H2.out.1).mono ?_
    rintro e w4 ⟨u4, rfl, hr4, hb4⟩
    have H4 := Lib.hid (And.intro hr4 (And.intro (H2.out.1.below hb4) (below_back H2.out.2 hb4)))
    clear hr4 hb4
    go_wp2_with fail
    refine (waiting_c HGI.out (by have := HL.out; omega) H4.out.2.1).mono ?_
    rintro e w5 ⟨u5, rfl, hr5, hb5⟩
    have hr4 := pw_own_below H4.out.1 hb5
    obtain ⟨G, hG⟩ : ∃ G, tGran T = G := ⟨_, rfl⟩
    have HWF := Lib.hid (wf_all HGI.out)
    have HED := Lib.hid (fun x y hx hy => edge_of (x := x) (y := y) HGI.out hx hy)
    have HGE := Lib.hid hG
    have HNE := Lib.hid (fun x hx => near_ok ((HGI.out.qok x hx).1))
    have HNG := Lib.hid (fun y hy => near_gran (y := y) HGI.out.inv hy)
    have HSZ := Lib.hid (show G.length ≤ 120 ∧ Q.length ≤ 60 by rw [← hG, gran_len]; have := HGI.out.size; have := HL.out; omega)
    rw [hG] at hr4 HWF HNG
    obtain ⟨a4, c4, rfl⟩ := row_any hr4
    obtain ⟨a5, c5, rfl⟩ := row_any hr5
    have H5 := Lib.hid (And.intro (own_base hr4 (Nat.zero_le _)) (And.intro (own_base hr5 (Nat.zero_le _)) (below_back H4.out.2.2 hb5)))
    obtain ⟨E, hE⟩ : ∃ E, Edge T Q = E := ⟨_, rfl⟩
    unfold NCyc at HNY
    rw [hE] at HNY HED
    clear hr4 hr5 hb5 hG H4 H2 hE
    go_wp2
    clear hmm
    refine abs_w (fun W => Below w5.heap.size w5 W ∧ W.heap[w5.heap.size + 1]? = some (.cells #[.map (some w5.heap.size)] 42 (0, 0)) ∧ RI E w5.heap.size 0 W) ⟨below_alloc (below_alloc (Below.refl _ _) _) _, by have := blk_new (w5.alloc (.map #[] 0)) (.cells #[.map (some w5.heap.size)] 42); simpa using this, _, 0, Nat.le_refl _, (AM.made w5).move (Below.heap_alloc _ _ _ (by simp)), fun x y h => by simp at h⟩ ?_
    rintro W9 ⟨hb9, hh9, hr9⟩
    have H9 := Lib.hid (And.intro hb9 (And.intro hh9 hr9))
    obtain ⟨m, hm⟩ : ∃ m, w5.heap.size = m := ⟨_, rfl⟩
    have HM := Lib.hid hm
    rw [hm] at hb9 hh9 hr9 H9 ⊢
    clear hb9 hh9 hr9
    clear hm
    go_loopw [34] (fun t wr => ∃ i : Nat, i ≤ Q.length ∧ t = .int .i64 i ∧ Hid (RI E m (200 * i) wr) ∧ Hid (Keeps W9 wr (fun k => k = m))) (fun t _ => Q.length - (RowKit.intOf t).toNat)
    case atStart => exact ⟨0, Nat.zero_le _, rfl, Lib.hid H9.out.2.2, Lib.hid (Keeps.refl _ _)⟩
    case round =>
      obtain ⟨i, hi, rfl, hR, hK⟩ := hrel
      have hlr : (Q.length : Int) ≤ 60 := by have := HSZ.out; omega
      by_cases hlt : i < Q.length
      · obtain ⟨x, hx⟩ : ∃ x, Q[i]? = some x := ⟨_, List.getElem?_eq_getElem hlt⟩
        have hB := kb (by rw [HM.out]; exact H9.out.1) hK.out (Nat.le_of_eq HM.out)
        have hrq := pw_own_below H5.out.2.1 hB
        obtain ⟨g5, rfl⟩ := row_some2 hrq (by omega)
        obtain ⟨p0, p1, p2, p3⟩ := row_lk hrq hx
        have hk0 : (0 : Int) ≤ (i : Int) := by omega
        have hk1 : (i : Int) < (Q.length : Int) := by omega
        have HX := Lib.hid (And.intro hlt (List.mem_of_getElem? hx))
        obtain ⟨Wp, hWp⟩ : ∃ Wp, Wp = wr := ⟨_, rfl⟩
        subst hWp
        have HK := Lib.hid hK.out
        have HR := Lib.hid hR.out
        clear hx hlt hB hrq hR hK hi
        go_wp2
        obtain ⟨b8, hb8⟩ : ∃ b, Wp.heap.size = b := ⟨_, rfl⟩
        have h8 := blk_new Wp (.cells #[.int .i64 x.own, .int .i64 x.st, .int .i64 x.len, .bool x.ex] 23)
        obtain ⟨WA, hWA⟩ : ∃ WA, Wp.alloc (.cells #[.int .i64 x.own, .int .i64 x.st, .int .i64 x.len, .bool x.ex] 23) = WA := ⟨_, rfl⟩
        have hm8 : m < Wp.heap.size := by obtain ⟨f, n, -, ha, -⟩ := HR.out; exact ha.lt
        have hra := HR.out.move (W' := WA) (by rw [← hWA]; exact Below.heap_alloc _ _ _ hm8)
        have hka : Keeps W9 WA (fun k => k = m) := by rw [← hWA]; exact HK.out.alloc _
        rw [hWA] at h8 ⊢
        rw [hb8] at h8 hm8 ⊢
        have HA := Lib.hid (And.intro hra (And.intro hka (And.intro h8 hm8)))
        clear hra hka h8 hm8 p0 p1 p2 p3 hWA hb8
        go_loopw [40] (fun t wr => ∃ j : Nat, j ≤ G.length ∧ t = .int .i64 j ∧ Hid (RI E m (200 * i + j) wr) ∧ Hid (Keeps WA wr (fun k => k = m))) (fun t _ => G.length - (RowKit.intOf t).toNat)
        case atStart => exact ⟨0, Nat.zero_le _, rfl, Lib.hid HA.out.1, Lib.hid (Keeps.refl _ _)⟩
        case round =>
          obtain ⟨j, hj, rfl, hR, hK⟩ := hrel
          have hlr2 : (G.length : Int) ≤ 120 := by have := HSZ.out; omega
          by_cases hlt : j < G.length
          · obtain ⟨y, hy⟩ : ∃ y, G[j]? = some y := ⟨_, List.getElem?_eq_getElem hlt⟩
            have hk9 := HA.out.2.1.trans hK.out (fun _ h => .inl h)
            have hB := kb (by rw [HM.out]; exact H9.out.1) hk9 (Nat.le_of_eq HM.out)
            have hrg := pw_own_below H5.out.1 hB
            obtain ⟨g4, rfl⟩ := row_some2 hrg (by omega)
            obtain ⟨q0, q1, q2, q3⟩ := row_lk hrg hy
            have hk2 : (0 : Int) ≤ (j : Int) := by omega
            have hk3 : (j : Int) < (G.length : Int) := by omega
            have hx8 := hK.out.blk HA.out.2.2.1 (by have := HA.out.2.2.2; omega)
            have hh := hk9.blk H9.out.2.1 (by omega)
            have xa : ∀ o : Obj, (wr.alloc o).heap[b8]? = some (.cells #[.int .i64 x.own, .int .i64 x.st, .int .i64 x.len, .bool x.ex] 23 (0, 0)) := fun o => blk_alloc hx8 o
            have c0 : ∀ o : Obj, (wr.alloc o).cell? ⟨b8, 0, none⟩ = some (.int .i64 x.own) := fun o => blk_cell (xa o) 0
            have c1 : ∀ o : Obj, (wr.alloc o).cell? ⟨b8, 1, none⟩ = some (.int .i64 x.st) := fun o => blk_cell (xa o) 1
            have c2 : ∀ o : Obj, (wr.alloc o).cell? ⟨b8, 2, none⟩ = some (.int .i64 x.len) := fun o => blk_cell (xa o) 2
            have c3 : ∀ o : Obj, (wr.alloc o).cell? ⟨b8, 3, none⟩ = some (.bool x.ex) := fun o => blk_cell (xa o) 3
            have HC := Lib.hid (fun o : Obj => conflict_any x y (HNE.out x HX.out.2) (HNG.out y (List.mem_of_getElem? hy)) (wr.alloc o))
            have HY := Lib.hid (And.intro hlt (List.mem_of_getElem? hy))
            have HRR := Lib.hid hR.out
            have HKK := Lib.hid hK.out
            have HXH := Lib.hid (And.intro hx8 hh)
            have hmr : m < wr.heap.size := by obtain ⟨f, n, -, ha, -⟩ := hR.out; exact ha.lt
            have HMR := Lib.hid hmr
            simp only [lkV] at HC
            clear hy hlt hk9 hB hrg hR hK hj hx8 hh xa hmr
            go_wp2_with fail
            refine (HC.out _).mono ?_
            rintro e w10 ⟨rfl, hb10⟩
            have hb11 := below_step (below_alloc (Below.refl wr.heap.size wr) _) hb10
            have hK10 := HKK.out.trans (Keeps.of_below hb11 (fun k => k = m)) (fun _ h => .inl h)
            have hR10 := HRR.out.move (hb11.block m HMR.out)
            have hx10 := blk_below HXH.out.1 hb11
            have hh10 := blk_below HXH.out.2 hb11
            have hy10 := blk_below (blk_new wr (.cells #[.int .i64 y.own, .int .i64 y.st, .int .i64 y.len, .bool y.ex] 23)) hb10
            clear c0 c1 c2 c3 q0 q1 q2 q3 hb10 hb11
            cases hcf : confJ x y
            · have H10 := Lib.hid (And.intro hK10 hR10)
              clear hcf hK10 hR10 hx10 hh10 hy10
              go_wp2
              go_roundw
              case rel => exact ⟨j + 1, by have := HY.out; omega, by go_num, Lib.hid (H10.out.2.mono (by omega)), Lib.hid H10.out.1⟩
              case measure => have := HY.out; simp [RowKit.intOf]; omega
            · have hP := HED.out x y HX.out.2 (by rw [HGE.out]; exact HY.out.2) hcf
              obtain ⟨w12, hrun, hR12, hg12⟩ := hR10.put (HWF.out x (List.mem_append_right _ HX.out.2)) (HWF.out y (List.mem_append_left _ HY.out.2)) (by have := HSZ.out; have := HX.out; have := HY.out; omega) hP
              have H12 := Lib.hid (And.intro hR12 (hK10.grown hg12 (fun k hk => .inl (by injection hk with h; exact h.symm))))
              have d0 : w10.cell? ⟨b8, 0, none⟩ = some (.int .i64 x.own) := blk_cell hx10 0
              have d1 : w10.cell? ⟨wr.heap.size, 0, none⟩ = some (.int .i64 y.own) := blk_cell hy10 0
              have d2 : w10.cell? ⟨m + 1, 0, none⟩ = some (.map (some m)) := blk_cell hh10 0
              clear hcf hK10 hR10 hx10 hh10 hy10 hR12 hg12 hP
              go_wp2
              clear hrun d0 d1 d2
              go_roundw
              case rel => exact ⟨j + 1, by have := HY.out; omega, by go_num, Lib.hid H12.out.1, Lib.hid H12.out.2⟩
              case measure => have := HY.out; simp [RowKit.intOf]; omega
          · obtain rfl : j = G.length := by omega
            have H13 := Lib.hid (And.intro (hR.out.mono (N' := 200 * (i + 1)) (by have := HSZ.out; omega)) (HA.out.2.1.trans hK.out (fun _ h => .inl h)))
            clear hlt hR hK
            go_wp2
            go_roundw
            case rel => exact ⟨i + 1, by have := HX.out; omega, by go_num, Lib.hid H13.out.1, Lib.hid H13.out.2⟩
            case measure => have := HX.out; simp [RowKit.intOf]; omega
      · obtain rfl : i = Q.length := by omega
        have H14 := Lib.hid (And.intro (hR.out.mono (N' := 12000) (by have := HSZ.out; omega)) hK.out)
        clear hlt hR hK
        go_wp2
        go_loopw [57] (fun t wr => ∃ i : Nat, i ≤ Q.length ∧ t = .int .i64 i ∧ Hid (RI E m (12000 + 216000 * i) wr) ∧ Hid (Keeps W9 wr (fun k => k = m))) (fun t _ => Q.length - (RowKit.intOf t).toNat)
        case atStart => exact ⟨0, Nat.zero_le _, rfl, Lib.hid H14.out.1, Lib.hid H14.out.2⟩
        case round =>
          obtain ⟨i, hi, rfl, hR, hK⟩ := hrel
          by_cases hlt : i < Q.length
          · have hk0 : (0 : Int) ≤ (i : Int) := by omega
            have hk1 : (i : Int) < (Q.length : Int) := by omega
            have HI := Lib.hid hlt
            have HRK := Lib.hid (And.intro hR.out hK.out)
            clear hlt hR hK hi
            go_wp2
            go_loopw [61] (fun t wr => ∃ j : Nat, j ≤ Q.length ∧ t = .int .i64 j ∧ Hid (RI E m (12000 + 216000 * i + 3600 * j) wr) ∧ Hid (Keeps W9 wr (fun k => k = m))) (fun t _ => Q.length - (RowKit.intOf t).toNat)
            case atStart => exact ⟨0, Nat.zero_le _, rfl, Lib.hid HRK.out.1, Lib.hid HRK.out.2⟩
            case round =>
              obtain ⟨j, hj, rfl, hR, hK⟩ := hrel
              by_cases hlt : j < Q.length
              · have hB := kb (by rw [HM.out]; exact H9.out.1) hK.out (Nat.le_of_eq HM.out)
                obtain ⟨x, hx⟩ : ∃ x, Q[j]? = some x := ⟨_, List.getElem?_eq_getElem hlt⟩
                have hrq := pw_own_below H5.out.2.1 hB
                obtain ⟨g5, rfl⟩ := row_some2 hrq (by omega)
                obtain ⟨p0, p1, p2, p3⟩ := row_lk hrq hx
                have hk0 : (0 : Int) ≤ (j : Int) := by omega
                have hk1 : (j : Int) < (Q.length : Int) := by omega
                have HX := Lib.hid (And.intro hlt (List.mem_of_getElem? hx))
                obtain ⟨Wp, hWp⟩ : ∃ Wp, Wp = wr := ⟨_, rfl⟩
                subst hWp
                have HK := Lib.hid hK.out
                have HR := Lib.hid hR.out
                clear hx hlt hB hrq hR hK hj
                go_wp2
                obtain ⟨b12, hb12⟩ : ∃ b, Wp.heap.size = b := ⟨_, rfl⟩
                have h12 := blk_new Wp (.cells #[.int .i64 x.own, .int .i64 x.st, .int .i64 x.len, .bool x.ex] 23)
                obtain ⟨WB, hWB⟩ : ∃ WB, Wp.alloc (.cells #[.int .i64 x.own, .int .i64 x.st, .int .i64 x.len, .bool x.ex] 23) = WB := ⟨_, rfl⟩
                have hm12 : m < Wp.heap.size := by obtain ⟨f, n, -, ha, -⟩ := HR.out; exact ha.lt
                have hrb := HR.out.move (W' := WB) (by rw [← hWB]; exact Below.heap_alloc _ _ _ hm12)
                have hkb : Keeps W9 WB (fun k => k = m) := by rw [← hWB]; exact HK.out.alloc _
                rw [hWB] at h12 ⊢
                rw [hb12] at h12 hm12 ⊢
                have HB := Lib.hid (And.intro hrb (And.intro hkb (And.intro h12 hm12)))
                clear hrb hkb h12 hm12 p0 p1 p2 p3 hWB hb12
                go_loopw [67] (fun t wr => ∃ k : Nat, k ≤ Q.length ∧ t = .int .i64 k ∧ Hid (RI E m (12000 + 216000 * i + 3600 * j + 60 * k) wr) ∧ Hid (Keeps WB wr (fun k => k = m))) (fun t _ => Q.length - (RowKit.intOf t).toNat)
                case atStart => exact ⟨0, Nat.zero_le _, rfl, Lib.hid HB.out.1, Lib.hid (Keeps.refl _ _)⟩
                case round =>
                  obtain ⟨k, hk, rfl, hR, hK⟩ := hrel
                  by_cases hlt : k < Q.length
                  · have hB := kb (by rw [HM.out]; exact H9.out.1) (HB.out.2.1.trans hK.out (fun _ h => .inl h)) (Nat.le_of_eq HM.out)
                    obtain ⟨y, hx⟩ : ∃ x, Q[k]? = some x := ⟨_, List.getElem?_eq_getElem hlt⟩
                    have hrq := pw_own_below H5.out.2.1 hB
                    obtain ⟨p0, p1, p2, p3⟩ := row_lk hrq hx
                    have hk0 : (0 : Int) ≤ (k : Int) := by omega
                    have hk1 : (k : Int) < (Q.length : Int) := by omega
                    have HY := Lib.hid (And.intro hlt (List.mem_of_getElem? hx))
                    obtain ⟨Wq, hWq⟩ : ∃ Wq, Wq = wr := ⟨_, rfl⟩
                    subst hWq
                    have HK2 := Lib.hid hK.out
                    have HR2 := Lib.hid hR.out
                    clear hx hlt hB hrq hR hK hk
                    go_wp2
                    obtain ⟨b14, hb14⟩ : ∃ b, Wq.heap.size = b := ⟨_, rfl⟩
                    have h14 := blk_new Wq (.cells #[.int .i64 y.own, .int .i64 y.st, .int .i64 y.len, .bool y.ex] 23)
                    obtain ⟨WC, hWC⟩ : ∃ WC, Wq.alloc (.cells #[.int .i64 y.own, .int .i64 y.st, .int .i64 y.len, .bool y.ex] 23) = WC := ⟨_, rfl⟩
                    have hm14 : m < Wq.heap.size := by obtain ⟨f, n, -, ha, -⟩ := HR2.out; exact ha.lt
                    have hrc := HR2.out.move (W' := WC) (by rw [← hWC]; exact Below.heap_alloc _ _ _ hm14)
                    have hkc : Keeps WB WC (fun k => k = m) := by rw [← hWC]; exact HK2.out.alloc _
                    rw [hWC] at h14 ⊢
                    rw [hb14] at h14 hm14 ⊢
                    have HC := Lib.hid (And.intro hrc (And.intro hkc (And.intro h14 hm14)))
                    clear hrc hkc h14 hm14 p0 p1 p2 p3 hWC hb14
                    go_loopw [73] (fun t wr => ∃ l : Nat, l ≤ Q.length ∧ t = .int .i64 l ∧ Hid (RI E m (12000 + 216000 * i + 3600 * j + 60 * k + l) wr) ∧ Hid (Keeps WC wr (fun k => k = m))) (fun t _ => Q.length - (RowKit.intOf t).toNat)
                    case atStart => exact ⟨0, Nat.zero_le _, rfl, Lib.hid HC.out.1, Lib.hid (Keeps.refl _ _)⟩
                    case round =>
                      obtain ⟨l, hl, rfl, hR, hK⟩ := hrel
                      by_cases hlt : l < Q.length
                      · have hkb := HC.out.2.1.trans hK.out (fun _ h => .inl h)
                        have hk9 := HB.out.2.1.trans hkb (fun _ h => .inl h)
                        have hB := kb (by rw [HM.out]; exact H9.out.1) hk9 (Nat.le_of_eq HM.out)
                        obtain ⟨z, hx⟩ : ∃ x, Q[l]? = some x := ⟨_, List.getElem?_eq_getElem hlt⟩
                        have hrq := pw_own_below H5.out.2.1 hB
                        obtain ⟨p0, p1, p2, p3⟩ := row_lk hrq hx
                        have hk0 : (0 : Int) ≤ (l : Int) := by omega
                        have hk1 : (l : Int) < (Q.length : Int) := by omega
                        have hx12 := hkb.blk HB.out.2.2.1 (by have := HB.out.2.2.2; omega)
                        have hx14 := hK.out.blk HC.out.2.2.1 (by have := HC.out.2.2.2; omega)
                        have hh := hk9.blk H9.out.2.1 (by omega)
                        have hmr : m < wr.heap.size := by obtain ⟨f, n, -, ha, -⟩ := hR.out; exact ha.lt
                        have HZ := Lib.hid (And.intro hlt (List.mem_of_getElem? hx))
                        have hR16 := hR.out.move (W' := wr.alloc (.cells #[.int .i64 z.own, .int .i64 z.st, .int .i64 z.len, .bool z.ex] 23)) (Below.heap_alloc _ _ _ hmr)
                        have wx := HWF.out x (List.mem_append_right _ HX.out.2)
                        have wy := HWF.out y (List.mem_append_right _ HY.out.2)
                        have wz := HWF.out z (List.mem_append_right _ HZ.out.2)
                        obtain ⟨r1, hl1, hp1⟩ := hR16.look wx wy
                        obtain ⟨r2, hl2, hp2⟩ := hR16.look wy wz
                        have HKW := Lib.hid (hK.out.alloc (.cells #[.int .i64 z.own, .int .i64 z.st, .int .i64 z.len, .bool z.ex] 23))
                        have c0 : ∀ o : Obj, (wr.alloc o).cell? ⟨b12, 0, none⟩ = some (.int .i64 x.own) := fun o => blk_cell (blk_alloc hx12 o) 0
                        have c1 : ∀ o : Obj, (wr.alloc o).cell? ⟨b14, 0, none⟩ = some (.int .i64 y.own) := fun o => blk_cell (blk_alloc hx14 o) 0
                        have c2 : ∀ o : Obj, (wr.alloc o).cell? ⟨m + 1, 0, none⟩ = some (.map (some m)) := fun o => blk_cell (blk_alloc hh o) 0
                        clear hx hlt hkb hk9 hB hrq hR hK hl hx12 hx14 hh hmr
                        by_cases hrr : r1 = true ∧ r2 = true
                        · obtain ⟨rfl, rfl⟩ := hrr
                          obtain ⟨w12, hrun, hR12, hg12⟩ := hR16.put wx wz (by have := HSZ.out; have := HX.out; have := HY.out; have := HZ.out; have := HI.out; omega) (.cat (hp1 rfl) (hp2 rfl))
                          have H12 := Lib.hid (And.intro hR12 (HKW.out.grown hg12 (fun k hk => .inl (by injection hk with h; exact h.symm))))
                          clear hR12 hg12 hR16 wx wy wz hp1 hp2
                          go_wp2
                          clear hrun hl1 hl2 c0 c1 c2 p0 p1 p2 p3
                          go_roundw
                          case rel => exact ⟨l + 1, by have := HZ.out; omega, by go_num, Lib.hid H12.out.1, Lib.hid H12.out.2⟩
                          case measure => have := HZ.out; simp [RowKit.intOf]; omega
                        · have H16 := Lib.hid (And.intro hR16 HKW.out)
                          clear hR16 wx wy wz hp1 hp2
                          cases r1
                          · clear hl2 hrr
                            go_wp2
                            clear hl1 c0 c1 c2 p0 p1 p2 p3
                            go_roundw
                            case rel => exact ⟨l + 1, by have := HZ.out; omega, by go_num, Lib.hid (H16.out.1.mono (by omega)), Lib.hid H16.out.2⟩
                            case measure => have := HZ.out; simp [RowKit.intOf]; omega
                          · cases r2
                            · clear hrr
                              go_wp2
                              clear hl1 hl2 c0 c1 c2 p0 p1 p2 p3
                              go_roundw
                              case rel => exact ⟨l + 1, by have := HZ.out; omega, by go_num, Lib.hid (H16.out.1.mono (by omega)), Lib.hid H16.out.2⟩
                              case measure => have := HZ.out; simp [RowKit.intOf]; omega
                            · exact absurd ⟨rfl, rfl⟩ hrr
                      · obtain rfl : l = Q.length := by omega
                        have H17 := Lib.hid (And.intro (hR.out.mono (N' := 12000 + 216000 * i + 3600 * j + 60 * (k + 1)) (by have := HSZ.out; omega)) (HC.out.2.1.trans hK.out (fun _ h => .inl h)))
                        clear hlt hR hK
                        go_wp2
                        go_roundw
                        case rel => exact ⟨k + 1, by have := HY.out; omega, by go_num, Lib.hid H17.out.1, Lib.hid H17.out.2⟩
                        case measure => have := HY.out; simp [RowKit.intOf]; omega
                  · obtain rfl : k = Q.length := by omega
                    have H18 := Lib.hid (And.intro (hR.out.mono (N' := 12000 + 216000 * i + 3600 * (j + 1)) (by have := HSZ.out; omega)) (HB.out.2.1.trans hK.out (fun _ h => .inl h)))
                    clear hlt hR hK
                    go_wp2
                    go_roundw
                    case rel => exact ⟨j + 1, by have := HX.out; omega, by go_num, Lib.hid H18.out.1, Lib.hid H18.out.2⟩
                    case measure => have := HX.out; simp [RowKit.intOf]; omega
              · obtain rfl : j = Q.length := by omega
                have HF := Lib.hid (And.intro (hR.out.mono (N' := 12000 + 216000 * (i + 1)) (by have := HSZ.out; omega)) hK.out)
                clear hlt hR hK
                by_cases h20 : 20 < Q.length
                · have hd20 : decide ((20 : Int) < (Q.length : Int)) = true := decide_eq_true (by omega)
                  clear h20
                  have hB := kb (by rw [HM.out]; exact H9.out.1) HF.out.2 (Nat.le_of_eq HM.out)
                  have HC := Lib.hid (cont_any (fun _ => false) 20 #[.pointer (some ⟨m + 1, 0, none⟩)] (fun _ _ => by kernel_rfl) 0 (.slice a5 Q.length c5) Q (by have := HSZ.out; omega) wr (pw_own_below H5.out.2.1 hB) (fun y hy W hb => self_any E HNY.out (m + 1) m _ y (HWF.out y (List.mem_append_right _ hy)) W (blk_cell (blk_below (HF.out.2.blk H9.out.2.1 (by omega)) hb) 0) (HF.out.1.move (hb.block m (by obtain ⟨f, n, -, ha, -⟩ := HF.out.1; exact ha.lt))) (by obtain ⟨f, n, -, ha, -⟩ := HF.out.1; exact Nat.lt_of_lt_of_le ha.lt hb.size)))
                  rw [show Q.any (fun _ => false) = false by simp] at HC
                  have HB := Lib.hid (below_back H5.out.2.2 hB)
                  clear hB
                  go_wp2_with fail
                  refine HC.out.mono ?_
                  rintro e w20 ⟨rfl, hb20⟩
                  have H20 := Lib.hid (below_back HB.out hb20)
                  clear hb20
                  go_wp2
                  go_ret
                  exact ⟨rfl, H20.out⟩
                · have hd20 : decide ((20 : Int) < (Q.length : Int)) = false := decide_eq_false (by omega)
                  clear h20
                  go_wp2
                  go_roundw
                  case rel => exact ⟨i + 1, by have := HI.out; omega, by go_num, Lib.hid HF.out.1, Lib.hid HF.out.2⟩
                  case measure => have := HI.out; simp [RowKit.intOf]; omega
          · obtain rfl : i = Q.length := by omega
            have HF := Lib.hid (And.intro hR.out hK.out)
            clear hlt hR hK
            have hB := kb (by rw [HM.out]; exact H9.out.1) HF.out.2 (Nat.le_of_eq HM.out)
            have HC := Lib.hid (cont_any (fun _ => false) 20 #[.pointer (some ⟨m + 1, 0, none⟩)] (fun _ _ => by kernel_rfl) 0 (.slice a5 Q.length c5) Q (by have := HSZ.out; omega) wr (pw_own_below H5.out.2.1 hB) (fun y hy W hb => self_any E HNY.out (m + 1) m _ y (HWF.out y (List.mem_append_right _ hy)) W (blk_cell (blk_below (HF.out.2.blk H9.out.2.1 (by omega)) hb) 0) (HF.out.1.move (hb.block m (by obtain ⟨f, n, -, ha, -⟩ := HF.out.1; exact ha.lt))) (by obtain ⟨f, n, -, ha, -⟩ := HF.out.1; exact Nat.lt_of_lt_of_le ha.lt hb.size)))
            rw [show Q.any (fun _ => false) = false by simp] at HC
            have HB := Lib.hid (below_back H5.out.2.2 hB)
            clear hB
            go_wp2_with fail
            refine HC.out.mono ?_
            rintro e w20 ⟨rfl, hb20⟩
            have H20 := Lib.hid (below_back HB.out hb20)
            clear hb20
            go_wp2
            go_ret
            exact ⟨rfl, H20.out⟩
end
end Go.Proofs.Ytoolflmaaooplaa
