/- Ranges: the laws. -/
import Derived.Test.YtoolflmaaooplaaMO
namespace Go.Proofs.Ytoolflmaaooplaa
section
set_option linter.unusedVariables false
set_option linter.unusedSimpArgs false
open Go.RowKit Go.Maps Go.Sort Go.Lib Go.Shelf Go.Proofs.YtoolflmaaooplaaW.PrintWords Go.Proofs.YtoolflmaaooplaaW.PrintLast Go.Proofs.YtoolflmaaooplaaW.PrintMore FLib

theorem delF_sub : ∀ (Q : List Lk) (T : Tb) (out : List Int), (delF T out Q).2.Sublist Q
  | [], _, _ => List.Sublist.refl _
  | x :: Q, T, out => by
    unfold delF
    split
    · exact (delF_sub Q _ _).cons _
    · exact (delF_sub Q _ _).cons_cons _
theorem delF_pred {P : Tb → Prop} : ∀ (Q : List Lk) (T : Tb) (out : List Int), (∀ T x, x ∈ Q → grB T x = true → P T → P (grT T x)) → P T → P (delF T out Q).1.1
  | [], _, _, _, h => h
  | x :: Q, T, out, hs, h => by
    unfold delF
    split
    · rename_i hg
      exact delF_pred Q _ _ (fun T y hy => hs T y (List.mem_cons_of_mem _ hy)) (hs T x (List.mem_cons_self ..) hg h)
    · exact delF_pred Q _ _ (fun T y hy => hs T y (List.mem_cons_of_mem _ hy)) h
theorem scanF_sub : ∀ (n : Nat) (T : Tb) (out : List Int) (Q : List Lk), (scanF n T out Q).2.Sublist Q
  | 0, _, _, _ => List.Sublist.refl _
  | n + 1, T, out, Q => by
    unfold scanF
    split
    · exact (scanF_sub n _ _ _).trans (delF_sub Q T out)
    · exact delF_sub Q T out
theorem scanF_pred {P : Tb → Prop} : ∀ (n : Nat) (T : Tb) (out : List Int) (Q : List Lk), (∀ T x, x ∈ Q → grB T x = true → P T → P (grT T x)) → P T → P (scanF n T out Q).1.1
  | 0, _, _, _, _, h => h
  | n + 1, T, out, Q, hs, h => by
    unfold scanF
    split
    · exact scanF_pred n _ _ _ (fun T y hy => hs T y ((delF_sub Q _ _).subset hy)) (delF_pred Q T out hs h)
    · exact delF_pred Q T out hs h
/-- The owners of a table. -/
def OwnIn (T : Tb) (Q : List Lk) (S : Int → Prop) : Prop := (∀ z ∈ T, S z.1) ∧ ∀ y ∈ Q, S y.own
theorem mem_canc {Q : List Lk} (hn : (Q.map (·.own)).Nodup) {o : Int} {y : Lk} (h : y ∈ cancQ Q o) : y ∈ Q ∧ y.own ≠ o := by
  unfold cancQ at h
  split at h
  · rename_i hf
    refine ⟨List.mem_of_mem_eraseIdx h, fun e => ?_⟩
    obtain ⟨i, hi⟩ := List.mem_iff_getElem?.1 h
    have h1 := List.findIdx_getElem (p := fun l : Lk => l.own == o) (xs := Q) (w := hf)
    have hk : Q[fdI Q o]? = some Q[fdI Q o] := List.getElem?_eq_getElem hf
    have hko : (Q[fdI Q o]).own = o := by
      have h2 : (Q[fdI Q o].own == o) = true := h1
      simpa using h2
    rw [List.getElem?_eraseIdx] at hi
    have key : ∀ j, j ≠ fdI Q o → Q[j]? = some y → False := fun j hj hy => by
      have hj2 := (List.getElem?_eq_some_iff.1 hy).1
      have e1 : (Q.map (·.own))[j]? = some o := by rw [List.getElem?_map, hy]; exact congrArg some e
      have e2 : (Q.map (·.own))[fdI Q o]? = some o := by rw [List.getElem?_map, hk]; exact congrArg some hko
      exact hj ((List.getElem?_inj (by simpa using hj2) hn).1 (e1.trans e2.symm))
    split at hi
    · exact key i (by omega) hi
    · exact key (i + 1) (by omega) hi
  · rename_i hf
    exact ⟨h, fun e => fd_mem hf (List.mem_map.2 ⟨y, h, e⟩)⟩
theorem drop_own {T : Tb} {Q : List Lk} {S : Int → Prop} (h : OwnIn T Q S) (hn : (Q.map (·.own)).Nodup) (o : Int) : OwnIn (dropF T Q o).1.1 (dropF T Q o).2 (fun k => S k ∧ k ≠ o) := by
  have hq : ∀ y ∈ cancQ Q o, S y.own ∧ y.own ≠ o := fun y hy => ⟨h.2 y (mem_canc hn hy).1, (mem_canc hn hy).2⟩
  unfold dropF
  refine ⟨scanF_pred (P := fun T => ∀ z ∈ T, S z.1 ∧ z.1 ≠ o) _ _ _ _ (fun T x hx _ hT z hz => ?_) (fun z hz => ⟨h.1 z (mem_tDel.1 hz).1, (mem_tDel.1 hz).2⟩), fun y hy => hq y ((scanF_sub _ _ _ _).subset hy)⟩
  rcases mem_tPut hz with ⟨rfl, -⟩ | ⟨hz, -⟩
  · exact hq x hx
  · exact hT z hz
/-- The owners that are still to be dropped. -/
theorem own_start {T : Tb} {Q : List Lk} (hT : TOk T) : OwnIn T Q (fun o => ∃ y ∈ tGran T ++ Q, y.own = o) := by
  refine ⟨fun z hz => ?_, fun y hy => ⟨y, List.mem_append_right _ hy, rfl⟩⟩
  obtain ⟨s, l, hs⟩ : ∃ s l, z.2 = s :: l := by
    have := hT.ne z hz
    cases hc : z.2 with
    | nil => rw [hc] at this; simp at this
    | cons s l => exact ⟨s, l, rfl⟩
  exact ⟨lockI s z.1, List.mem_append_left _ (mem_gran.2 ⟨z, hz, s, by rw [hs]; exact List.mem_cons_self .., rfl⟩), rfl⟩
theorem own_step {T : Tb} {Q M : List Lk} {k : Nat} {x : Lk} (h : OwnIn T Q (fun o => ∃ y ∈ M.drop k, y.own = o)) (hn : (Q.map (·.own)).Nodup) (hx : M[k]? = some x) :
    OwnIn (dropF T Q x.own).1.1 (dropF T Q x.own).2 (fun o => ∃ y ∈ M.drop (k + 1), y.own = o) := by
  have hd := drop_own h hn x.own
  have : ∀ o, ((∃ y ∈ M.drop k, y.own = o) ∧ o ≠ x.own) → ∃ y ∈ M.drop (k + 1), y.own = o := by
    rintro o ⟨⟨y, hy, rfl⟩, hne⟩
    obtain ⟨hlt, hk⟩ := List.getElem?_eq_some_iff.1 hx
    rw [List.drop_eq_getElem_cons hlt, hk] at hy
    rcases List.mem_cons.1 hy with rfl | hy
    · exact absurd rfl hne
    · exact ⟨y, hy, rfl⟩
  exact ⟨fun z hz => this _ (hd.1 z hz), fun y hy => this _ (hd.2 y hy)⟩
theorem own_end {T : Tb} {Q M : List Lk} (h : OwnIn T Q (fun o => ∃ y ∈ M.drop M.length, y.own = o)) : T = [] ∧ Q = [] := by
  rw [List.drop_length] at h
  constructor
  · cases T with
    | nil => rfl
    | cons z T => obtain ⟨y, hy, -⟩ := h.1 z (List.mem_cons_self ..); cases hy
  · cases Q with
    | nil => rfl
    | cons y Q => obtain ⟨y, hy, -⟩ := h.2 y (List.mem_cons_self ..); cases hy

/-- A range that lies off every span still does when spans that touch are joined. -/
theorem join_off {S : Sp} (hS : S.lo < S.hi) {l : List Sp} (hl : ∀ s ∈ l, s.lo < s.hi) (h : Off S l) : Off S (joinP l) := by
  have key : ∀ (l out : List Sp), (∀ s ∈ l, s.lo < s.hi) → (∀ s ∈ out, s.lo < s.hi) → Off S l → Off S out → Off S (l.foldl joinS out) := by
    intro l
    induction l with
    | nil => intro out _ _ _ ho; exact ho
    | cons s l ih =>
      intro out hl ho h1 h2
      have hs1 := hl s (List.mem_cons_self ..)
      have hs2 := h1 s (List.mem_cons_self ..)
      have hcat : Off S (out ++ [s]) ∧ ∀ t ∈ out ++ [s], t.lo < t.hi := ⟨fun t ht => by
        rcases List.mem_append.1 ht with ht | ht
        · exact h2 t ht
        · rw [List.mem_singleton.1 ht]; exact hs2, fun t ht => by
        rcases List.mem_append.1 ht with ht | ht
        · exact ho t ht
        · rw [List.mem_singleton.1 ht]; exact hs1⟩
      have hstep : Off S (joinS out s) ∧ ∀ t ∈ joinS out s, t.lo < t.hi := by
        rcases List.eq_nil_or_concat out with rfl | ⟨A, z, rfl⟩
        · exact hcat
        · rw [List.concat_eq_append] at *
          rw [joinS_some]
          split
          · rename_i hc
            have he : z.hi = s.lo := by
              simp only [Bool.and_eq_true, beq_iff_eq] at hc; exact hc.1
            have z1 := ho z (by simp)
            have z2 := h2 z (by simp)
            refine ⟨fun t ht => ?_, fun t ht => ?_⟩
            · rcases List.mem_append.1 ht with ht | ht
              · exact h2 t (List.mem_append_left _ ht)
              · rw [List.mem_singleton.1 ht]; dsimp only; omega
            · rcases List.mem_append.1 ht with ht | ht
              · exact ho t (List.mem_append_left _ ht)
              · rw [List.mem_singleton.1 ht]; dsimp only; omega
          · exact hcat
      exact ih _ (fun t ht => hl t (List.mem_cons_of_mem _ ht)) hstep.2 (fun t ht => h1 t (List.mem_cons_of_mem _ ht)) hstep.1
  exact key l [] hl (by simp) h (fun t ht => by cases ht)
theorem rsp_off {l : List Sp} (h : SpOk l) {S : Sp} (hS : S.lo < S.hi) : Off S (rSp l S.lo S.hi) := by
  unfold rSp
  exact join_off hS (fun s hs => (((cut_ok h (by omega)).each s hs).2.1)) cut_off
/-- Behind Release none of the owner's spans meets the range. -/
theorem rel_off {B : Nat} {T : Tb} {Q : List Lk} (h : GI B T Q) (hB : B ≤ 180) {x : Lk} (hw : (Lit.int .i64 x.own).wf = true) (hx : okL x.own x.st x.len = true) (hq : ∀ y ∈ Q, y.own ≠ x.own) :
    (relF T Q x.own x.st x.len).1.2 = 0 ∧ (tGran (relF T Q x.own x.st x.len).2.1).any (hitJ x) = false := by
  have ha := h.inv.at x.own
  have hle := endI_le hx
  have h1 := rSp_len ha.1 hle
  have h2 := tAll_del h.inv.ok.sort x.own
  have h3 := h.size
  have hrn : relN T x.own x.st x.len ≤ tAll T + 1 := by unfold relN; omega
  have hinv := (h.rel hB x.own x.st x.len hw).2.inv
  unfold relF at hinv ⊢
  rw [if_neg (by rw [hx]; simp), if_neg (by omega)] at hinv ⊢
  refine ⟨rfl, ?_⟩
  have hsp := okL_span hx
  have hP : ∀ z ∈ (scanF (Q.length + 1) (relT T x.own x.st x.len) [] Q).1.1, z.1 = x.own → Off (spanI x) z.2 := by
    refine scanF_pred (P := fun T => ∀ z ∈ T, z.1 = x.own → Off (spanI x) z.2) _ _ _ _ (fun T y hy _ hT z hz he => ?_) (fun z hz he => ?_)
    · rcases mem_tPut hz with ⟨rfl, -⟩ | ⟨hz, -⟩
      · exact absurd he (hq y hy)
      · exact hT z hz he
    · rcases mem_tPut hz with ⟨rfl, -⟩ | ⟨-, hne⟩
      · exact rsp_off ha.1 (S := spanI x) hsp.2.1
      · exact absurd he hne
  rw [List.any_eq_false]
  intro y hy
  obtain ⟨z, hz, s, hs, rfl⟩ := mem_gran.1 hy
  unfold hitJ
  by_cases he : z.1 = x.own
  · have ho := hP z hz he s hs
    have hf := hinv.spfit hz hs
    have hfx := fit_span hx
    rw [endj_lock hf, endj_ok hx]
    have e1 : decide ((lockI s z.1).st < hh (endI x.st x.len)) = decide (s.lo < (spanI x).hi) := by rw [decide_eq_decide]; exact hh_lt hf.1.1 hfx.2
    have e2 : decide (x.st < hh s.hi) = decide ((spanI x).lo < s.hi) := by rw [decide_eq_decide]; exact hh_lt hfx.1 hf.1.2
    rw [e1, e2]
    simp only [Bool.and_eq_true, decide_eq_true_eq, not_and]
    intro _ _
    omega
  · have : ((lockI s z.1).own == x.own) = false := by
      show (z.1 == x.own) = false
      simpa using he
    rw [this]; simp
end
section
set_option linter.unusedVariables false
set_option linter.unusedSimpArgs false
open Go.RowKit Go.Maps Go.Sort Go.Lib Go.Shelf Go.Proofs.YtoolflmaaooplaaW.PrintWords Go.Proofs.YtoolflmaaooplaaW.PrintLast Go.Proofs.YtoolflmaaooplaaW.PrintMore FLib
attribute [local go_sem] below_alloc_T below_drew_T below_drewN_T

/-- The program's table, and a block g that is none of its own. -/
structure PM (W0 W : World) (p mb g : Nat) (T : Tb) (Q : List Lk) : Prop where
  tg : ∃ qv G, TG W p mb qv G Q ∧ plainG G = T ∧ ∀ k, qv.ownBlock = some k → W0.heap.size ≤ k ∧ k ≠ g
  lo : W0.heap.size ≤ p ∧ W0.heap.size ≤ mb
  ne : p ≠ g ∧ mb ≠ g
theorem PT.toM {W0 W : World} {p mb B g : Nat} {T : Tb} {Q : List Lk} (h : PT W0 W p mb B T Q) (hg : B ≤ g) : PM W0 W p mb g T Q := by
  obtain ⟨qv, G, hT, hG, hq⟩ := h.tg
  exact ⟨⟨qv, G, hT, hG, fun k hk => ⟨(hq k hk).1, by have := (hq k hk).2; omega⟩⟩, h.lo, by have := h.up; omega, by have := h.up; omega⟩
theorem PM.toT {W0 W : World} {p mb g : Nat} {T : Tb} {Q : List Lk} (h : PM W0 W p mb g T Q) : PT W0 W p mb W.heap.size T Q := by
  obtain ⟨qv, G, hT, hG, hq⟩ := h.tg
  exact ⟨⟨qv, G, hT, hG, fun k hk => ⟨(hq k hk).1, hT.own_lt (.inr (.inr (.inl hk)))⟩⟩, h.lo, hT.own_lt (.inl rfl), hT.own_lt (.inr (.inl rfl))⟩
theorem PM.below {W0 W W' : World} {p mb g : Nat} {T : Tb} {Q : List Lk} (h : PM W0 W p mb g T Q) (hb : Below W.heap.size W W') : PM W0 W' p mb g T Q := by
  obtain ⟨qv, G, hT, hG, hq⟩ := h.tg
  exact ⟨⟨qv, G, hT.below hb, hG, hq⟩, h.lo, h.ne⟩
theorem drop_m {W0 W : World} {p mb g Bd : Nat} {T : Tb} {Q : List Lk} (hI : GI Bd T Q) (hB : Bd ≤ 180) (o : Int) (hw : (Lit.int .i64 o).wf = true) (hg : g < W.heap.size) (h : PM W0 W p mb g T Q) :
    Calls Try.prog 13 #[.pointer (some ⟨p, 0, none⟩), .int .i64 o] W fun e w' => ∃ u, e = .returned u ∧ PM W0 w' p mb g (dropF T Q o).1.1 (dropF T Q o).2 ∧ Keeps W w' (fun k => W0.heap.size ≤ k ∧ k ≠ g) := by
  obtain ⟨qv, G, hT, hG, hq⟩ := h.tg
  have hsz := hI.size
  refine (drop_any p mb qv G T Q hI.inv.ok (by omega) hI.qok hG o hw W hT).mono fun e w' ⟨u, qv', G', he, hT', hG', hr, hq', hk⟩ => ⟨u, he, ⟨⟨qv', G', hT', hG', fun k hk' => ?_⟩, h.lo, h.ne⟩, hk.mono fun k hf => ?_⟩
  · rcases qvok_own hq' with e | e
    · rw [e] at hk'; cases hk'
    · exact hq k (e ▸ hk')
  · rcases hf with rfl | rfl | hf
    · exact ⟨h.lo.1, h.ne.1⟩
    · exact ⟨h.lo.2, h.ne.2⟩
    · exact hq k hf
/-- Set without waiting: refused with a reason, or granted. -/
theorem set_cases {B : Nat} {T : Tb} {Q : List Lk} (h : GI B T Q) (x : Lk) :
    (∃ n : Int, (n == 0) = false ∧ (setF T Q x false).1.1 = false ∧ (setF T Q x false).1.2.2 = n) ∨
    ((setF T Q x false).1.1 = true ∧ (setF T Q x false).1.2.2 = 0 ∧ okL x.own x.st x.len = true ∧ ∀ y ∈ (setF T Q x false).2.2, y.own ≠ x.own) := by
  unfold setF
  split
  · exact .inl ⟨34, rfl, rfl, rfl⟩
  · rename_i h1
    split
    · exact .inl ⟨5, rfl, rfl, rfl⟩
    · rename_i h2
      split
      · split
        · refine .inr ⟨rfl, rfl, by simpa using h1, fun y hy e => ?_⟩
          exact fd_mem h2 (List.mem_map.2 ⟨y, (scanF_sub _ _ _ _).subset hy, e⟩)
        · exact .inl ⟨18, rfl, rfl, rfl⟩
      · exact .inl ⟨2, rfl, rfl, rfl⟩
theorem gran_nil {T : Tb} {Q : List Lk} (h : T = [] ∧ Q = []) : (tGran T).length = 0 ∧ Q.length = 0 := by rw [h.1, h.2]; exact ⟨rfl, rfl⟩
theorem wf_all {B : Nat} {T : Tb} {Q : List Lk} (h : GI B T Q) : ∀ y ∈ tGran T ++ Q, (Lit.int .i64 y.own).wf = true := by
  intro y hy
  rcases List.mem_append.1 hy with hy | hy
  · obtain ⟨z, hz, s, hs, rfl⟩ := mem_gran.1 hy
    exact h.inv.ok.wf z hz
  · exact (h.qok y hy).2
theorem gran_len (T : Tb) : (tGran T).length = tAll T := by
  unfold tGran tAll
  induction T with
  | nil => rfl
  | cons z T ih => rw [List.flatMap_cons, List.length_append, List.length_map, ih, List.map_cons, List.sum_cons]
end
section
set_option linter.unusedVariables false
set_option linter.unusedSimpArgs false
open Go.RowKit Go.Maps Go.Sort Go.Lib Go.Shelf Go.Proofs.YtoolflmaaooplaaW.PrintWords Go.Proofs.YtoolflmaaooplaaW.PrintLast Go.Proofs.YtoolflmaaooplaaW.PrintMore FLib
attribute [local go_sem] below_alloc_T below_drew_T below_drewN_T

theorem own_eq {g n c i : Nat} (h : (Value.slice (some ⟨g, 0, none⟩) n c).ownBlock = some i) : i = g := by
  have e : g = i := by simpa [Value.ownBlock] using h
  exact e.symm
set_option maxRecDepth 100000 in
set_option maxHeartbeats 2000000 in
theorem drops_law (a : Option Addr) (len cap : Nat) (L : List (Int × Lk)) (x : Lk) (hw : (Lit.int .i64 x.own).wf = true) (w : World) (h : Opens2.ActRow w a len L) :
    Calls Try.prog 6 #[.slice a len cap, lkV x] w fun e w' => e = .returned (.bool true) ∧ Below w.heap.size w w' := by
  have HAW := Lib.hid awake_any
  have HH := Lib.hid h
  have HWF := Lib.hid hw
  clear h hw
  obtain ⟨x0, x1, x2, x3⟩ := x
  simp only [lkV]
  by_cases hlen : 60 < len
  · have hd : decide ((60 : Int) < (len : Int)) = true := decide_eq_true (by omega)
    clear hlen
    go_enter Try.func6, Try.ntmps6
    go_wp2_with fail
    refine (HAW.out _).mono ?_
    rintro e w1 ⟨rfl, hb1⟩
    have H1 := Lib.hid (below_back (below_alloc (Below.refl w.heap.size w) _) hb1)
    clear hb1
    go_wp2
    go_ret
    exact ⟨rfl, H1.out⟩
  · have hd : decide ((60 : Int) < (len : Int)) = false := decide_eq_false (by omega)
    have HL := Lib.hid hlen
    clear hlen
    go_enter Try.func6, Try.ntmps6
    go_wp2_with fail
    refine (HAW.out _).mono ?_
    rintro e w1 ⟨rfl, hb1⟩
    have hx1 : w1.heap[w.heap.size]? = some (.cells #[.int .i64 x0, .int .i64 x1, .int .i64 x2, .bool x3] 23 (0, 0)) := blk_below (blk_new _ _) hb1
    have hbw1 := below_back (below_alloc (Below.refl w.heap.size w) _) hb1
    have HP := Lib.hid (played_any a len cap L (by have := HL.out; omega) w1 (act_below HH.out hbw1))
    have HX1 := Lib.hid hx1
    have HBW := Lib.hid hbw1
    clear hb1 hx1 hbw1
    go_wp2_with fail
    refine HP.out.mono ?_
    rintro e w2 ⟨p, mb, rfl, hP2, hb2⟩
    obtain ⟨Bd, hBd⟩ : ∃ Bd, 2 * len + 4 = Bd := ⟨_, rfl⟩
    have hgi := play_all HH.out (by have := HL.out; omega)
    generalize plT L = T at hgi hP2
    generalize plQ L = Q at hgi hP2
    have HBd := Lib.hid (show Bd ≤ 124 by have := HL.out; omega)
    have HS1 := Lib.hid (hgi.set (by have := HL.out; omega) ⟨x0, x1, x2, false⟩ false HWF.out).2
    have HSC := Lib.hid (set_cases hgi ⟨x0, x1, x2, false⟩)
    have HST := Lib.hid (set_c (W0 := w1) hgi (by have := HL.out; omega) ⟨x0, x1, x2, false⟩ false HWF.out hb2.size hP2)
    have hx2 := blk_below HX1.out hb2
    have c0 := blk_cell hx2 0
    have c1 := blk_cell hx2 1
    have c2 := blk_cell hx2 2
    have HB2 := Lib.hid hb2
    obtain ⟨F, hF⟩ : ∃ F, setF T Q ⟨x0, x1, x2, false⟩ false = F := ⟨_, rfl⟩
    rw [hF] at HS1 HSC HST
    simp only [lkV, setV] at HST
    clear hgi hP2 hb2 hF hx2
    rcases HSC.out with ⟨n, hn, hs1, hs2⟩ | ⟨hs1, hs2, hok, hno⟩
    · rw [hs1, hs2] at HST
      clear hs1 hs2
      go_wp2_with fail
      refine HST.out.mono ?_
      rintro e w3 ⟨u3, rfl, hr3, hP3, hm3⟩
      have HS := Lib.hid (And.intro (HS1.out.mono (B' := Bd) (by omega)) (And.intro hP3 (hm3.base HB2.out)))
      clear hr3 hP3 hm3 c0 c1 c2
      go_wp2
      go_loopw [11] (fun t wr => ∃ j : Nat, j ≤ 1 ∧ t = .int .i64 j ∧ Hid (∃ T' Q', GI Bd T' Q' ∧ PT w1 wr p mb wr.heap.size T' Q' ∧ (j = 0 ∨ (T' = [] ∧ Q' = []))) ∧ Hid (Below w1.heap.size w1 wr)) (fun t _ => 2 - (RowKit.intOf t).toNat)
      case atStart => exact ⟨0, by omega, rfl, Lib.hid ⟨_, _, HS.out.1, HS.out.2.1, .inl rfl⟩, Lib.hid HS.out.2.2⟩
      case round =>
        obtain ⟨j, hj, rfl, hSt, hB⟩ := hrel
        obtain ⟨T', Q', hI, hP, hj0⟩ := hSt.out
        have HI := Lib.hid hI
        have HJ := Lib.hid hj0
        have hgl := gran_len T'
        have hsz := hI.size
        have hBd := HBd.out
        obtain ⟨ng, hng⟩ : ∃ n, (tGran T').length = n := ⟨_, rfl⟩
        obtain ⟨nq, hnq⟩ : ∃ n, Q'.length = n := ⟨_, rfl⟩
        have hs1 : (ng : Int) + (nq : Int) ≤ 1000 := by omega
        have hs2 : (0 : Int) ≤ (ng : Int) + (nq : Int) := by omega
        have a1 : (-9223372036854775808 : Int) ≤ (ng : Int) + (nq : Int) := by omega
        have a2 : (ng : Int) + (nq : Int) ≤ 9223372036854775807 := by omega
        have HN := Lib.hid (And.intro hng hnq)
        clear hI hSt hj0 hgl hsz hBd
        go_wp2_with fail
        refine (granted_c HI.out hP).mono ?_
        rintro e w4 ⟨u4, rfl, hr4, hb4⟩
        obtain ⟨ad4, c4, rfl⟩ := row_any hr4
        have H4 := Lib.hid (And.intro ((hP.below hb4).up' hb4.size) (below_back hB.out hb4))
        rw [HN.out.1] at hr4 ⊢
        clear hr4 hb4 hP
        go_wp2_with fail
        refine (waiting_c HI.out (by have := HBd.out; omega) H4.out.1).mono ?_
        rintro e w5 ⟨u5, rfl, hr5, hb5⟩
        obtain ⟨ad5, c5, rfl⟩ := row_any hr5
        have H5 := Lib.hid (And.intro ((H4.out.1.below hb5).up' hb5.size) (below_back H4.out.2 hb5))
        rw [HN.out.2] at hr5 ⊢
        clear hr5 hb5
        by_cases hpos : 0 < ng + nq
        · have d1 : decide ((0 : Int) < (ng : Int) + (nq : Int)) = true := decide_eq_true (by omega)
          obtain rfl : j = 0 := by
            rcases HJ.out with h | h
            · exact h
            · have h0 := gran_nil h
              have h1 := HN.out.1
              have h2 := HN.out.2
              omega
          go_wp2_with fail
          refine (granted_c HI.out H5.out.1).mono ?_
          rintro e w6 ⟨u6, rfl, hr6, hb6⟩
          have H6 := Lib.hid (And.intro hr6 (And.intro (H5.out.1.below hb6) (And.intro (below_back H5.out.2 hb6) hb6)))
          clear hr6 hb6
          go_wp2_with fail
          refine (waiting_c HI.out (by have := HBd.out; omega) H6.out.2.1).mono ?_
          rintro e w7 ⟨u7, rfl, hr7, hb7⟩
          have hB57 := below_back H6.out.2.2.2 hb7
          have hr6' := pw_own_below H6.out.1 hb7
          obtain ⟨v8, w8, hrun, hown8, hg8, hat8⟩ := app4_run 23 37 37 Try.underlying37 info23 w5.heap.size w7 u6 (tGran T').length (lflat (tGran T')) hr6' u7 Q'.length (lflat Q') (src_row hr7 (lflat_one' Q')) (by have h1 := HN.out.1; have h2 := HN.out.2; omega) hB57.size
          have hB58 := hB57.grown hg8 hB57.size (fun i hi => (hr6'.lt i hi).1)
          rw [← lflat_append, ← List.length_append] at hown8
          obtain ⟨M, hM⟩ : ∃ M, tGran T' ++ Q' = M := ⟨_, rfl⟩
          have hwfM := wf_all HI.out
          have hown := own_start (Q := Q') HI.out.inv.ok
          rw [hM] at hown8 hwfM hown
          have hlM : M.length = ng + nq := by rw [← hM, List.length_append, HN.out.1, HN.out.2]
          obtain ⟨g, cM, rfl⟩ : ∃ g c, v8 = .slice (some ⟨g, 0, none⟩) M.length c := by
            rcases row_form hown8 with ⟨-, hz⟩ | h
            · omega
            · exact h
          have hg5 : w5.heap.size ≤ g := (hown8.lt g rfl).1
          have H8 := Lib.hid (And.intro hown8 (And.intro ((H5.out.1.below hB58).toM hg5) (And.intro (below_back H5.out.2 hB58) hown)))
          have HM := Lib.hid (And.intro hwfM hlM)
          have hlM2 : (M.length : Int) ≤ 1000 := by omega
          clear hr6' hr7 hb7 hB57 hown8 hg8 hat8 hB58 hwfM hown hM hg5 a1 a2 hs1 hs2 d1
          go_wp2_with (at_builtin; refine wpList_run rfl (.tmp 76) (.tmp 78) 37 rfl _ _ rfl rfl hrun ?_)
          clear hrun
          go_loopw [81] (fun t wr2 => ∃ k : Nat, k ≤ M.length ∧ t = .int .i64 k ∧ Hid (∃ T2 Q2, GI Bd T2 Q2 ∧ PM w1 wr2 p mb g T2 Q2 ∧ OwnIn T2 Q2 (fun o => ∃ y ∈ M.drop k, y.own = o)) ∧ Hid (Below w1.heap.size w1 wr2 ∧ w8.heap.size ≤ wr2.heap.size ∧ wr2.ownsRow w5.heap.size 23 4 (.slice (some ⟨g, 0, none⟩) M.length cM) M.length (lflat M))) (fun t _ => M.length - (RowKit.intOf t).toNat)
          case atStart => exact ⟨0, Nat.zero_le _, rfl, Lib.hid ⟨_, _, HI.out, H8.out.2.1, H8.out.2.2.2⟩, Lib.hid ⟨H8.out.2.2.1, Nat.le_refl _, H8.out.1⟩⟩
          case round =>
            obtain ⟨k, hk, rfl, hS2, hB2⟩ := hrel
            obtain ⟨T2, Q2, hI2, hP2, hO2⟩ := hS2.out
            clear hS2
            by_cases hlt : k < M.length
            · obtain ⟨x, hx⟩ : ∃ x, M[k]? = some x := ⟨_, List.getElem?_eq_getElem hlt⟩
              obtain ⟨p0, p1, p2, p3⟩ := row_lk hB2.out.2.2 hx
              have hk0 : (0 : Int) ≤ (k : Int) := by omega
              have hk1 : (k : Int) < (M.length : Int) := by omega
              have HX := Lib.hid (And.intro hlt (And.intro (own_step hO2 hI2.nd hx) ((hI2.drop (by have := HBd.out; omega) x.own).2)))
              have HD := Lib.hid (fun o => drop_m (W := wr.alloc o) hI2 (by have := HBd.out; omega) x.own (HM.out.1 x (List.mem_of_getElem? hx)) (by have := row_lt hB2.out.2.2 (k := g) rfl; simp; omega) (hP2.below (below_alloc (Below.refl _ _) o)))
              clear hx hlt hI2 hP2 hO2
              go_wp2_with fail
              refine (HD.out _).mono ?_
              rintro e w9 ⟨u9, rfl, hP9, hk9⟩
              have H9 := Lib.hid (And.intro hP9 (And.intro (Keeps.below hk9 (below_alloc hB2.out.1 _).size (fun i hi => hi.1)) (And.intro hk9.size (own_move (pw_own_below hB2.out.2.2 (below_alloc (Below.refl _ _) (.cells #[.int .i64 x.own, .int .i64 x.st, .int .i64 x.len, .bool x.ex] 23))) (fun i hi => hk9.block i (row_lt (pw_own_below hB2.out.2.2 (below_alloc (Below.refl _ _) _)) hi) (fun hf => hf.2 (own_eq hi)))))))
              clear hP9 hk9 p0 p1 p2 p3
              go_wp2
              go_roundw
              case rel => exact ⟨k + 1, by have := HX.out.1; omega, by go_num, Lib.hid ⟨_, _, HX.out.2.2, H9.out.1, HX.out.2.1⟩, Lib.hid ⟨(below_alloc hB2.out.1 _).trans H9.out.2.1, by have := hB2.out.2.1; have := H9.out.2.2.1; simp at this; omega, H9.out.2.2.2⟩⟩
              case measure => have := HX.out.1; simp [RowKit.intOf]; omega
            · obtain rfl : k = M.length := by omega
              have hend := own_end hO2
              have H9 := Lib.hid (And.intro hI2 (And.intro hP2.toT (And.intro hend hB2.out.1)))
              clear hlt hI2 hP2 hO2 hend
              go_wp2
              go_roundw
              case rel => exact ⟨1, by omega, by go_num, Lib.hid ⟨_, _, H9.out.1, H9.out.2.1, .inr H9.out.2.2.1⟩, Lib.hid H9.out.2.2.2⟩
              case measure => simp [RowKit.intOf]
        · have d1 : decide ((0 : Int) < (ng : Int) + (nq : Int)) = false := decide_eq_false (by omega)
          obtain ⟨rfl, rfl⟩ : ng = 0 ∧ nq = 0 := by omega
          go_wp2_with fail
          refine (granted_c HI.out H5.out.1).mono ?_
          rintro e w6 ⟨u6, rfl, hr6, hb6⟩
          obtain ⟨ad6, c6, rfl⟩ := row_any hr6
          have H6 := Lib.hid (And.intro (H5.out.1.below hb6) (below_back H5.out.2 hb6))
          rw [HN.out.1]
          clear hr6 hb6
          go_wp2_with fail
          refine (waiting_c HI.out (by have := HBd.out; omega) H6.out.1).mono ?_
          rintro e w7 ⟨u7, rfl, hr7, hb7⟩
          obtain ⟨ad7, c7, rfl⟩ := row_any hr7
          have H7 := Lib.hid (below_back HBW.out (below_back H6.out.2 hb7))
          rw [HN.out.2]
          clear hr7 hb7
          go_wp2
          go_ret
          exact ⟨rfl, H7.out⟩
    · rw [hs1, hs2] at HST
      have HNO := Lib.hid (And.intro hok hno)
      clear hs1 hs2 hok hno
      go_wp2_with fail
      refine HST.out.mono ?_
      rintro e w3 ⟨u3, rfl, hr3, hP3, hm3⟩
      have hb3 := hm3.base HB2.out
      have hro := rel_off HS1.out (by have := HL.out; omega) (x := ⟨x0, x1, x2, x3⟩) HWF.out HNO.out.1 HNO.out.2
      have HR1 := Lib.hid (HS1.out.rel (by have := HL.out; omega) x0 x1 x2 HWF.out).2
      have HRC := Lib.hid (rel_c (W0 := w1) HS1.out (by have := HL.out; omega) x0 x1 x2 HWF.out hb3.size hP3)
      have HB3 := Lib.hid hb3
      obtain ⟨F2, hF2⟩ : ∃ F2, relF F.2.1 F.2.2 x0 x1 x2 = F2 := ⟨_, rfl⟩
      simp only [hF2] at hro HR1 HRC
      rw [hro.1] at HRC
      have HRO := Lib.hid hro.2
      have hx3 := blk_below HX1.out hb3
      clear c0 c1 c2
      have c0 := blk_cell hx3 0
      have c1 := blk_cell hx3 1
      have c2 := blk_cell hx3 2
      clear hr3 hP3 hm3 hb3 hro hx3 hF2
      go_wp2_with fail
      refine HRC.out.mono ?_
      rintro e w4 ⟨u4, rfl, hr4, hP4, hm4⟩
      have HB4 := Lib.hid (hm4.base HB3.out)
      have HP4 := Lib.hid hP4
      clear hr4 hP4 hm4 c0 c1 c2
      go_wp2_with fail
      refine (granted_c HR1.out HP4.out).mono ?_
      rintro e w5 ⟨u5, rfl, hr5, hb5⟩
      have hb15 := below_back HB4.out hb5
      have hx5 := blk_below HX1.out hb15
      have HC5 := Lib.hid (cont_any (hitJ ⟨x0, x1, x2, x3⟩) 22 #[.pointer (some ⟨w.heap.size, 0, none⟩)] (fun _ _ => by kernel_rfl) _ u5 (tGran F2.2.1) (by rw [gran_len]; have := HR1.out.size; have := HL.out; omega) w5 hr5 (fun y hy W hb => hit_any ⟨x0, x1, x2, x3⟩ y (near_ok HNO.out.1) (near_gran HR1.out.inv hy) w.heap.size W (blk_below hx5 hb)))
      rw [HRO.out] at HC5
      have H5 := Lib.hid (And.intro ((HP4.out.below hb5).up' hb5.size) hb15)
      clear hr5 hb5 hb15 hx5
      go_wp2_with fail
      refine HC5.out.mono ?_
      rintro e w6 ⟨rfl, hb6⟩
      have HS := Lib.hid (And.intro (HR1.out.mono (B' := Bd) (by omega)) (And.intro ((H5.out.1.below hb6).up' hb6.size) (below_back H5.out.2 hb6)))
      clear hb6
      go_wp2
      go_loopw [11] (fun t wr => ∃ j : Nat, j ≤ 1 ∧ t = .int .i64 j ∧ Hid (∃ T' Q', GI Bd T' Q' ∧ PT w1 wr p mb wr.heap.size T' Q' ∧ (j = 0 ∨ (T' = [] ∧ Q' = []))) ∧ Hid (Below w1.heap.size w1 wr)) (fun t _ => 2 - (RowKit.intOf t).toNat)
      case atStart => exact ⟨0, by omega, rfl, Lib.hid ⟨_, _, HS.out.1, HS.out.2.1, .inl rfl⟩, Lib.hid HS.out.2.2⟩
      case round =>
        obtain ⟨j, hj, rfl, hSt, hB⟩ := hrel
        obtain ⟨T', Q', hI, hP, hj0⟩ := hSt.out
        have HI := Lib.hid hI
        have HJ := Lib.hid hj0
        have hgl := gran_len T'
        have hsz := hI.size
        have hBd := HBd.out
        obtain ⟨ng, hng⟩ : ∃ n, (tGran T').length = n := ⟨_, rfl⟩
        obtain ⟨nq, hnq⟩ : ∃ n, Q'.length = n := ⟨_, rfl⟩
        have hs1 : (ng : Int) + (nq : Int) ≤ 1000 := by omega
        have hs2 : (0 : Int) ≤ (ng : Int) + (nq : Int) := by omega
        have a1 : (-9223372036854775808 : Int) ≤ (ng : Int) + (nq : Int) := by omega
        have a2 : (ng : Int) + (nq : Int) ≤ 9223372036854775807 := by omega
        have HN := Lib.hid (And.intro hng hnq)
        clear hI hSt hj0 hgl hsz hBd
        go_wp2_with fail
        refine (granted_c HI.out hP).mono ?_
        rintro e w4 ⟨u4, rfl, hr4, hb4⟩
        obtain ⟨ad4, c4, rfl⟩ := row_any hr4
        have H4 := Lib.hid (And.intro ((hP.below hb4).up' hb4.size) (below_back hB.out hb4))
        rw [HN.out.1] at hr4 ⊢
        clear hr4 hb4 hP
        go_wp2_with fail
        refine (waiting_c HI.out (by have := HBd.out; omega) H4.out.1).mono ?_
        rintro e w5 ⟨u5, rfl, hr5, hb5⟩
        obtain ⟨ad5, c5, rfl⟩ := row_any hr5
        have H5 := Lib.hid (And.intro ((H4.out.1.below hb5).up' hb5.size) (below_back H4.out.2 hb5))
        rw [HN.out.2] at hr5 ⊢
        clear hr5 hb5
        by_cases hpos : 0 < ng + nq
        · have d1 : decide ((0 : Int) < (ng : Int) + (nq : Int)) = true := decide_eq_true (by omega)
          obtain rfl : j = 0 := by
            rcases HJ.out with h | h
            · exact h
            · have h0 := gran_nil h
              have h1 := HN.out.1
              have h2 := HN.out.2
              omega
          go_wp2_with fail
          refine (granted_c HI.out H5.out.1).mono ?_
          rintro e w6 ⟨u6, rfl, hr6, hb6⟩
          have H6 := Lib.hid (And.intro hr6 (And.intro (H5.out.1.below hb6) (And.intro (below_back H5.out.2 hb6) hb6)))
          clear hr6 hb6
          go_wp2_with fail
          refine (waiting_c HI.out (by have := HBd.out; omega) H6.out.2.1).mono ?_
          rintro e w7 ⟨u7, rfl, hr7, hb7⟩
          have hB57 := below_back H6.out.2.2.2 hb7
          have hr6' := pw_own_below H6.out.1 hb7
          obtain ⟨v8, w8, hrun, hown8, hg8, hat8⟩ := app4_run 23 37 37 Try.underlying37 info23 w5.heap.size w7 u6 (tGran T').length (lflat (tGran T')) hr6' u7 Q'.length (lflat Q') (src_row hr7 (lflat_one' Q')) (by have h1 := HN.out.1; have h2 := HN.out.2; omega) hB57.size
          have hB58 := hB57.grown hg8 hB57.size (fun i hi => (hr6'.lt i hi).1)
          rw [← lflat_append, ← List.length_append] at hown8
          obtain ⟨M, hM⟩ : ∃ M, tGran T' ++ Q' = M := ⟨_, rfl⟩
          have hwfM := wf_all HI.out
          have hown := own_start (Q := Q') HI.out.inv.ok
          rw [hM] at hown8 hwfM hown
          have hlM : M.length = ng + nq := by rw [← hM, List.length_append, HN.out.1, HN.out.2]
          obtain ⟨g, cM, rfl⟩ : ∃ g c, v8 = .slice (some ⟨g, 0, none⟩) M.length c := by
            rcases row_form hown8 with ⟨-, hz⟩ | h
            · omega
            · exact h
          have hg5 : w5.heap.size ≤ g := (hown8.lt g rfl).1
          have H8 := Lib.hid (And.intro hown8 (And.intro ((H5.out.1.below hB58).toM hg5) (And.intro (below_back H5.out.2 hB58) hown)))
          have HM := Lib.hid (And.intro hwfM hlM)
          have hlM2 : (M.length : Int) ≤ 1000 := by omega
          clear hr6' hr7 hb7 hB57 hown8 hg8 hat8 hB58 hwfM hown hM hg5 a1 a2 hs1 hs2 d1
          go_wp2_with (at_builtin; refine wpList_run rfl (.tmp 76) (.tmp 78) 37 rfl _ _ rfl rfl hrun ?_)
          clear hrun
          go_loopw [81] (fun t wr2 => ∃ k : Nat, k ≤ M.length ∧ t = .int .i64 k ∧ Hid (∃ T2 Q2, GI Bd T2 Q2 ∧ PM w1 wr2 p mb g T2 Q2 ∧ OwnIn T2 Q2 (fun o => ∃ y ∈ M.drop k, y.own = o)) ∧ Hid (Below w1.heap.size w1 wr2 ∧ w8.heap.size ≤ wr2.heap.size ∧ wr2.ownsRow w5.heap.size 23 4 (.slice (some ⟨g, 0, none⟩) M.length cM) M.length (lflat M))) (fun t _ => M.length - (RowKit.intOf t).toNat)
          case atStart => exact ⟨0, Nat.zero_le _, rfl, Lib.hid ⟨_, _, HI.out, H8.out.2.1, H8.out.2.2.2⟩, Lib.hid ⟨H8.out.2.2.1, Nat.le_refl _, H8.out.1⟩⟩
          case round =>
            obtain ⟨k, hk, rfl, hS2, hB2⟩ := hrel
            obtain ⟨T2, Q2, hI2, hP2, hO2⟩ := hS2.out
            clear hS2
            by_cases hlt : k < M.length
            · obtain ⟨x, hx⟩ : ∃ x, M[k]? = some x := ⟨_, List.getElem?_eq_getElem hlt⟩
              obtain ⟨p0, p1, p2, p3⟩ := row_lk hB2.out.2.2 hx
              have hk0 : (0 : Int) ≤ (k : Int) := by omega
              have hk1 : (k : Int) < (M.length : Int) := by omega
              have HX := Lib.hid (And.intro hlt (And.intro (own_step hO2 hI2.nd hx) ((hI2.drop (by have := HBd.out; omega) x.own).2)))
              have HD := Lib.hid (fun o => drop_m (W := wr.alloc o) hI2 (by have := HBd.out; omega) x.own (HM.out.1 x (List.mem_of_getElem? hx)) (by have := row_lt hB2.out.2.2 (k := g) rfl; simp; omega) (hP2.below (below_alloc (Below.refl _ _) o)))
              clear hx hlt hI2 hP2 hO2
              go_wp2_with fail
              refine (HD.out _).mono ?_
              rintro e w9 ⟨u9, rfl, hP9, hk9⟩
              have H9 := Lib.hid (And.intro hP9 (And.intro (Keeps.below hk9 (below_alloc hB2.out.1 _).size (fun i hi => hi.1)) (And.intro hk9.size (own_move (pw_own_below hB2.out.2.2 (below_alloc (Below.refl _ _) (.cells #[.int .i64 x.own, .int .i64 x.st, .int .i64 x.len, .bool x.ex] 23))) (fun i hi => hk9.block i (row_lt (pw_own_below hB2.out.2.2 (below_alloc (Below.refl _ _) _)) hi) (fun hf => hf.2 (own_eq hi)))))))
              clear hP9 hk9 p0 p1 p2 p3
              go_wp2
              go_roundw
              case rel => exact ⟨k + 1, by have := HX.out.1; omega, by go_num, Lib.hid ⟨_, _, HX.out.2.2, H9.out.1, HX.out.2.1⟩, Lib.hid ⟨(below_alloc hB2.out.1 _).trans H9.out.2.1, by have := hB2.out.2.1; have := H9.out.2.2.1; simp at this; omega, H9.out.2.2.2⟩⟩
              case measure => have := HX.out.1; simp [RowKit.intOf]; omega
            · obtain rfl : k = M.length := by omega
              have hend := own_end hO2
              have H9 := Lib.hid (And.intro hI2 (And.intro hP2.toT (And.intro hend hB2.out.1)))
              clear hlt hI2 hP2 hO2 hend
              go_wp2
              go_roundw
              case rel => exact ⟨1, by omega, by go_num, Lib.hid ⟨_, _, H9.out.1, H9.out.2.1, .inr H9.out.2.2.1⟩, Lib.hid H9.out.2.2.2⟩
              case measure => simp [RowKit.intOf]
        · have d1 : decide ((0 : Int) < (ng : Int) + (nq : Int)) = false := decide_eq_false (by omega)
          obtain ⟨rfl, rfl⟩ : ng = 0 ∧ nq = 0 := by omega
          go_wp2_with fail
          refine (granted_c HI.out H5.out.1).mono ?_
          rintro e w6 ⟨u6, rfl, hr6, hb6⟩
          obtain ⟨ad6, c6, rfl⟩ := row_any hr6
          have H6 := Lib.hid (And.intro (H5.out.1.below hb6) (below_back H5.out.2 hb6))
          rw [HN.out.1]
          clear hr6 hb6
          go_wp2_with fail
          refine (waiting_c HI.out (by have := HBd.out; omega) H6.out.1).mono ?_
          rintro e w7 ⟨u7, rfl, hr7, hb7⟩
          obtain ⟨ad7, c7, rfl⟩ := row_any hr7
          have H7 := Lib.hid (below_back HBW.out (below_back H6.out.2 hb7))
          rw [HN.out.2]
          clear hr7 hb7
          go_wp2
          go_ret
          exact ⟨rfl, H7.out⟩
end
end Go.Proofs.Ytoolflmaaooplaa
