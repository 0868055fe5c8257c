/- Timers: timers armed one after the other; the first example. -/
import Derived.Test.YtodgbpggkikbcaaMF
namespace Go.Proofs.Ytodgbpggkikbcaa
section
set_option linter.unusedVariables false
set_option linter.unusedSimpArgs false
open Go.RowKit Go.Maps Go.Sort Go.Lib Go.Shelf Go.Proofs.YtodgbpggkikbcaaW.PrintWords Go.Proofs.YtodgbpggkikbcaaW.PrintLast Go.Proofs.YtodgbpggkikbcaaW.PrintMore FLib

abbrev Spc := Int × Int × Int
def mkT (own : Int) (s : Spc) : TT := ⟨own, 1, 1, 10, 0, 0, s.1, s.2.1, s.2.2⟩
def Arm (own : Int) (S : List Spc) (L : Slots) : Prop := ∃ bs : List Nat, bs.length = S.length ∧ L = List.zipWith (fun b s => some (b, mkT own s)) bs S
theorem Arm.nil (own : Int) : Arm own [] [] := ⟨[], rfl, rfl⟩
theorem Arm.len {own : Int} {S : List Spc} {L : Slots} (h : Arm own S L) : L.length = S.length := by
  obtain ⟨bs, h1, rfl⟩ := h
  rw [List.length_zipWith, h1, Nat.min_self]
theorem Arm.snoc {own : Int} {S : List Spc} {L : Slots} (h : Arm own S L) (g : Nat) (s : Spc) : Arm own (S ++ [s]) (L ++ [some (g, mkT own s)]) := by
  obtain ⟨bs, h1, rfl⟩ := h
  refine ⟨bs ++ [g], by simp [h1], ?_⟩
  rw [List.zipWith_append h1]; rfl
theorem Arm.all {own : Int} {S : List Spc} {L : Slots} (h : Arm own S L) : ∀ o ∈ L, o.isSome = true := by
  obtain ⟨bs, h1, rfl⟩ := h
  intro o ho
  obtain ⟨i, hi, rfl⟩ := List.getElem_of_mem ho
  rw [List.getElem_zipWith]; rfl
theorem Arm.get {own : Int} {S : List Spc} {L : Slots} (h : Arm own S L) {i : Nat} {s : Spc} (hs : S[i]? = some s) : ∃ b, L[i]? = some (some (b, mkT own s)) := by
  obtain ⟨bs, h1, rfl⟩ := h
  have hlt := (List.getElem?_eq_some_iff.1 hs).1
  refine ⟨bs[i]'(by omega), ?_⟩
  rw [List.getElem?_zipWith, hs, List.getElem?_eq_getElem (by omega)]
theorem Arm.back {own : Int} {S : List Spc} {L : Slots} (h : Arm own S L) {i b : Nat} {t : TT} (hi : L[i]? = some (some (b, t))) : ∃ s, S[i]? = some s ∧ t = mkT own s := by
  have hlt := (List.getElem?_eq_some_iff.1 hi).1
  rw [h.len] at hlt
  obtain ⟨b', hb⟩ := h.get (List.getElem?_eq_getElem hlt)
  rw [hi] at hb
  simp only [Option.some.injEq, Prod.mk.injEq] at hb
  exact ⟨_, List.getElem?_eq_getElem hlt, hb.2⟩
theorem free_full {L : Slots} (h : ∀ o ∈ L, o.isSome = true) : free L = L.length := by
  unfold free
  rw [List.findIdx_eq_length]
  intro o ho
  have := h o ho
  cases o with
  | none => cases this
  | some x => rfl
theorem cnt_all {L : Slots} (h : ∀ o ∈ L, o.isSome = true) : cnt L = L.length := by
  unfold cnt; rw [List.countP_eq_length]; exact h
theorem put_last (L : Slots) (x : Nat × TT) : putAt L L.length x = L ++ [some x] := by unfold putAt; rw [if_neg (by omega)]
theorem at_last (L : Slots) (x : Nat × TT) : at' (L ++ [some x]) (L.length : Int) = some x := by rw [at_nat]; simp
theorem setL_last (L : Slots) (g : Nat) (t : TT) (f iv tol : Int) (h : specOk f iv tol = true) : setL (L ++ [some (g, t)]) (L.length : Int) f iv tol = L ++ [some (g, setT t f iv tol)] := by
  unfold setL
  rw [at_last]
  simp [h]
theorem setC_last (L : Slots) (x : Nat × TT) (f iv tol : Int) : setC (L ++ [some x]) (L.length : Int) f iv tol = if specOk f iv tol then 0 else 34 := by
  unfold setC; rw [at_last]; simp
theorem setV_last (L : Slots) (x : Nat × TT) (f iv tol : Int) (h : specOk f iv tol = true) : setV (L ++ [some x]) (L.length : Int) f iv tol = specV (some x) := by
  unfold setV; rw [setC_last, h, at_last]; rfl
theorem setV_bad (L : Slots) (x : Nat × TT) (f iv tol : Int) (h : specOk f iv tol = false) : setV (L ++ [some x]) (L.length : Int) f iv tol = specV none := by
  unfold setV; rw [setC_last, h]; rfl
theorem setC_i {L : Slots} {x : Nat × TT} {i f iv tol : Int} (hi : i = (L.length : Int)) : setC (L ++ [some x]) i f iv tol = if specOk f iv tol then 0 else 34 := by rw [hi]; exact setC_last L x f iv tol
theorem setV_i {L : Slots} {x : Nat × TT} {i f iv tol : Int} (hi : i = (L.length : Int)) (h : specOk f iv tol = true) : setV (L ++ [some x]) i f iv tol = specV (some x) := by rw [hi]; exact setV_last L x f iv tol h
theorem setV_ib {L : Slots} {x : Nat × TT} {i f iv tol : Int} (hi : i = (L.length : Int)) (h : specOk f iv tol = false) : setV (L ++ [some x]) i f iv tol = specV none := by rw [hi]; exact setV_bad L x f iv tol h
theorem chk_pulse : chkE 1 1 10 0 = 0 := by decide
theorem creC_full {L : Slots} (h : ∀ o ∈ L, o.isSome = true) {own : Int} (ho : own = 0 ∨ own = 1) : creC L own 1 1 10 0 = if 1000 ≤ L.length then 18 else 0 := by
  unfold creC
  rw [chk_pulse, cnt_all h]
  rcases ho with rfl | rfl <;> simp
theorem creI_full {L : Slots} (h : ∀ o ∈ L, o.isSome = true) {own : Int} (ho : own = 0 ∨ own = 1) : creI L own 1 1 10 0 = if 1000 ≤ L.length then 0 else (L.length : Int) := by
  unfold creI
  rw [creC_full h ho, free_full h]
  split <;> simp
theorem set_new (own f iv tol : Int) : setT (newT own 1 1 10 0 0) f iv tol = mkT own (f, iv, tol) := rfl
theorem specOk_iff {f iv tol : Int} : specOk f iv tol = true ↔ (0 ≤ f ∧ f ≤ 1099511627776) ∧ (0 ≤ iv ∧ iv ≤ 1099511627776) ∧ (0 ≤ tol ∧ tol ≤ 1099511627776) := by
  simp [specOk, okT, and_assoc]
theorem tok_of {own : Int} {s : Spc} (h : specOk s.1 s.2.1 s.2.2 = true) : TOk (mkT own s) := by
  obtain ⟨⟨a, b⟩, ⟨c, d⟩, e, f⟩ := specOk_iff.1 h
  exact ⟨a, b, c, d, e, f⟩
theorem Arm.tok {own : Int} {S : List Spc} {L : Slots} (h : Arm own S L) (hS : ∀ s ∈ S, specOk s.1 s.2.1 s.2.2 = true) : ∀ (i b : Nat) (t : TT), L[i]? = some (some (b, t)) → TOk t := fun i b t hi => by
  obtain ⟨s, hs, rfl⟩ := h.back hi
  exact tok_of (hS s (List.mem_of_getElem? hs))

/-- The order of timers that are sorted by their numbers. -/
theorem ord_of {L : Slots} (h : (ids L).Pairwise (fun a b => leT L a b = true)) : ord L = ids L := List.mergeSort_of_pairwise h
theorem ids_all {L : Slots} (h : ∀ o ∈ L, o.isSome = true) : ids L = List.range L.length := by
  unfold ids
  rw [List.filter_eq_self]
  intro i hi
  rw [List.mem_range] at hi
  unfold isT
  rw [at_nat, List.getElem?_eq_getElem hi]
  have := h _ (List.getElem_mem hi)
  generalize L[i] = o at this
  cases o with
  | none => cases this
  | some x => rfl
end
section
set_option linter.unusedVariables false
set_option linter.unusedSimpArgs false
open Go.RowKit Go.Maps Go.Sort Go.Lib Go.Shelf Go.Proofs.YtodgbpggkikbcaaW.PrintWords Go.Proofs.YtodgbpggkikbcaaW.PrintLast Go.Proofs.YtodgbpggkikbcaaW.PrintMore FLib
attribute [local go_sem] below_alloc_T below_drew_T below_drewN_T

/-- The timers S have been armed, in blocks of the call's own. -/
structure ArI (own : Int) (w : World) (p mb : Nat) (S : List Spc) (L : Slots) (W : World) : Prop where
  low : Below w.heap.size w W
  set : TS W p mb 0 L
  arm : Arm own S L
  own : ∀ j, TOwn p mb L j → w.heap.size ≤ j
theorem ArI.call {own : Int} {w : World} {p mb : Nat} {S : List Spc} {L : Slots} {W W' : World} (h : ArI own w p mb S L W) (hb : Below W.heap.size W W') : ArI own w p mb S L W' :=
  ⟨below_step h.low hb, h.set.below hb, h.arm, h.own⟩
theorem below_keeps {w W W' : World} {F : Nat → Prop} (h : Below w.heap.size w W) (hk : Keeps W W' F) (hF : ∀ j, F j → w.heap.size ≤ j) : Below w.heap.size w W' :=
  h.trans (hk.below h.size hF)
/-- Between Create and Set. -/
structure ArM (own : Int) (w : World) (p mb : Nat) (S : List Spc) (L : Slots) (g : Nat) (wa W : World) : Prop where
  low : Below w.heap.size w W
  set : TS W p mb 0 (L ++ [some (g, newT own 1 1 10 0 0)])
  arm : Arm own S L
  own : ∀ j, TOwn p mb L j → w.heap.size ≤ j
  new : w.heap.size ≤ g
  newa : wa.heap.size ≤ g
  keep : Keeps wa W (TOwn p mb L)
theorem own_snoc {L : Slots} {p mb g : Nat} {t : TT} {j : Nat} (h : TOwn p mb (L ++ [some (g, t)]) j) : TOwn p mb L j ∨ j = g := by
  rcases h with h | h | ⟨i, u, h⟩
  · exact .inl (.inl h)
  · exact .inl (.inr (.inl h))
  · rcases Nat.lt_or_ge i L.length with hl | hl
    · rw [List.getElem?_append_left hl] at h
      exact .inl (.inr (.inr ⟨i, u, h⟩))
    · rw [List.getElem?_append_right hl] at h
      have hlt := (List.getElem?_eq_some_iff.1 h).1
      simp only [List.length_cons, List.length_nil] at hlt
      have e : i - L.length = 0 := by omega
      rw [e] at h
      simp only [List.getElem?_cons_zero, Option.some.injEq, Prod.mk.injEq] at h
      exact .inr h.1.symm
theorem ar_cre {own : Int} {w : World} {p mb : Nat} {S : List Spc} {L : Slots} {wa wb : World} (h : ArI own w p mb S L wa) (ho : own = 0 ∨ own = 1) (hl : S.length < 1000) (hc : CrePost p mb 0 L own 1 1 10 0 0 wa wb) : ∃ g, ArM own w p mb S L g wa wb := by
  obtain ⟨g, hg, hT⟩ := hc.yes (by rw [creC_full h.arm.all ho, if_neg (by rw [h.arm.len]; omega)])
  rw [free_full h.arm.all, put_last] at hT
  exact ⟨g, below_keeps h.low hc.keep h.own, hT, h.arm, h.own, Nat.le_trans h.low.size hg, hg, hc.keep⟩
theorem ArM.after {own : Int} {w : World} {p mb : Nat} {S : List Spc} {L : Slots} {g : Nat} {wa W W' : World} (h : ArM own w p mb S L g wa W) {i f iv tol : Int} (hi : i = (L.length : Int)) (hs : specOk f iv tol = true) (hT : TS W' p mb 0 (setL (L ++ [some (g, newT own 1 1 10 0 0)]) i f iv tol)) (hk : Keeps W W' (TOwn p mb (L ++ [some (g, newT own 1 1 10 0 0)]))) :
    ArI own w p mb (S ++ [(f, iv, tol)]) (L ++ [some (g, mkT own (f, iv, tol))]) W' := by
  subst hi
  rw [setL_last _ _ _ _ _ _ hs, set_new] at hT
  have ho : ∀ t j, TOwn p mb (L ++ [some (g, t)]) j → w.heap.size ≤ j := fun t j hj => by
    rcases own_snoc hj with hj | hj
    · exact h.own j hj
    · rw [hj]; exact h.new
  exact ⟨below_keeps h.low hk (ho _), hT, h.arm.snoc g (f, iv, tol), ho _⟩
theorem ArI.keep {own : Int} {w : World} {p mb : Nat} {S : List Spc} {L : Slots} {W W' : World} {F : Nat → Prop} (h : ArI own w p mb S L W) (hk : Keeps W W' F) (hF : ∀ k, F k → W.heap.size ≤ k) : ArI own w p mb S L W' :=
  h.call (hk.below (Nat.le_refl _) hF)
end
section
set_option linter.unusedVariables false
set_option linter.unusedSimpArgs false
open Go.RowKit Go.Maps Go.Sort Go.Lib Go.Shelf Go.Proofs.YtodgbpggkikbcaaW.PrintWords Go.Proofs.YtodgbpggkikbcaaW.PrintLast Go.Proofs.YtodgbpggkikbcaaW.PrintMore FLib
attribute [local go_sem] below_alloc_T below_drew_T below_drewN_T

def AwL (w : World) (p mb gb : Nat) (S : List Spc) (L : Slots) (W : World) : Prop :=
  ArI 1 w p mb S L W ∧ W.heap[gb]? = some (.cells #[.int .i64 100, .int .i64 0, .int .i64 50, .int .i64 120, .int .i64 0, .int .i64 0, .int .i64 130, .int .i64 0, .int .i64 0] 30 (0, 0)) ∧ ¬ TOwn p mb L gb ∧ w.heap.size ≤ gb

theorem aw_shape {L : Slots} (h : Arm 1 [(100, 0, 50), (120, 0, 0), (130, 0, 0)] L) : ∃ b0 b1 b2, L = [some (b0, mkT 1 (100, 0, 50)), some (b1, mkT 1 (120, 0, 0)), some (b2, mkT 1 (130, 0, 0))] := by
  obtain ⟨bs, h1, rfl⟩ := h
  match bs, h1 with
  | [b0, b1, b2], _ => exact ⟨b0, b1, b2, rfl⟩
theorem arm3 {L : Slots} {f0 f1 f2 : Int} (hl : L.length = 3) (hs : ∀ o ∈ L, o.isSome = true) (h0 : fstAt L 0 = f0) (h1 : fstAt L 1 = f1) (h2 : fstAt L 2 = f2) (a : f0 ≤ f1) (b : f1 ≤ f2) : arm L = [0, 1, 2].filter (fun i => decide (0 < fstAt L i)) := by
  unfold Ytodgbpggkikbcaa.arm
  have hi : ids L = [0, 1, 2] := by rw [ids_all hs, hl]; rfl
  rw [ord_of, hi]
  rw [hi]
  simp only [List.pairwise_cons, List.mem_cons, List.not_mem_nil, or_false, List.Pairwise.nil, and_true]
  refine ⟨?_, ?_, ?_⟩
  · rintro j (rfl | rfl)
    · rw [leT_iff, h0, h1]; omega
    · rw [leT_iff, h0, h2]; omega
  · rintro j rfl
    rw [leT_iff, h1, h2]; omega
  · rintro j hj; exact hj.elim
theorem aw_plain {L : Slots} (h : Arm 1 [(100, 0, 50), (120, 0, 0), (130, 0, 0)] L) : nextV L = (120, true) ∧ expE 0 120 = 0 ∧ expD L 0 120 = [0, 1] ∧ firedD L 120 [0, 1] = firedC 0 (mkT 1 (100, 0, 50)) 120 ++ firedC 1 (mkT 1 (120, 0, 0)) 120 ∧ nextV (fireD L 120 [0, 1]) = (130, true) ∧ (∀ (i b : Nat) (t : TT), (fireD L 120 [0, 1])[i]? = some (some (b, t)) → TOk t) := by
  have hall := h.all
  have htok := h.tok (by decide)
  obtain ⟨b0, b1, b2, rfl⟩ := aw_shape h
  have e0 : fstAt [some (b0, mkT 1 (100, 0, 50)), some (b1, mkT 1 (120, 0, 0)), some (b2, mkT 1 (130, 0, 0))] 0 = 100 := rfl
  have e1 : fstAt [some (b0, mkT 1 (100, 0, 50)), some (b1, mkT 1 (120, 0, 0)), some (b2, mkT 1 (130, 0, 0))] 1 = 120 := rfl
  have e2 : fstAt [some (b0, mkT 1 (100, 0, 50)), some (b1, mkT 1 (120, 0, 0)), some (b2, mkT 1 (130, 0, 0))] 2 = 130 := rfl
  have ha : arm [some (b0, mkT 1 (100, 0, 50)), some (b1, mkT 1 (120, 0, 0)), some (b2, mkT 1 (130, 0, 0))] = [0, 1, 2] := (arm3 rfl hall e0 e1 e2 (by decide) (by decide)).trans rfl
  have hn : nextV [some (b0, mkT 1 (100, 0, 50)), some (b1, mkT 1 (120, 0, 0)), some (b2, mkT 1 (130, 0, 0))] = (120, true) := by
    unfold nextV; rw [ha]; rfl
  have hE : expE 0 120 = 0 := by decide
  have hf : fireD [some (b0, mkT 1 (100, 0, 50)), some (b1, mkT 1 (120, 0, 0)), some (b2, mkT 1 (130, 0, 0))] 120 [0, 1] = [some (b0, mkT 1 (0, 0, 50)), some (b1, mkT 1 (0, 0, 0)), some (b2, mkT 1 (130, 0, 0))] := rfl
  refine ⟨hn, hE, ?_, rfl, ?_, ?_⟩
  · unfold expD expG
    rw [hE, hn]
    unfold dueL
    rw [ha]
    rfl
  · rw [hf]
    have ha2 : arm [some (b0, mkT 1 (0, 0, 50)), some (b1, mkT 1 (0, 0, 0)), some (b2, mkT 1 (130, 0, 0))] = [2] := (arm3 (f0 := 0) (f1 := 0) (f2 := 130) rfl (by intro o ho; simp at ho; rcases ho with rfl | rfl | rfl <;> rfl) rfl rfl rfl (by decide) (by decide)).trans rfl
    unfold nextV; rw [ha2]; rfl
  · rw [hf]
    have : Arm 1 [(0, 0, 50), (0, 0, 0), (130, 0, 0)] [some (b0, mkT 1 (0, 0, 50)), some (b1, mkT 1 (0, 0, 0)), some (b2, mkT 1 (130, 0, 0))] := ⟨[b0, b1, b2], rfl, rfl⟩
    exact this.tok (by decide)
theorem fired_cell {w : World} {base n g cap : Nat} {L : Slots} {now : Int} {D : List Nat} (h : w.ownsRow base 40 7 (.slice (some ⟨g, 0, none⟩) n cap) D.length (firedD L now D)) : ∀ j u, (firedD L now D)[j]? = some u → w.cell? ⟨g, j, none⟩ = some u := fun j u hu => by
  have := h.cells (g := g) rfl j u hu
  rwa [add_mk, Nat.zero_add] at this

set_option maxRecDepth 100000 in
set_option maxHeartbeats 4000000 in
theorem awake_any (w : World) : Calls Try.prog 10 #[] w fun e w' => e = .returned (.bool true) ∧ Below w.heap.size w w' := by
  have HP := Lib.hid (fun w => pulse_any w)
  have HN := Lib.hid (fun w => new_any w)
  have HC := Lib.hid (fun p mb L w h => cre_any p mb 0 L 1 1 1 10 0 0 w h)
  go_enter Try.func10, Try.ntmps10
  go_wp2_with fail
  refine (HN.out _).mono ?_
  rintro e w1 ⟨rfl, hT, hb⟩
  have HT := Lib.hid hT
  have HB := Lib.hid hb
  clear hT hb
  go_wp2
  obtain ⟨mb, hmb⟩ : ∃ q, w.heap.size = q := ⟨_, rfl⟩
  obtain ⟨p, hp⟩ : ∃ q, w.heap.size + 1 = q := ⟨_, rfl⟩
  obtain ⟨gb, hgb⟩ : ∃ q, w1.heap.size = q := ⟨_, rfl⟩
  rw [hp, hmb] at HT
  rw [hp, hgb]
  have hlw : ∀ j, TOwn p mb [] j → w.heap.size ≤ j ∧ j < gb := by
    rintro j (e | e | ⟨i, t, e⟩)
    · have := blk_lt HT.out.hdr; omega
    · obtain ⟨D, hD, -⟩ := HT.out.map
      have := hD.lt; omega
    · simp at e
  have hA : AwL w p mb gb [] [] (w1.alloc (.cells #[.int .i64 100, .int .i64 0, .int .i64 50, .int .i64 120, .int .i64 0, .int .i64 0, .int .i64 130, .int .i64 0, .int .i64 0] 30)) :=
    ⟨⟨below_alloc HB.out _, HT.out.below (below_alloc (Below.refl _ _) _), Arm.nil 1, fun j hj => (hlw j hj).1⟩, by rw [← hgb]; exact blk_new _ _, fun ho => by have := (hlw _ ho).2; omega, by have := HB.out.size; omega⟩
  clear HT HB hlw hmb hp hgb
  refine abs_w (AwL w p mb gb [] []) hA ?_
  intro W0 h0
  have H0 := Lib.hid h0
  clear h0 hA
  obtain ⟨L0, hL0⟩ : ∃ L : Slots, L = [] := ⟨_, rfl⟩
  rw [← hL0] at H0
  clear hL0
  refine wp_loop_rounds 4 ?_
  try rw [rounds_succ]
  have q0 : W0.cell? ⟨gb, 0, none⟩ = some (.int .i64 100) := blk_cell H0.out.2.1 0
  have q1 : W0.cell? ⟨gb, 1, none⟩ = some (.int .i64 0) := blk_cell H0.out.2.1 1
  have q2 : W0.cell? ⟨gb, 2, none⟩ = some (.int .i64 50) := blk_cell H0.out.2.1 2
  go_wp2_with fail
  refine (HP.out _).mono ?_
  rintro e wa ⟨rfl, hb⟩
  have HX := Lib.hid (blk_below (blk_new W0 _) hb)
  have HI := Lib.hid (H0.out.1.call (below_step (below_alloc (Below.refl _ _) _) hb))
  have HLB := Lib.hid (blk_below (blk_alloc H0.out.2.1 _) hb)
  have HSZ := Lib.hid (show W0.heap.size < wa.heap.size by have := hb.size; simp at this; omega)
  clear hb q0 q1 q2
  go_wp2_with fail
  refine (HC.out p mb L0 wa HI.out.set).mono ?_
  rintro e wb ⟨rfl, hcre⟩
  obtain ⟨g0, hM⟩ := ar_cre HI.out (.inr rfl) (by decide) hcre
  have hlen : L0.length = 0 := HI.out.arm.len
  rw [creI_full HI.out.arm.all (.inr rfl), creC_full HI.out.arm.all (.inr rfl), if_neg (by omega), if_neg (by omega), hlen]
  have HM := Lib.hid hM
  have HLEN := Lib.hid hlen
  have hx := hM.keep.blk HX.out (fun ho => by have := H0.out.1.set.own_lt ho; omega)
  have HXB := Lib.hid hx
  have x0 : wb.cell? ⟨W0.heap.size, 0, none⟩ = some (.int .i64 100) := blk_cell hx 0
  have x1 : wb.cell? ⟨W0.heap.size, 1, none⟩ = some (.int .i64 0) := blk_cell hx 1
  have x2 : wb.cell? ⟨W0.heap.size, 2, none⟩ = some (.int .i64 50) := blk_cell hx 2
  have HLC := Lib.hid (hM.keep.blk HLB.out H0.out.2.2.1)
  clear hcre hM hlen hx
  go_wp2_with fail
  refine (set_any p mb 0 _ (0 : Int) (WalkArith.wf_i64 (by omega)) 100 0 50 wb HM.out.set).mono ?_
  rintro e wc ⟨rfl, hT, hk⟩
  have hi : (0 : Int) = (L0.length : Int) := by rw [HLEN.out]; rfl
  rw [setC_i hi, setV_i hi (by decide), if_pos (by decide)]
  simp only [specV, newT]
  have HA := Lib.hid (HM.out.after hi (by decide) hT hk)
  have HNG := Lib.hid (fun ho => (own_snoc (L := L0) (p := p) (mb := mb) (g := g0) (t := newT 1 1 1 10 0 0) (j := gb) ho).elim H0.out.2.2.1 (fun e => by have := HM.out.newa; have := blk_lt HLB.out; omega))
  have HNH := Lib.hid (fun ho => (own_snoc (L := L0) (p := p) (mb := mb) (g := g0) (t := mkT 1 (100, 0, 50)) (j := gb) ho).elim H0.out.2.2.1 (fun e => by have := HM.out.newa; have := blk_lt HLB.out; omega))
  have HLD := Lib.hid (hk.blk HLC.out HNG.out)
  clear hi hT hk x0 x1 x2
  go_wp2
  refine abs_w (AwL w p mb gb [(100, 0, 50)] (L0 ++ [some (g0, mkT 1 (100, 0, 50))])) ⟨HA.out.call (below_alloc (Below.refl _ _) _), blk_alloc HLD.out _, HNH.out, H0.out.2.2.2⟩ ?_
  intro W1 h1
  obtain ⟨L1, hL1⟩ : ∃ L : Slots, L = L0 ++ [some (g0, mkT 1 (100, 0, 50))] := ⟨_, rfl⟩
  rw [← hL1] at h1
  have H1 := Lib.hid h1
  clear h1 hL1 HX HXB HI HLB HSZ HM HLEN HLC HA HNG HNH HLD
  try rw [rounds_succ]
  have q0 : W1.cell? ⟨gb, 3, none⟩ = some (.int .i64 120) := blk_cell H1.out.2.1 3
  have q1 : W1.cell? ⟨gb, 4, none⟩ = some (.int .i64 0) := blk_cell H1.out.2.1 4
  have q2 : W1.cell? ⟨gb, 5, none⟩ = some (.int .i64 0) := blk_cell H1.out.2.1 5
  go_wp2_with fail
  refine (HP.out _).mono ?_
  rintro e wa ⟨rfl, hb⟩
  have HX := Lib.hid (blk_below (blk_new W1 _) hb)
  have HI := Lib.hid (H1.out.1.call (below_step (below_alloc (Below.refl _ _) _) hb))
  have HLB := Lib.hid (blk_below (blk_alloc H1.out.2.1 _) hb)
  have HSZ := Lib.hid (show W1.heap.size < wa.heap.size by have := hb.size; simp at this; omega)
  clear hb q0 q1 q2
  go_wp2_with fail
  refine (HC.out p mb L1 wa HI.out.set).mono ?_
  rintro e wb ⟨rfl, hcre⟩
  obtain ⟨g1, hM⟩ := ar_cre HI.out (.inr rfl) (by decide) hcre
  have hlen : L1.length = 1 := HI.out.arm.len
  rw [creI_full HI.out.arm.all (.inr rfl), creC_full HI.out.arm.all (.inr rfl), if_neg (by omega), if_neg (by omega), hlen]
  have HM := Lib.hid hM
  have HLEN := Lib.hid hlen
  have hx := hM.keep.blk HX.out (fun ho => by have := H1.out.1.set.own_lt ho; omega)
  have HXB := Lib.hid hx
  have x0 : wb.cell? ⟨W1.heap.size, 0, none⟩ = some (.int .i64 120) := blk_cell hx 0
  have x1 : wb.cell? ⟨W1.heap.size, 1, none⟩ = some (.int .i64 0) := blk_cell hx 1
  have x2 : wb.cell? ⟨W1.heap.size, 2, none⟩ = some (.int .i64 0) := blk_cell hx 2
  have HLC := Lib.hid (hM.keep.blk HLB.out H1.out.2.2.1)
  clear hcre hM hlen hx
  go_wp2_with fail
  refine (set_any p mb 0 _ (1 : Int) (WalkArith.wf_i64 (by omega)) 120 0 0 wb HM.out.set).mono ?_
  rintro e wc ⟨rfl, hT, hk⟩
  have hi : (1 : Int) = (L1.length : Int) := by rw [HLEN.out]; rfl
  rw [setC_i hi, setV_i hi (by decide), if_pos (by decide)]
  simp only [specV, newT]
  have HA := Lib.hid (HM.out.after hi (by decide) hT hk)
  have HNG := Lib.hid (fun ho => (own_snoc (L := L1) (p := p) (mb := mb) (g := g1) (t := newT 1 1 1 10 0 0) (j := gb) ho).elim H1.out.2.2.1 (fun e => by have := HM.out.newa; have := blk_lt HLB.out; omega))
  have HNH := Lib.hid (fun ho => (own_snoc (L := L1) (p := p) (mb := mb) (g := g1) (t := mkT 1 (120, 0, 0)) (j := gb) ho).elim H1.out.2.2.1 (fun e => by have := HM.out.newa; have := blk_lt HLB.out; omega))
  have HLD := Lib.hid (hk.blk HLC.out HNG.out)
  clear hi hT hk x0 x1 x2
  go_wp2
  refine abs_w (AwL w p mb gb [(100, 0, 50), (120, 0, 0)] (L1 ++ [some (g1, mkT 1 (120, 0, 0))])) ⟨HA.out.call (below_alloc (Below.refl _ _) _), blk_alloc HLD.out _, HNH.out, H1.out.2.2.2⟩ ?_
  intro W2 h2
  obtain ⟨L2, hL2⟩ : ∃ L : Slots, L = L1 ++ [some (g1, mkT 1 (120, 0, 0))] := ⟨_, rfl⟩
  rw [← hL2] at h2
  have H2 := Lib.hid h2
  clear h2 hL2 HX HXB HI HLB HSZ HM HLEN HLC HA HNG HNH HLD
  try rw [rounds_succ]
  have q0 : W2.cell? ⟨gb, 6, none⟩ = some (.int .i64 130) := blk_cell H2.out.2.1 6
  have q1 : W2.cell? ⟨gb, 7, none⟩ = some (.int .i64 0) := blk_cell H2.out.2.1 7
  have q2 : W2.cell? ⟨gb, 8, none⟩ = some (.int .i64 0) := blk_cell H2.out.2.1 8
  go_wp2_with fail
  refine (HP.out _).mono ?_
  rintro e wa ⟨rfl, hb⟩
  have HX := Lib.hid (blk_below (blk_new W2 _) hb)
  have HI := Lib.hid (H2.out.1.call (below_step (below_alloc (Below.refl _ _) _) hb))
  have HLB := Lib.hid (blk_below (blk_alloc H2.out.2.1 _) hb)
  have HSZ := Lib.hid (show W2.heap.size < wa.heap.size by have := hb.size; simp at this; omega)
  clear hb q0 q1 q2
  go_wp2_with fail
  refine (HC.out p mb L2 wa HI.out.set).mono ?_
  rintro e wb ⟨rfl, hcre⟩
  obtain ⟨g2, hM⟩ := ar_cre HI.out (.inr rfl) (by decide) hcre
  have hlen : L2.length = 2 := HI.out.arm.len
  rw [creI_full HI.out.arm.all (.inr rfl), creC_full HI.out.arm.all (.inr rfl), if_neg (by omega), if_neg (by omega), hlen]
  have HM := Lib.hid hM
  have HLEN := Lib.hid hlen
  have hx := hM.keep.blk HX.out (fun ho => by have := H2.out.1.set.own_lt ho; omega)
  have HXB := Lib.hid hx
  have x0 : wb.cell? ⟨W2.heap.size, 0, none⟩ = some (.int .i64 130) := blk_cell hx 0
  have x1 : wb.cell? ⟨W2.heap.size, 1, none⟩ = some (.int .i64 0) := blk_cell hx 1
  have x2 : wb.cell? ⟨W2.heap.size, 2, none⟩ = some (.int .i64 0) := blk_cell hx 2
  have HLC := Lib.hid (hM.keep.blk HLB.out H2.out.2.2.1)
  clear hcre hM hlen hx
  go_wp2_with fail
  refine (set_any p mb 0 _ (2 : Int) (WalkArith.wf_i64 (by omega)) 130 0 0 wb HM.out.set).mono ?_
  rintro e wc ⟨rfl, hT, hk⟩
  have hi : (2 : Int) = (L2.length : Int) := by rw [HLEN.out]; rfl
  rw [setC_i hi, setV_i hi (by decide), if_pos (by decide)]
  simp only [specV, newT]
  have HA := Lib.hid (HM.out.after hi (by decide) hT hk)
  have HNG := Lib.hid (fun ho => (own_snoc (L := L2) (p := p) (mb := mb) (g := g2) (t := newT 1 1 1 10 0 0) (j := gb) ho).elim H2.out.2.2.1 (fun e => by have := HM.out.newa; have := blk_lt HLB.out; omega))
  have HNH := Lib.hid (fun ho => (own_snoc (L := L2) (p := p) (mb := mb) (g := g2) (t := mkT 1 (130, 0, 0)) (j := gb) ho).elim H2.out.2.2.1 (fun e => by have := HM.out.newa; have := blk_lt HLB.out; omega))
  have HLD := Lib.hid (hk.blk HLC.out HNG.out)
  clear hi hT hk x0 x1 x2
  go_wp2
  refine abs_w (AwL w p mb gb [(100, 0, 50), (120, 0, 0), (130, 0, 0)] (L2 ++ [some (g2, mkT 1 (130, 0, 0))])) ⟨HA.out.call (below_alloc (Below.refl _ _) _), blk_alloc HLD.out _, HNH.out, H2.out.2.2.2⟩ ?_
  intro W3 h3
  obtain ⟨L3, hL3⟩ : ∃ L : Slots, L = L2 ++ [some (g2, mkT 1 (130, 0, 0))] := ⟨_, rfl⟩
  rw [← hL3] at h3
  have H3 := Lib.hid h3
  clear h3 hL3 HX HXB HI HLB HSZ HM HLEN HLC HA HNG HNH HLD
  obtain ⟨p1, p2, p3, p4, p5, p6⟩ := aw_plain H3.out.1.arm
  have HPL := Lib.hid (And.intro p1 (And.intro p2 (And.intro p3 (And.intro p4 p5))))
  have HE := Lib.hid (exp_any p mb 0 L3 (H3.out.1.arm.tok (by decide)) 120)
  have HX := Lib.hid (next_any p mb 0 L3 (H3.out.1.arm.tok (by decide)))
  have HX2 := Lib.hid (next_any p mb 120 (fireD L3 120 [0, 1]) p6)
  clear p1 p2 p3 p4 p5 p6
  go_wp2_with fail
  refine (HX.out _ H3.out.1.set).mono ?_
  rintro e w4 ⟨rfl, hb4⟩
  rw [HPL.out.1]
  have HI4 := Lib.hid (H3.out.1.call hb4)
  clear hb4
  go_wp2_with fail
  refine (HE.out _ HI4.out.set).mono ?_
  rintro e w5 ⟨⟨v, rfl, hv⟩, hT5, hk5⟩
  rw [HPL.out.2.1]
  rw [HPL.out.2.2.1] at hv hT5
  have HT5 := Lib.hid (show TS w5 p mb 120 (fireD L3 120 [0, 1]) by have : expC 0 120 = 120 := by decide
                                                                    rwa [this] at hT5)
  have HB5 := Lib.hid (below_keeps HI4.out.low hk5 HI4.out.own)
  obtain ⟨g5, c5, rfl⟩ : ∃ g c, v = .slice (some ⟨g, 0, none⟩) 2 c := by
    rcases hv.2 with ⟨-, h2⟩ | ⟨g, cap, cur, h1, -⟩
    · cases h2
    · exact ⟨g, cap, h1⟩
  have HC5 := Lib.hid (fired_cell hv)
  clear hv hT5 hk5
  go_wp2_with fail
  refine (HX2.out _ HT5.out).mono ?_
  rintro e w6 ⟨rfl, hb6⟩
  rw [HPL.out.2.2.2.2]
  have k0 : w6.cell? ⟨g5, 0, none⟩ = some (.int .i64 0) := pw_cell_below hb6 (HC5.out 0 _ (by rw [HPL.out.2.2.2.1]; rfl))
  have k7 : w6.cell? ⟨g5, 7, none⟩ = some (.int .i64 1) := pw_cell_below hb6 (HC5.out 7 _ (by rw [HPL.out.2.2.2.1]; rfl))
  have HB6 := Lib.hid (below_step HB5.out hb6)
  clear hb6
  go_wp2
  go_ret
  exact ⟨rfl, HB6.out⟩
end
section
set_option linter.unusedVariables false
set_option linter.unusedSimpArgs false
open Go.RowKit Go.Maps Go.Sort Go.Lib Go.Shelf Go.Proofs.YtodgbpggkikbcaaW.PrintWords Go.Proofs.YtodgbpggkikbcaaW.PrintLast Go.Proofs.YtodgbpggkikbcaaW.PrintMore FLib
attribute [local go_sem] below_alloc_T below_drew_T below_drewN_T

/-- A slice of specifications. -/
structure SpecR (W : World) (A : Option Addr) (n : Nat) (S : List Spc) : Prop where
  len : S.length = n
  max : n ≤ maxLen
  cell : ∀ (i : Nat) (s : Spc), S[i]? = some s → ∃ a, A = some a ∧ W.cell? (a.add (i * 3)) = some (.int .i64 s.1) ∧ W.cell? ⟨(a.add (i * 3)).block, (a.add (i * 3)).off + 1, none⟩ = some (.int .i64 s.2.1) ∧ W.cell? ⟨(a.add (i * 3)).block, (a.add (i * 3)).off + 2, none⟩ = some (.int .i64 s.2.2)
theorem SpecR.below {W W' : World} {A : Option Addr} {n : Nat} {S : List Spc} (h : SpecR W A n S) (hb : Below W.heap.size W W') : SpecR W' A n S :=
  ⟨h.len, h.max, fun i s hs => by
    obtain ⟨a, h0, h1, h2, h3⟩ := h.cell i s hs
    exact ⟨a, h0, pw_cell_below hb h1, pw_cell_below hb h2, pw_cell_below hb h3⟩⟩
def okS (S : List Spc) : Prop := S.length ≤ 1000 ∧ ∀ s ∈ S, specOk s.1 s.2.1 s.2.2 = true
structure ArmPost (S : List Spc) (w : World) (e : Ending) (w' : World) : Prop where
  no : ¬ okS S → e = .returned (.tuple #[.pointer none, .bool false]) ∧ Below w.heap.size w w'
  yes : okS S → ∃ p mb L, e = .returned (.tuple #[.pointer (some ⟨p, 0, none⟩), .bool true]) ∧ ArI 0 w p mb S L w'
theorem spec_take {S : List Spc} {k : Nat} {s : Spc} (h : S[k]? = some s) : S.take (k + 1) = S.take k ++ [s] := by rw [List.take_add_one, h]; rfl
theorem TS.own0 {W : World} {p mb : Nat} {clk : Int} {L : Slots} (h : TS W p mb clk L) (i f iv tol : Int) : ∀ j, TOwn p mb (setL L i f iv tol) j → TOwn p mb L j := by
  intro j hj
  unfold setL at hj
  cases ho : at' L i with
  | none => rw [ho] at hj; exact hj
  | some x =>
    obtain ⟨b, t⟩ := x
    rw [ho] at hj
    simp only at hj
    split at hj
    · obtain ⟨n, rfl, hn⟩ := at_some ho
      have hlt := (List.getElem?_eq_some_iff.1 hn).1
      rcases hj with e | e | ⟨i, u, e⟩
      · exact .inl e
      · exact .inr (.inl e)
      · by_cases hi : i = n
        · subst hi
          rw [Int.toNat_natCast, List.getElem?_set_self hlt] at e
          simp only [Option.some.injEq, Prod.mk.injEq] at e
          exact .inr (.inr ⟨i, t, by rw [hn, e.1]⟩)
        · rw [Int.toNat_natCast, List.getElem?_set_ne (Ne.symm hi)] at e
          exact .inr (.inr ⟨i, u, e⟩)
    · exact hj

set_option maxRecDepth 100000 in
set_option maxHeartbeats 2000000 in
theorem armed_any (A : Option Addr) (n cap : Nat) (S : List Spc) (w : World) (h : SpecR w A n S) : Calls Try.prog 9 #[.slice A n cap] w (ArmPost S w) := by
  have HP := Lib.hid (fun w => pulse_any w)
  have HN := Lib.hid (fun w => new_any w)
  have HC := Lib.hid (fun p mb L w h => cre_any p mb 0 L 0 1 1 10 0 0 w h)
  have HSP := Lib.hid h
  have HNO := Lib.hid (fun (hn : ¬ okS S) w' (hb : Below w.heap.size w w') => (⟨fun _ => ⟨rfl, hb⟩, fun hy => absurd hy hn⟩ : ArmPost S w (.returned (.tuple #[.pointer none, .bool false])) w'))
  have hm := h.max
  unfold maxLen at hm
  clear h
  go_enter Try.func9, Try.ntmps9
  go_wp2_with fail
  refine (HN.out _).mono ?_
  rintro e w1 ⟨rfl, hT, hb⟩
  have hlw : ∀ j, TOwn (w.heap.size + 1) w.heap.size [] j → w.heap.size ≤ j := by
    rintro j (e | e | ⟨i, t, e⟩)
    · omega
    · omega
    · simp at e
  have HI1 := Lib.hid (show ArI 0 w (w.heap.size + 1) w.heap.size (S.take 0) [] w1 from ⟨hb, hT, Arm.nil 0, hlw⟩)
  clear hT hb hlw
  obtain ⟨mb, hmb⟩ : ∃ q, w.heap.size = q := ⟨_, rfl⟩
  obtain ⟨p, hp⟩ : ∃ q, w.heap.size + 1 = q := ⟨_, rfl⟩
  rw [hp, hmb] at HI1
  rw [hp]
  clear hmb hp
  go_wp2
  go_loopw [14] (fun i wr => ∃ k : Nat, k ≤ n ∧ i = .int .i64 k ∧ Hid (k ≤ 1000 ∧ (∀ s ∈ S.take k, specOk s.1 s.2.1 s.2.2 = true) ∧ ∃ L, ArI 0 w p mb (S.take k) L wr)) (fun i _ => n - (RowKit.intOf i).toNat)
  case atStart => exact ⟨0, Nat.zero_le _, rfl, Lib.hid ⟨by omega, by simp, [], HI1.out⟩⟩
  case round =>
    obtain ⟨k, hk, rfl, hR⟩ := hrel
    obtain ⟨L, hI⟩ := hR.out.2.2
    have HI := Lib.hid hI
    have HA := Lib.hid hI.arm.all
    have hlen : (L.length : Int) = k := by rw [hI.arm.len, List.length_take, HSP.out.len]; omega
    have HLEN := Lib.hid hlen
    clear hI hlen
    by_cases hlt : k < n
    · have hkl : k < S.length := by rw [HSP.out.len]; exact hlt
      obtain ⟨s, hs⟩ : ∃ s, S[k]? = some s := ⟨_, List.getElem?_eq_getElem hkl⟩
      obtain ⟨a, rfl, c0, c1, c2⟩ := (HSP.out.below HI.out.low).cell k s hs
      have HS := Lib.hid hs
      clear hs hkl
      obtain ⟨f, iv, tol⟩ := s
      simp only at c0 c1 c2
      have HK3 := Lib.hid (spec_take HS.out)
      by_cases h1000 : k < 1000
      · by_cases hok : specOk f iv tol = true
        · go_wp2_with fail
          refine (HP.out _).mono ?_
          rintro e wa ⟨rfl, hb⟩
          have HX := Lib.hid (blk_below (blk_new wr _) hb)
          have HI2 := Lib.hid (HI.out.call (below_step (below_alloc (Below.refl _ _) _) hb))
          have HSZ := Lib.hid (show wr.heap.size < wa.heap.size by have := hb.size; simp at this; omega)
          clear hb c0 c1 c2
          go_wp2_with fail
          refine (HC.out p mb L wa HI2.out.set).mono ?_
          rintro e wb ⟨rfl, hcre⟩
          have hLl : L.length < 1000 := by have := HLEN.out; omega
          obtain ⟨g, hM⟩ := ar_cre HI2.out (.inl rfl) (by rw [← HI2.out.arm.len]; exact hLl) hcre
          rw [creI_full HA.out (.inl rfl), creC_full HA.out (.inl rfl), if_neg (by omega), if_neg (by omega), HLEN.out]
          have HM := Lib.hid hM
          have hx := hM.keep.blk HX.out (fun ho => by have := HI.out.set.own_lt ho; omega)
          have x0 : wb.cell? ⟨wr.heap.size, 0, none⟩ = some (.int .i64 f) := blk_cell hx 0
          have x1 : wb.cell? ⟨wr.heap.size, 1, none⟩ = some (.int .i64 iv) := blk_cell hx 1
          have x2 : wb.cell? ⟨wr.heap.size, 2, none⟩ = some (.int .i64 tol) := blk_cell hx 2
          clear hcre hM hx hLl
          go_wp2_with fail
          refine (set_any p mb 0 _ (k : Int) (wfI (by omega)) f iv tol wb HM.out.set).mono ?_
          rintro e wc ⟨rfl, hT, hk2⟩
          rw [setC_i HLEN.out.symm, setV_i HLEN.out.symm hok, if_pos hok]
          simp only [specV, newT]
          have HA2 := Lib.hid (HM.out.after HLEN.out.symm hok hT hk2)
          have HOK := Lib.hid hok
          clear hT hk2 x0 x1 x2 hok
          go_wp2
          go_roundw
          case rel =>
            refine ⟨k + 1, by omega, by go_num, Lib.hid ⟨by omega, ?_, L ++ [some (g, mkT 0 (f, iv, tol))], ?_⟩⟩
            · rw [HK3.out]
              intro s hs
              rcases List.mem_append.1 hs with hs | hs
              · exact hR.out.2.1 s hs
              · rw [List.mem_singleton.1 hs]; exact HOK.out
            · rw [HK3.out]
              exact HA2.out.call (below_alloc (Below.refl _ _) _)
          case measure => simp [RowKit.intOf]; omega
        · have hok' : specOk f iv tol = false := by simpa using hok
          have HBAD := Lib.hid (HNO.out (fun ho => hok (ho.2 _ (List.mem_of_getElem? HS.out))))
          go_wp2_with fail
          refine (HP.out _).mono ?_
          rintro e wa ⟨rfl, hb⟩
          have HX := Lib.hid (blk_below (blk_new wr _) hb)
          have HI2 := Lib.hid (HI.out.call (below_step (below_alloc (Below.refl _ _) _) hb))
          have HSZ := Lib.hid (show wr.heap.size < wa.heap.size by have := hb.size; simp at this; omega)
          clear hb c0 c1 c2
          go_wp2_with fail
          refine (HC.out p mb L wa HI2.out.set).mono ?_
          rintro e wb ⟨rfl, hcre⟩
          have hLl : L.length < 1000 := by have := HLEN.out; omega
          obtain ⟨g, hM⟩ := ar_cre HI2.out (.inl rfl) (by rw [← HI2.out.arm.len]; exact hLl) hcre
          rw [creI_full HA.out (.inl rfl), creC_full HA.out (.inl rfl), if_neg (by omega), if_neg (by omega), HLEN.out]
          have HM := Lib.hid hM
          have hx := hM.keep.blk HX.out (fun ho => by have := HI.out.set.own_lt ho; omega)
          have x0 : wb.cell? ⟨wr.heap.size, 0, none⟩ = some (.int .i64 f) := blk_cell hx 0
          have x1 : wb.cell? ⟨wr.heap.size, 1, none⟩ = some (.int .i64 iv) := blk_cell hx 1
          have x2 : wb.cell? ⟨wr.heap.size, 2, none⟩ = some (.int .i64 tol) := blk_cell hx 2
          clear hcre hM hx hLl
          go_wp2_with fail
          refine (set_any p mb 0 _ (k : Int) (wfI (by omega)) f iv tol wb HM.out.set).mono ?_
          rintro e wc ⟨rfl, hT, hk2⟩
          rw [setC_i HLEN.out.symm, setV_ib HLEN.out.symm hok', if_neg hok]
          simp only [specV, newT]
          have HB3 := Lib.hid (below_keeps HM.out.low hk2 (fun j hj => (own_snoc hj).elim (HM.out.own j) (fun e => by rw [e]; exact HM.out.new)))
          clear hT hk2 x0 x1 x2 hok hok'
          go_wp2
          go_ret2
          exact HBAD.out _ (below_alloc HB3.out _)
      · have HBAD := Lib.hid (HNO.out (fun ho => by have := ho.1; have := HSP.out.len; omega))
        go_wp2_with fail
        refine (HP.out _).mono ?_
        rintro e wa ⟨rfl, hb⟩
        have HX := Lib.hid (blk_below (blk_new wr _) hb)
        have HI2 := Lib.hid (HI.out.call (below_step (below_alloc (Below.refl _ _) _) hb))
        clear hb c0 c1 c2
        go_wp2_with fail
        refine (HC.out p mb L wa HI2.out.set).mono ?_
        rintro e wb ⟨rfl, hcre⟩
        have hLl : 1000 ≤ L.length := by have := HLEN.out; omega
        have hc18 : creC L 0 1 1 10 0 = 18 := by rw [creC_full HA.out (.inl rfl), if_pos hLl]
        have HT2 := Lib.hid (hcre.no (by rw [hc18]; decide))
        have HL2 := Lib.hid (below_keeps HI2.out.low hcre.keep HI2.out.own)
        rw [creI_full HA.out (.inl rfl), hc18, if_pos hLl]
        have hx := hcre.keep.blk HX.out (fun ho => by have := HI.out.set.own_lt ho; omega)
        have x0 : wb.cell? ⟨wr.heap.size, 0, none⟩ = some (.int .i64 f) := blk_cell hx 0
        have x1 : wb.cell? ⟨wr.heap.size, 1, none⟩ = some (.int .i64 iv) := blk_cell hx 1
        have x2 : wb.cell? ⟨wr.heap.size, 2, none⟩ = some (.int .i64 tol) := blk_cell hx 2
        clear hcre hx hLl hc18
        go_wp2_with fail
        refine (set_any p mb 0 _ 0 (by decide) f iv tol wb HT2.out).mono ?_
        rintro e wc ⟨rfl, hT, hk2⟩
        have HB3 := Lib.hid (below_keeps HL2.out hk2 HI2.out.own)
        obtain ⟨z0, z1, z2, hz⟩ : ∃ z0 z1 z2 : Int, setV L 0 f iv tol = .agg #[.int .i64 z0, .int .i64 z1, .int .i64 z2] := by
          unfold setV
          split
          · cases at' L 0 with
            | none => exact ⟨0, 0, 0, rfl⟩
            | some x => exact ⟨_, _, _, rfl⟩
          · exact ⟨0, 0, 0, rfl⟩
        rw [hz]
        clear hT hk2 x0 x1 x2 hz
        go_wp2
        go_ret2
        exact HBAD.out _ (below_alloc HB3.out _)
    · obtain rfl : k = n := by omega
      have hall : S.take k = S := List.take_of_length_le (by rw [HSP.out.len]; omega)
      have HOK := Lib.hid (show okS S from ⟨by rw [HSP.out.len]; exact hR.out.1, by rw [hall] at hR; exact hR.out.2.1⟩)
      rw [hall] at HI
      clear hall
      go_wp2
      go_ret2
      exact ⟨fun hn => absurd HOK.out hn, fun _ => ⟨p, mb, L, rfl, HI.out⟩⟩
end
end Go.Proofs.Ytodgbpggkikbcaa
