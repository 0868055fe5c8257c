/- A range over a function whose iterator yields N known tuples of values, reading memory between two rounds. -/
import Derived.RangeFuncNested
import Derived.RangeFuncBound
import Derived.RangeFuncCalls
import Derived.RangeFuncLeaves
namespace Go.Proofs.YtoolflmaaooplaaGreat
set_option linter.unusedVariables false
set_option linter.unusedSimpArgs false
open Go.RowKit

/-- The blocks of B lie as they lay. -/
def SameOn (B : Nat → Prop) (W W' : World) : Prop := ∀ b, B b → W'.heap[b]? = W.heap[b]?
theorem SameOn.refl (B : Nat → Prop) (W : World) : SameOn B W W := fun _ _ => rfl
theorem SameOn.trans {B : Nat → Prop} {X Y Z : World} (h : SameOn B X Y) (k : SameOn B Y Z) : SameOn B X Z := fun b h1 => (k b h1).trans (h b h1)
theorem SameOn.below {B : Nat → Prop} {W W' : World} (h : Below W.heap.size W W') (hB : ∀ b, B b → b < W.heap.size) : SameOn B W W' := fun b hb => h.block b (hB b hb)
/-- The iterator's blocks and what has been made since. -/
def ext (B : Nat → Prop) (W1 W2 : World) : Nat → Prop := fun b => B b ∨ (W1.heap.size ≤ b ∧ b < W2.heap.size)

/-- The iterator g yields the tuples 'encs 0 .. encs (N - 1)', if each round leaves 'Rd' true, and the blocks B that the iterator itself has made. -/
def SeqAt (m : Nat) (P : Program) (g : Nat) (ba lb : Array Value) (N : Nat) (encs : Nat → Array Value) (Rd : Nat → World → Prop) (w : World) : Prop :=
  ∀ (l : Nat) (J : (Nat → Prop) → Nat → World → Prop) (Jx : World → Prop) (W : World), Below w.heap.size w W →
    (∀ B k W1, J B k W1 → Rd k W1) →
    (∀ B k W1 W2, J B k W1 → Below W1.heap.size W1 W2 → J (ext B W1 W2) k W2) →
    (∀ B k W1, k < N → J B k W1 → YieldAt Fence.wide (m - 1) P l (encs k) W1 fun e W' =>
      (e = .returned (.bool true) ∧ J B (k + 1) W' ∧ SameOn B W1 W') ∨ (e = .returned (.bool false) ∧ Jx W')) →
    J (fun _ => False) 0 W →
    CallsIn Fence.wide m P g (ba ++ #[.func (.yield l) #[] #[]] ++ lb) W fun e W' => (∃ v, e = .returned v) ∧ ((∃ B, J B N W') ∨ Jx W')

/-- How a round's body is left: it goes on, or it breaks out of the loop. -/
def atPost (B : Nat → Prop) (I : World → Prop) (Ix : Code → World → Prop) (W : World) : Exit → Act → World → Prop
  | .normal, _, W' => SameOn B W W' ∧ I W'
  | .exit id, _, W' => SameOn B W W' ∧ Ix (.exit id) W'
  | .ret, _, W' => SameOn B W W' ∧ Ix .ret W'
  | _, _, _ => False

theorem range_at {P : Program} {m : Nat} {g : Operand} {ps : Array Tmp} {assign body : Code} {Q : Exit → Act → World → Prop} {a : Act} {w : World} (h1 : 1 ≤ m)
    {gf : Nat} {ba lb : Array Value} (hg : a.eval g = .func (.func gf) ba lb) (eg : ∀ args w, (callFunc gf args).run P w = .ok (.enter gf args) w)
    {N : Nat} {encs : Nat → Array Value} {Rd : Nat → World → Prop} (hseq : SeqAt (m - 1) P gf ba lb N encs Rd w) (hps : ∀ k, (encs k).size = ps.size)
    (I : (Nat → Prop) → Nat → World → Prop) (Ix : Code → World → Prop) (hRd : ∀ B k W, I B k W → Rd k W)
    (hI : ∀ B k W r o, I B k W → W.heap[w.heap.size + 1]? = some (.loop r) → I B k (W.putObj (w.heap.size + 1) o))
    (hIx : ∀ c W r o, Ix c W → W.heap[w.heap.size + 1]? = some (.loop r) → Ix c (W.putObj (w.heap.size + 1) o))
    (hext : ∀ B k W1 W2, (∀ b, B b → w.heap.size ≤ b ∧ b < W1.heap.size) → I B k W1 → Below W1.heap.size W1 W2 → I (ext B W1 W2) k W2)
    (h0 : ∀ W, Below w.heap.size w W → w.heap.size + 2 ≤ W.heap.size → I (fun b => b = w.heap.size ∨ b = w.heap.size + 1) 0 W) (a₁ : Nat → Act)
    (hassign : ∀ (k : Nat) (W : World) (K : Act → World → Prop), K (a₁ k) W →
      assign.wpIn (Fence.wide.inRound (w.heap.size + 1)) (m - 1 - 1) P (Exit.then K (fun _ _ _ => False)) { tmps := (ps.zip (encs k)).foldl (fun t (p, v) => t.setIfInBounds p v) a.tmps, defers := [] } W)
    (hbody : ∀ (B : Nat → Prop) (k : Nat) (W : World), (∀ b, B b → w.heap.size ≤ b ∧ b < W.heap.size) → k < N → I B k W → body.wpIn (Fence.wide.inRound (w.heap.size + 1)) (m - 1 - 1) P (atPost B (I B (k + 1)) Ix W) (a₁ k) W)
    (hdone : ∀ (B : Nat → Prop) (W : World), I B N W → W.heap[w.heap.size]? = some (.deferred (some [])) → Q .normal { a with defers := { target := .collected w.heap.size, args := #[] } :: a.defers } W)
    (hstop : ∀ (c : Code) (W : World), Ix c W → W.heap[w.heap.size]? = some (.deferred (some [])) → c.wpIn Fence.wide m P Q { a with defers := { target := .collected w.heap.size, args := #[] } :: a.defers } W) :
    (Code.rangeFunc g ps assign body).wpIn Fence.wide m P Q a w := by
  refine wpIn_rangeFunc fun fn hfn => ?_
  obtain ⟨rec, hrec⟩ : ∃ rec : LoopState → Option Code → Loop, rec = fun st pe => { state := st, pending := pe, fn, tmps := a.tmps, params := ps, assign, body, defers := w.heap.size } := ⟨_, rfl⟩
  have hB1 : Below w.heap.size w ((w.alloc (.deferred (some []))).alloc (.loop (rec .ready none))) := ((Below.refl _ w).alloc (Nat.le_refl _) _).alloc (by simp) _
  have hL1 : ((w.alloc (.deferred (some []))).alloc (.loop (rec .ready none))).heap[w.heap.size + 1]? = some (.loop (rec .ready none)) := by
    have := World.alloc_heap_new (w.alloc (.deferred (some []))) (.loop (rec .ready none))
    rwa [World.size_alloc] at this
  have hK1 : ((w.alloc (.deferred (some []))).alloc (.loop (rec .ready none))).heap[w.heap.size]? = some (.deferred (some [])) :=
    (Below.heap_alloc _ _ _ (by simp)).trans (World.alloc_heap_new w _)
  have hz1 : ((w.alloc (.deferred (some []))).alloc (.loop (rec .ready none))).heap.size = w.heap.size + 2 := by simp
  have hrun := run_enterLoop_outer (P := P) (w := w) fn a.tmps ps assign body
  rw [show ({ state := .ready, pending := none, fn := fn, tmps := a.tmps, params := ps, assign := assign, body := body, defers := w.heap.size } : Loop) = rec .ready none by rw [hrec]] at hrun
  generalize (w.alloc (.deferred (some []))).alloc (.loop (rec .ready none)) = W1 at hB1 hL1 hK1 hz1 hrun
  refine ⟨_, _, W1, { target := .fn (.func gf) lb, args := ba ++ #[.func (.yield (w.heap.size + 1)) #[] #[]] }, W1, gf, ba ++ #[.func (.yield (w.heap.size + 1)) #[] #[]] ++ lb, W1, hrun, ?_, fun _ _ => trivial, ?_, fun _ => h1, ?_⟩
  · simp only [resolve, hg]
    simp [go_sem]
  · simp [invoke, go_sem, eg]
  refine (hseq (w.heap.size + 1)
    (fun B k W => I (fun b => (b = w.heap.size ∨ b = w.heap.size + 1) ∨ B b) k W ∧ (∀ b, B b → w.heap.size + 2 ≤ b ∧ b < W.heap.size) ∧ W.heap[w.heap.size + 1]? = some (.loop (rec .ready none)) ∧ W.heap[w.heap.size]? = some (.deferred (some [])))
    (fun W => ∃ c, Ix c W ∧ W.heap[w.heap.size + 1]? = some (.loop (rec .done (some c))) ∧ W.heap[w.heap.size]? = some (.deferred (some [])))
    W1 hB1 (fun B k W h => hRd _ k W h.1) ?_ ?_ ?_).mono ?_
  · rintro B k Wa Wb ⟨hi0, hh2, hl, hd⟩ hb
    have hz := hb.size
    have hlt : w.heap.size + 1 < Wa.heap.size := (Array.getElem?_eq_some_iff.1 hl).1
    refine ⟨?_, fun b hb' => ?_, (hb.block _ hlt).trans hl, (hb.block _ (by omega)).trans hd⟩
    · have e : ext (fun b => (b = w.heap.size ∨ b = w.heap.size + 1) ∨ B b) Wa Wb = fun b => (b = w.heap.size ∨ b = w.heap.size + 1) ∨ ext B Wa Wb b := by
        funext b; exact propext or_assoc
      rw [← e]
      refine hext _ _ _ _ (fun b hb' => ?_) hi0 hb
      rcases hb' with (rfl | rfl) | hb'
      · omega
      · omega
      · have := hh2 b hb'; omega
    · rcases hb' with hb' | hb'
      · have := hh2 b hb'; omega
      · omega
  · rintro B k W hk ⟨hi0, hh2, hl, hd⟩
    have hlt : w.heap.size + 1 < W.heap.size := (Array.getElem?_eq_some_iff.1 hl).1
    have hy := run_yield (P := P) (args := encs k) hl (by rw [hrec]; exact hps k)
    rw [hrec] at hy
    refine ⟨fn, _, assign, body, hy, roundIn_of_wpIn hfn (hassign k W _ ⟨_, run_beginRound hl (by rw [hrec]), ?_⟩)⟩
    have hl2 := World.putObj_heap_same (w := W) (o := .loop { rec .ready none with state := .busy }) hlt
    have hd2 : (W.putObj (w.heap.size + 1) (.loop { rec .ready none with state := .busy })).heap[w.heap.size]? = some (.deferred (some [])) := (World.putObj_heap_other (by omega)).trans hd
    have hzp : (W.putObj (w.heap.size + 1) (.loop { rec .ready none with state := .busy })).heap.size = W.heap.size := by simp [World.putObj]
    refine wpIn_mono (hbody _ k _ (fun b hb => by
      rw [hzp]
      rcases hb with (rfl | rfl) | hb
      · omega
      · omega
      · have := hh2 b hb; omega) hk (hI _ k W _ _ hi0 hl)) ?_
    have fin : ∀ (jump : Option Code) (W3 : World), SameOn (fun b => (b = w.heap.size ∨ b = w.heap.size + 1) ∨ B b) (W.putObj (w.heap.size + 1) (.loop { rec .ready none with state := .busy })) W3 →
        (Instr.endRound (w.heap.size + 1) jump).run P W3 = .ok (.bool jump.isNone) (W3.putObj (w.heap.size + 1) (.loop (rec (if jump.isNone then .ready else .done) jump))) ∧
        W3.heap[w.heap.size + 1]? = some (.loop { rec .ready none with state := .busy }) ∧
        (W3.putObj (w.heap.size + 1) (.loop (rec (if jump.isNone then .ready else .done) jump))).heap[w.heap.size + 1]? = some (.loop (rec (if jump.isNone then .ready else .done) jump)) ∧
        (W3.putObj (w.heap.size + 1) (.loop (rec (if jump.isNone then .ready else .done) jump))).heap[w.heap.size]? = some (.deferred (some [])) := fun jump W3 hk3 => by
      have hl3 := (hk3 (w.heap.size + 1) (.inl (.inr rfl))).trans hl2
      have hd3 := (hk3 w.heap.size (.inl (.inl rfl))).trans hd2
      have he := run_endRound (P := P) jump hl3
      rw [hrec] at he ⊢
      exact ⟨he, by rw [hrec] at hl3; exact hl3, World.putObj_heap_same (Array.getElem?_eq_some_iff.1 hl3).1, (World.putObj_heap_other (by omega)).trans hd3⟩
    rintro e a3 W3 hp
    cases e with
    | normal =>
      obtain ⟨hk3, hi3⟩ := hp
      obtain ⟨hr, hl3, hl4, hd4⟩ := fin none W3 hk3
      have same : ∀ b, B b → (W3.putObj (w.heap.size + 1) (.loop (rec (if (none : Option Code).isNone then .ready else .done) none))).heap[b]? = W.heap[b]? := fun b hb => by
        have h2 := hh2 b hb
        rw [World.putObj_heap_other (by omega), hk3 b (.inr hb), World.putObj_heap_other (by omega)]
      refine ⟨_, _, hr, .inl ⟨rfl, ⟨hI _ _ _ _ _ hi3 hl3, fun b hb => ⟨(hh2 b hb).1, ?_⟩, hl4, hd4⟩, same⟩⟩
      have h4 := same b hb
      rw [Array.getElem?_eq_getElem (hh2 b hb).2] at h4
      exact (Array.getElem?_eq_some_iff.1 h4).1
    | exit id =>
      obtain ⟨hk3, hi3⟩ := hp
      obtain ⟨hr, hl3, hl4, hd4⟩ := fin (some (.exit id)) W3 hk3
      exact ⟨_, _, hr, .inr ⟨rfl, .exit id, hIx _ _ _ _ hi3 hl3, hl4, hd4⟩⟩
    | ret =>
      obtain ⟨hk3, hi3⟩ := hp
      obtain ⟨hr, hl3, hl4, hd4⟩ := fin (some .ret) W3 hk3
      exact ⟨_, _, hr, .inr ⟨rfl, .ret, hIx _ _ _ _ hi3 hl3, hl4, hd4⟩⟩
    | goto t => exact hp.elim
    | panic ch => exact hp.elim
    | outgrown => exact hp.elim
  · refine ⟨?_, fun b hb => hb.elim, hL1, hK1⟩
    have e : (fun b => (b = w.heap.size ∨ b = w.heap.size + 1) ∨ False) = fun b => b = w.heap.size ∨ b = w.heap.size + 1 := by
      funext b; exact or_false _
    rw [e]
    exact h0 W1 hB1 (by omega)
  · rintro e W2 ⟨⟨v, rfl⟩, (⟨B, hi0, hh2, hl, hd⟩ | ⟨c, hi0, hl, hd⟩)⟩
    · have he := run_endLoop (P := P) hl (by rw [hrec]; simp)
      rw [hrec] at he hl
      exact ⟨none, _, he, hdone _ _ (hI _ _ _ _ _ hi0 hl) ((World.putObj_heap_other (by omega)).trans hd)⟩
    · have he := run_endLoop (P := P) hl (by rw [hrec]; simp)
      rw [hrec] at he hl
      exact ⟨some c, _, he, hstop c _ (hIx _ _ _ _ hi0 hl) ((World.putObj_heap_other (by omega)).trans hd)⟩

/-- The like where the statement that takes a round's values makes memory. -/
theorem range_al {P : Program} {m : Nat} {g : Operand} {ps : Array Tmp} {assign body : Code} {Q : Exit → Act → World → Prop} {a : Act} {w : World} (h1 : 1 ≤ m)
    {gf : Nat} {ba lb : Array Value} (hg : a.eval g = .func (.func gf) ba lb) (eg : ∀ args w, (callFunc gf args).run P w = .ok (.enter gf args) w)
    {N : Nat} {encs : Nat → Array Value} {Rd : Nat → World → Prop} (hseq : SeqAt (m - 1) P gf ba lb N encs Rd w) (hps : ∀ k, (encs k).size = ps.size)
    (I : (Nat → Prop) → Nat → World → Prop) (Ix : Code → World → Prop) (hRd : ∀ B k W, I B k W → Rd k W)
    (hI : ∀ B k W r o, I B k W → W.heap[w.heap.size + 1]? = some (.loop r) → I B k (W.putObj (w.heap.size + 1) o))
    (hIx : ∀ c W r o, Ix c W → W.heap[w.heap.size + 1]? = some (.loop r) → Ix c (W.putObj (w.heap.size + 1) o))
    (hext : ∀ B k W1 W2, (∀ b, B b → w.heap.size ≤ b ∧ b < W1.heap.size) → I B k W1 → Below W1.heap.size W1 W2 → I (ext B W1 W2) k W2)
    (h0 : ∀ W, Below w.heap.size w W → w.heap.size + 2 ≤ W.heap.size → I (fun b => b = w.heap.size ∨ b = w.heap.size + 1) 0 W) (Fa : Nat → Act → World → Prop)
    (hFa : ∀ k a W r o, Fa k a W → W.heap[w.heap.size + 1]? = some (.loop r) → Fa k a (W.putObj (w.heap.size + 1) o))
    (hmono : ∀ (B B' : Nat → Prop) k W, I B k W → (∀ b, B' b → B b) → B' w.heap.size → B' (w.heap.size + 1) → I B' k W)
    (hassign : ∀ (k : Nat) (W : World) (K : Act → World → Prop), k < N → w.heap.size + 2 ≤ W.heap.size → (∀ a W2, Below W.heap.size W W2 → Fa k a W2 → K a W2) →
      assign.wpIn (Fence.wide.inRound (w.heap.size + 1)) (m - 1 - 1) P (Exit.then K (fun _ _ _ => False)) { tmps := (ps.zip (encs k)).foldl (fun t (p, v) => t.setIfInBounds p v) a.tmps, defers := [] } W)
    (hbody : ∀ (B : Nat → Prop) (k : Nat) (W : World) (a₁ : Act), (∀ b, B b → w.heap.size ≤ b ∧ b < W.heap.size) → k < N → I B k W → Fa k a₁ W → body.wpIn (Fence.wide.inRound (w.heap.size + 1)) (m - 1 - 1) P (atPost B (I B (k + 1)) Ix W) a₁ W)
    (hdone : ∀ (B : Nat → Prop) (W : World), I B N W → W.heap[w.heap.size]? = some (.deferred (some [])) → Q .normal { a with defers := { target := .collected w.heap.size, args := #[] } :: a.defers } W)
    (hstop : ∀ (c : Code) (W : World), Ix c W → W.heap[w.heap.size]? = some (.deferred (some [])) → c.wpIn Fence.wide m P Q { a with defers := { target := .collected w.heap.size, args := #[] } :: a.defers } W) :
    (Code.rangeFunc g ps assign body).wpIn Fence.wide m P Q a w := by
  refine wpIn_rangeFunc fun fn hfn => ?_
  obtain ⟨rec, hrec⟩ : ∃ rec : LoopState → Option Code → Loop, rec = fun st pe => { state := st, pending := pe, fn, tmps := a.tmps, params := ps, assign, body, defers := w.heap.size } := ⟨_, rfl⟩
  have hB1 : Below w.heap.size w ((w.alloc (.deferred (some []))).alloc (.loop (rec .ready none))) := ((Below.refl _ w).alloc (Nat.le_refl _) _).alloc (by simp) _
  have hL1 : ((w.alloc (.deferred (some []))).alloc (.loop (rec .ready none))).heap[w.heap.size + 1]? = some (.loop (rec .ready none)) := by
    have := World.alloc_heap_new (w.alloc (.deferred (some []))) (.loop (rec .ready none))
    rwa [World.size_alloc] at this
  have hK1 : ((w.alloc (.deferred (some []))).alloc (.loop (rec .ready none))).heap[w.heap.size]? = some (.deferred (some [])) :=
    (Below.heap_alloc _ _ _ (by simp)).trans (World.alloc_heap_new w _)
  have hz1 : ((w.alloc (.deferred (some []))).alloc (.loop (rec .ready none))).heap.size = w.heap.size + 2 := by simp
  have hrun := run_enterLoop_outer (P := P) (w := w) fn a.tmps ps assign body
  rw [show ({ state := .ready, pending := none, fn := fn, tmps := a.tmps, params := ps, assign := assign, body := body, defers := w.heap.size } : Loop) = rec .ready none by rw [hrec]] at hrun
  generalize (w.alloc (.deferred (some []))).alloc (.loop (rec .ready none)) = W1 at hB1 hL1 hK1 hz1 hrun
  refine ⟨_, _, W1, { target := .fn (.func gf) lb, args := ba ++ #[.func (.yield (w.heap.size + 1)) #[] #[]] }, W1, gf, ba ++ #[.func (.yield (w.heap.size + 1)) #[] #[]] ++ lb, W1, hrun, ?_, fun _ _ => trivial, ?_, fun _ => h1, ?_⟩
  · simp only [resolve, hg]
    simp [go_sem]
  · simp [invoke, go_sem, eg]
  refine (hseq (w.heap.size + 1)
    (fun B k W => I (fun b => (b = w.heap.size ∨ b = w.heap.size + 1) ∨ B b) k W ∧ (∀ b, B b → w.heap.size + 2 ≤ b ∧ b < W.heap.size) ∧ W.heap[w.heap.size + 1]? = some (.loop (rec .ready none)) ∧ W.heap[w.heap.size]? = some (.deferred (some [])))
    (fun W => ∃ c, Ix c W ∧ W.heap[w.heap.size + 1]? = some (.loop (rec .done (some c))) ∧ W.heap[w.heap.size]? = some (.deferred (some [])))
    W1 hB1 (fun B k W h => hRd _ k W h.1) ?_ ?_ ?_).mono ?_
  · rintro B k Wa Wb ⟨hi0, hh2, hl, hd⟩ hb
    have hz := hb.size
    have hlt : w.heap.size + 1 < Wa.heap.size := (Array.getElem?_eq_some_iff.1 hl).1
    refine ⟨?_, fun b hb' => ?_, (hb.block _ hlt).trans hl, (hb.block _ (by omega)).trans hd⟩
    · have e : ext (fun b => (b = w.heap.size ∨ b = w.heap.size + 1) ∨ B b) Wa Wb = fun b => (b = w.heap.size ∨ b = w.heap.size + 1) ∨ ext B Wa Wb b := by
        funext b; exact propext or_assoc
      rw [← e]
      refine hext _ _ _ _ (fun b hb' => ?_) hi0 hb
      rcases hb' with (rfl | rfl) | hb'
      · omega
      · omega
      · have := hh2 b hb'; omega
    · rcases hb' with hb' | hb'
      · have := hh2 b hb'; omega
      · omega
  · rintro B k Wz hk ⟨hi0, hh2, hl, hd⟩
    have hy := run_yield (P := P) (args := encs k) hl (by rw [hrec]; exact hps k)
    rw [hrec] at hy
    refine ⟨fn, _, assign, body, hy, roundIn_of_wpIn hfn (hassign k Wz _ hk (by have h9 := (Array.getElem?_eq_some_iff.1 hl).1; omega) fun a₁ W hbz hfa => ?_)⟩
    have hltz : w.heap.size + 1 < Wz.heap.size := (Array.getElem?_eq_some_iff.1 hl).1
    have hzz := hbz.size
    have hl := (hbz.block _ hltz).trans hl
    have hd := (hbz.block _ (by omega)).trans hd
    have hlt : w.heap.size + 1 < W.heap.size := (Array.getElem?_eq_some_iff.1 hl).1
    have hi0 := hext _ _ _ _ (fun b hb => by
      rcases hb with (rfl | rfl) | hb
      · omega
      · omega
      · have := hh2 b hb; omega) hi0 hbz
    have hE : ∀ b, ext (fun b => (b = w.heap.size ∨ b = w.heap.size + 1) ∨ B b) Wz W b → w.heap.size ≤ b ∧ b < W.heap.size := fun b hb => by
      rcases hb with ((rfl | rfl) | hb) | hb
      · omega
      · omega
      · have := hh2 b hb; omega
      · omega
    refine ⟨_, run_beginRound hl (by rw [hrec]), ?_⟩
    have hl2 := World.putObj_heap_same (w := W) (o := .loop { rec .ready none with state := .busy }) hlt
    have hd2 : (W.putObj (w.heap.size + 1) (.loop { rec .ready none with state := .busy })).heap[w.heap.size]? = some (.deferred (some [])) := (World.putObj_heap_other (by omega)).trans hd
    have hzp : (W.putObj (w.heap.size + 1) (.loop { rec .ready none with state := .busy })).heap.size = W.heap.size := by simp [World.putObj]
    refine wpIn_mono (hbody _ k _ a₁ (fun b hb => by rw [hzp]; exact hE b hb) hk (hI _ k W _ _ hi0 hl) (hFa _ _ _ _ _ hfa hl)) ?_
    have fin : ∀ (jump : Option Code) (W3 : World), SameOn (ext (fun b => (b = w.heap.size ∨ b = w.heap.size + 1) ∨ B b) Wz W) (W.putObj (w.heap.size + 1) (.loop { rec .ready none with state := .busy })) W3 →
        (Instr.endRound (w.heap.size + 1) jump).run P W3 = .ok (.bool jump.isNone) (W3.putObj (w.heap.size + 1) (.loop (rec (if jump.isNone then .ready else .done) jump))) ∧
        W3.heap[w.heap.size + 1]? = some (.loop { rec .ready none with state := .busy }) ∧
        (W3.putObj (w.heap.size + 1) (.loop (rec (if jump.isNone then .ready else .done) jump))).heap[w.heap.size + 1]? = some (.loop (rec (if jump.isNone then .ready else .done) jump)) ∧
        (W3.putObj (w.heap.size + 1) (.loop (rec (if jump.isNone then .ready else .done) jump))).heap[w.heap.size]? = some (.deferred (some [])) := fun jump W3 hk3 => by
      have hl3 := (hk3 (w.heap.size + 1) (.inl (.inl (.inr rfl)))).trans hl2
      have hd3 := (hk3 w.heap.size (.inl (.inl (.inl rfl)))).trans hd2
      have he := run_endRound (P := P) jump hl3
      rw [hrec] at he ⊢
      exact ⟨he, by rw [hrec] at hl3; exact hl3, World.putObj_heap_same (Array.getElem?_eq_some_iff.1 hl3).1, (World.putObj_heap_other (by omega)).trans hd3⟩
    rintro e a3 W3 hp
    cases e with
    | normal =>
      obtain ⟨hk3, hi3⟩ := hp
      obtain ⟨hr, hl3, hl4, hd4⟩ := fin none W3 hk3
      have same : ∀ b, B b → (W3.putObj (w.heap.size + 1) (.loop (rec (if (none : Option Code).isNone then .ready else .done) none))).heap[b]? = Wz.heap[b]? := fun b hb => by
        have h2 := hh2 b hb
        rw [World.putObj_heap_other (by omega), hk3 b (.inl (.inr hb)), World.putObj_heap_other (by omega), hbz.block b h2.2]
      refine ⟨_, _, hr, .inl ⟨rfl, ⟨hI _ _ _ _ _ (hmono _ _ _ _ hi3 (fun b hb => .inl hb) (.inl (.inl rfl)) (.inl (.inr rfl))) hl3, fun b hb => ⟨(hh2 b hb).1, ?_⟩, hl4, hd4⟩, same⟩⟩
      have h4 := same b hb
      rw [Array.getElem?_eq_getElem (hh2 b hb).2] at h4
      exact (Array.getElem?_eq_some_iff.1 h4).1
    | exit id =>
      obtain ⟨hk3, hi3⟩ := hp
      obtain ⟨hr, hl3, hl4, hd4⟩ := fin (some (.exit id)) W3 hk3
      exact ⟨_, _, hr, .inr ⟨rfl, .exit id, hIx _ _ _ _ hi3 hl3, hl4, hd4⟩⟩
    | ret =>
      obtain ⟨hk3, hi3⟩ := hp
      obtain ⟨hr, hl3, hl4, hd4⟩ := fin (some .ret) W3 hk3
      exact ⟨_, _, hr, .inr ⟨rfl, .ret, hIx _ _ _ _ hi3 hl3, hl4, hd4⟩⟩
    | goto t => exact hp.elim
    | panic ch => exact hp.elim
    | outgrown => exact hp.elim
  · refine ⟨?_, fun b hb => hb.elim, hL1, hK1⟩
    have e : (fun b => (b = w.heap.size ∨ b = w.heap.size + 1) ∨ False) = fun b => b = w.heap.size ∨ b = w.heap.size + 1 := by
      funext b; exact or_false _
    rw [e]
    exact h0 W1 hB1 (by omega)
  · rintro e W2 ⟨⟨v, rfl⟩, (⟨B, hi0, hh2, hl, hd⟩ | ⟨c, hi0, hl, hd⟩)⟩
    · have he := run_endLoop (P := P) hl (by rw [hrec]; simp)
      rw [hrec] at he hl
      exact ⟨none, _, he, hdone _ _ (hI _ _ _ _ _ hi0 hl) ((World.putObj_heap_other (by omega)).trans hd)⟩
    · have he := run_endLoop (P := P) hl (by rw [hrec]; simp)
      rw [hrec] at he hl
      exact ⟨some c, _, he, hstop c _ (hIx _ _ _ _ hi0 hl) ((World.putObj_heap_other (by omega)).trans hd)⟩
end Go.Proofs.YtoolflmaaooplaaGreat
