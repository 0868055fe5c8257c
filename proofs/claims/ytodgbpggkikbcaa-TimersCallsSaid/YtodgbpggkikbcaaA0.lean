/- A range over a function whose iterator yields N known tuples of values, reading memory between two rounds. -/
import Derived.RangeFuncNested
import Derived.RangeFuncBound
import Derived.RangeFuncCalls
import Derived.RangeFuncLeaves
namespace Go.Proofs.Ytodgbpggkikbcaa
set_option linter.unusedVariables false
set_option linter.unusedSimpArgs false
open Go.RowKit

/-- The blocks from lo to hi lie as they lay. -/
def SameIn (lo hi : Nat) (W W' : World) : Prop := ∀ b, lo ≤ b → b < hi → W'.heap[b]? = W.heap[b]?
theorem SameIn.refl (lo hi : Nat) (W : World) : SameIn lo hi W W := fun _ _ _ => rfl
theorem SameIn.trans {lo hi : Nat} {A B C : World} (h : SameIn lo hi A B) (k : SameIn lo hi B C) : SameIn lo hi A C := fun b h1 h2 => (k b h1 h2).trans (h b h1 h2)
theorem SameIn.put {lo hi l : Nat} (W : World) (o : Obj) (h : l < lo) : SameIn lo hi W (W.putObj l o) := fun b h1 _ => World.putObj_heap_other (by omega)

/-- The iterator g yields the tuples 'encs 0 .. encs (N - 1)', if each round leaves 'Rd' true, and what the iterator itself has laid. -/
def SeqAt (m : Nat) (P : Program) (g : Nat) (ba lb : Array Value) (N : Nat) (encs : Nat → Array Value) (Rd : Nat → World → Prop) (w : World) : Prop :=
  ∀ (l : Nat) (J : Nat → Nat → World → Prop) (Jx : World → Prop) (W : World), Below w.heap.size w W →
    (∀ hi k W1, J hi k W1 → Rd k W1) →
    (∀ hi k W1, W.heap.size ≤ hi → k < N → J hi k W1 → YieldAt Fence.wide (m - 1) P l (encs k) W1 fun e W' =>
      (e = .returned (.bool true) ∧ J hi (k + 1) W' ∧ SameIn W.heap.size hi W1 W') ∨ (e = .returned (.bool false) ∧ Jx W')) →
    (∀ W2, Below W.heap.size W W2 → J W2.heap.size 0 W2) →
    CallsIn Fence.wide m P g (ba ++ #[.func (.yield l) #[] #[]] ++ lb) W fun e W' => (∃ v, e = .returned v) ∧ ((∃ hi, J hi N W') ∨ Jx W')

/-- How a round's body is left: it goes on, or it breaks out of the loop. -/
def atPost (lo hi : Nat) (I : World → Prop) (Ix : Code → World → Prop) (W : World) : Exit → Act → World → Prop
  | .normal, _, W' => SameIn lo hi W W' ∧ I W'
  | .exit id, _, W' => SameIn lo hi W W' ∧ Ix (.exit id) W'
  | _, _, _ => False

theorem range_at {P : Program} {m : Nat} {g : Operand} {ps : Array Tmp} {assign body : Code} {Q : Exit → Act → World → Prop} {a : Act} {w : World} (h1 : 1 ≤ m)
    {gf : Nat} {ba lb : Array Value} (hg : a.eval g = .func (.func gf) ba lb) (eg : ∀ args w, (callFunc gf args).run P w = .ok (.enter gf args) w)
    {N : Nat} {encs : Nat → Array Value} {Rd : Nat → World → Prop} (hseq : SeqAt (m - 1) P gf ba lb N encs Rd w) (hps : ∀ k, (encs k).size = ps.size)
    (I : Nat → Nat → World → Prop) (Ix : Code → World → Prop) (hRd : ∀ hi k W, I hi k W → Rd k W)
    (hI : ∀ hi k W r o, w.heap.size + 1 < hi → I hi k W → W.heap[w.heap.size + 1]? = some (.loop r) → I hi k (W.putObj (w.heap.size + 1) o))
    (hIx : ∀ c W r o, Ix c W → W.heap[w.heap.size + 1]? = some (.loop r) → Ix c (W.putObj (w.heap.size + 1) o))
    (h0 : ∀ W, Below w.heap.size w W → w.heap.size + 2 ≤ W.heap.size → I W.heap.size 0 W) (a₁ : Nat → Act)
    (hassign : ∀ (k : Nat) (W : World) (K : Act → World → Prop), K (a₁ k) W →
      assign.wpIn (Fence.wide.inRound (w.heap.size + 1)) (m - 1 - 1) P (Exit.then K (fun _ _ _ => False)) { tmps := (ps.zip (encs k)).foldl (fun t (p, v) => t.setIfInBounds p v) a.tmps, defers := [] } W)
    (hbody : ∀ (hi k : Nat) (W : World), w.heap.size + 1 < hi → k < N → I hi k W → body.wpIn (Fence.wide.inRound (w.heap.size + 1)) (m - 1 - 1) P (atPost w.heap.size hi (I hi (k + 1)) Ix W) (a₁ k) W)
    (hdone : ∀ (hi : Nat) (W : World), I hi N W → W.heap[w.heap.size]? = some (.deferred (some [])) → Q .normal { a with defers := { target := .collected w.heap.size, args := #[] } :: a.defers } W)
    (hstop : ∀ (c : Code) (W : World), Ix c W → W.heap[w.heap.size]? = some (.deferred (some [])) → c.wpIn Fence.wide m P Q { a with defers := { target := .collected w.heap.size, args := #[] } :: a.defers } W) :
    (Code.rangeFunc g ps assign body).wpIn Fence.wide m P Q a w := by
  refine wpIn_rangeFunc fun fn hfn => ?_
  obtain ⟨rec, hrec⟩ : ∃ rec : LoopState → Option Code → Loop, rec = fun st pe => { state := st, pending := pe, fn, tmps := a.tmps, params := ps, assign, body, defers := w.heap.size } := ⟨_, rfl⟩
  have hB1 : Below w.heap.size w ((w.alloc (.deferred (some []))).alloc (.loop (rec .ready none))) := ((Below.refl _ w).alloc (Nat.le_refl _) _).alloc (by simp) _
  have hL1 : ((w.alloc (.deferred (some []))).alloc (.loop (rec .ready none))).heap[w.heap.size + 1]? = some (.loop (rec .ready none)) := by
    have := World.alloc_heap_new (w.alloc (.deferred (some []))) (.loop (rec .ready none))
    rwa [World.size_alloc] at this
  have hK1 : ((w.alloc (.deferred (some []))).alloc (.loop (rec .ready none))).heap[w.heap.size]? = some (.deferred (some [])) :=
    (Below.heap_alloc _ _ _ (by simp)).trans (World.alloc_heap_new w _)
  have hz1 : ((w.alloc (.deferred (some []))).alloc (.loop (rec .ready none))).heap.size = w.heap.size + 2 := by simp
  have hrun := run_enterLoop_outer (P := P) (w := w) fn a.tmps ps assign body
  rw [show ({ state := .ready, pending := none, fn := fn, tmps := a.tmps, params := ps, assign := assign, body := body, defers := w.heap.size } : Loop) = rec .ready none by rw [hrec]] at hrun
  generalize (w.alloc (.deferred (some []))).alloc (.loop (rec .ready none)) = W1 at hB1 hL1 hK1 hz1 hrun
  refine ⟨_, _, W1, { target := .fn (.func gf) lb, args := ba ++ #[.func (.yield (w.heap.size + 1)) #[] #[]] }, W1, gf, ba ++ #[.func (.yield (w.heap.size + 1)) #[] #[]] ++ lb, W1, hrun, ?_, fun _ _ => trivial, ?_, fun _ => h1, ?_⟩
  · simp only [resolve, hg]
    simp [go_sem]
  · simp [invoke, go_sem, eg]
  refine (hseq (w.heap.size + 1)
    (fun hi k W => I hi k W ∧ w.heap.size + 2 ≤ hi ∧ W.heap[w.heap.size + 1]? = some (.loop (rec .ready none)) ∧ W.heap[w.heap.size]? = some (.deferred (some [])))
    (fun W => ∃ c, Ix c W ∧ W.heap[w.heap.size + 1]? = some (.loop (rec .done (some c))) ∧ W.heap[w.heap.size]? = some (.deferred (some [])))
    W1 hB1 (fun hi k W h => hRd hi k W h.1) ?_ ?_).mono ?_
  · rintro hi k W hhi hk ⟨hi0, hh2, hl, hd⟩
    have hlt : w.heap.size + 1 < W.heap.size := (Array.getElem?_eq_some_iff.1 hl).1
    have hy := run_yield (P := P) (args := encs k) hl (by rw [hrec]; exact hps k)
    rw [hrec] at hy
    refine ⟨fn, _, assign, body, hy, roundIn_of_wpIn hfn (hassign k W _ ⟨_, run_beginRound hl (by rw [hrec]), ?_⟩)⟩
    have hl2 := World.putObj_heap_same (w := W) (o := .loop { rec .ready none with state := .busy }) hlt
    have hd2 : (W.putObj (w.heap.size + 1) (.loop { rec .ready none with state := .busy })).heap[w.heap.size]? = some (.deferred (some [])) := (World.putObj_heap_other (by omega)).trans hd
    refine wpIn_mono (hbody hi k _ (by omega) hk (hI hi k W _ _ (by omega) hi0 hl)) ?_
    have fin : ∀ (jump : Option Code) (W3 : World), SameIn w.heap.size hi (W.putObj (w.heap.size + 1) (.loop { rec .ready none with state := .busy })) W3 →
        (Instr.endRound (w.heap.size + 1) jump).run P W3 = .ok (.bool jump.isNone) (W3.putObj (w.heap.size + 1) (.loop (rec (if jump.isNone then .ready else .done) jump))) ∧
        W3.heap[w.heap.size + 1]? = some (.loop { rec .ready none with state := .busy }) ∧
        (W3.putObj (w.heap.size + 1) (.loop (rec (if jump.isNone then .ready else .done) jump))).heap[w.heap.size + 1]? = some (.loop (rec (if jump.isNone then .ready else .done) jump)) ∧
        (W3.putObj (w.heap.size + 1) (.loop (rec (if jump.isNone then .ready else .done) jump))).heap[w.heap.size]? = some (.deferred (some [])) := fun jump W3 hk3 => by
      have hl3 := (hk3 (w.heap.size + 1) (by omega) (by omega)).trans hl2
      have hd3 := (hk3 w.heap.size (by omega) (by omega)).trans hd2
      have he := run_endRound (P := P) jump hl3
      rw [hrec] at he ⊢
      exact ⟨he, by rw [hrec] at hl3; exact hl3, World.putObj_heap_same (Array.getElem?_eq_some_iff.1 hl3).1, (World.putObj_heap_other (by omega)).trans hd3⟩
    rintro e a3 W3 hp
    cases e with
    | normal =>
      obtain ⟨hk3, hi3⟩ := hp
      obtain ⟨hr, hl3, hl4, hd4⟩ := fin none W3 hk3
      refine ⟨_, _, hr, .inl ⟨rfl, ⟨hI _ _ _ _ _ (by omega) hi3 hl3, hh2, hl4, hd4⟩, fun b hb1 hb2 => ?_⟩⟩
      rw [World.putObj_heap_other (by omega), hk3 b (by omega) hb2, World.putObj_heap_other (by omega)]
    | exit id =>
      obtain ⟨hk3, hi3⟩ := hp
      obtain ⟨hr, hl3, hl4, hd4⟩ := fin (some (.exit id)) W3 hk3
      exact ⟨_, _, hr, .inr ⟨rfl, .exit id, hIx _ _ _ _ hi3 hl3, hl4, hd4⟩⟩
    | ret => exact hp.elim
    | goto t => exact hp.elim
    | panic ch => exact hp.elim
    | outgrown => exact hp.elim
  · intro W2 hb2
    have hz2 := hb2.size
    exact ⟨h0 W2 (hB1.trans (hb2.mono (by omega))) (by omega), by omega, (hb2.block _ (by omega)).trans hL1, (hb2.block _ (by omega)).trans hK1⟩
  · rintro e W2 ⟨⟨v, rfl⟩, (⟨hi, hi0, hh2, hl, hd⟩ | ⟨c, hi0, hl, hd⟩)⟩
    · have he := run_endLoop (P := P) hl (by rw [hrec]; simp)
      rw [hrec] at he hl
      exact ⟨none, _, he, hdone hi _ (hI _ _ _ _ _ (by omega) hi0 hl) ((World.putObj_heap_other (by omega)).trans hd)⟩
    · have he := run_endLoop (P := P) hl (by rw [hrec]; simp)
      rw [hrec] at he hl
      exact ⟨some c, _, he, hstop c _ (hIx _ _ _ _ hi0 hl) ((World.putObj_heap_other (by omega)).trans hd)⟩
end Go.Proofs.Ytodgbpggkikbcaa
