/- Small general lemmas: appending to a row of the call's own, carried by kinds. -/
import Derived.Test.YtoolflmaaooplaaGreatWWords
import Derived.Deep.AppendLies
import Derived.Lib.Hide
import Derived.StillTailTactics
namespace Go.Proofs.YtoolflmaaooplaaGreatW.PrintLast
end Go.Proofs.YtoolflmaaooplaaGreatW.PrintLast
namespace Go.Proofs.YtoolflmaaooplaaGreatW.PrintMore
end Go.Proofs.YtoolflmaaooplaaGreatW.PrintMore
namespace Go.Proofs.YtoolflmaaooplaaGreat.FLib
set_option linter.unusedVariables false
set_option linter.unusedSimpArgs false
open Go.RowKit Go.Proofs.YtoolflmaaooplaaGreatW.PrintWords Go.Proofs.YtoolflmaaooplaaGreatW.PrintLast Go.Proofs.YtoolflmaaooplaaGreatW.PrintMore

/-- A row that may be appended to: its cells, and how the row reads behind the append of one element more (in whatever world has been reached meanwhile). -/
theorem R_app {α : Type} {d : Kd α} {e base : Nat} {ok : Nat → Prop} {W : World} {v : Value} {xs : List α} (h : d.R e W base ok v xs) (hfresh : ∀ k, W.heap.size ≤ k → ok k) :
    ∃ inner, (∀ W2, Below W.heap.size W W2 → W2.ownsRow base e d.sz v xs.length inner) ∧
      ∀ (W2 w1 : World) (g cap : Nat) (cs : List Value) (p : α) (okp : Nat → Prop), Below W.heap.size W W2 → w1.ownsRow base e d.sz (.slice (some ⟨g, 0, none⟩) (xs.length + 1) cap) (xs.length + 1) (inner ++ cs) → W2.grownBy w1 v.ownBlock → (v.ownBlock = some g ∨ g = W2.heap.size) →
        d.M W2 base okp p cs → (∀ k, okp k → ok k ∧ some k ≠ v.ownBlock) → d.R e w1 base ok (.slice (some ⟨g, 0, none⟩) (xs.length + 1) cap) (xs ++ [p]) := by
  obtain ⟨h0, inner, hown, hr⟩ := h
  refine ⟨inner, fun W2 hb => pw_own_below hown hb, fun W2 w1 g cap cs p okp hb hown1 hg1 hat1 hp hokp => ?_⟩
  refine Kd.R_appended h0 (hr.imp_ fun _ _ hq => Kd.M_below hq hb) hp hokp (fun k hk => hfresh k (Nat.le_trans hb.size hk)) hown1 hg1 ?_
  rcases hat1 with hat | rfl
  · exact .inl hat.symm
  · exact .inr ⟨_, rfl, Nat.le_refl _⟩

theorem below_new2 (w : World) (o o2 : Obj) (n : Nat) : Below w.heap.size w (((w.alloc o).alloc o2).drewN n).drew := below_drew (pw_below_drewN (below_alloc (below_alloc (Below.refl _ _) _) _) _)
theorem below_boxed (w : World) (o : Obj) (n : Nat) : Below w.heap.size w ((w.alloc o).drewN n) := pw_below_drewN (below_alloc (Below.refl _ _) _) _
theorem blk_second (w : World) (o o2 : Obj) (n : Nat) : ((((w.alloc o).alloc o2).drewN n).drew).heap[w.heap.size + 1]? = some o2 := by
  have := heap_alloc_new (w.alloc o) o2
  simpa using this

theorem blk_grow {w W2 w1 : World} {g : Nat} {o : Obj} {row : Option Nat} (h : w.heap[g]? = some o) (hgrow : W2.grownBy w1 row) (hb : Below w.heap.size w W2) (hne : some g ≠ row) : w1.heap[g]? = some o :=
  blk_grown (blk_below h hb) hgrow hne

theorem own_cells {w : World} {base : Nat} {e : TypeId} {size n : Nat} {v : Value} {xs : List Value} (h : w.ownsRow base e size v n xs) : xs.length = n * size := h.1

/-- a block read off a known one -/
theorem cell_blk {w : World} {g : Nat} {t : TypeId} {cs : Array Value} {fr : Nat × Nat} (h : w.heap[g]? = some (.cells cs t fr)) (i : Nat) : w.cell? ⟨g, i, none⟩ = cs[i]? := cell_of_row w g i cs t fr h

theorem blk_oth {w w' : World} {g : Nat} {o : Obj} {row : Option Nat} (h : w.heap[g]? = some o) (hg : w.grownBy w' row) (hne : row ≠ some g) : w'.heap[g]? = some o :=
  blk_grown h hg (Ne.symm hne)

/-- 'wp_region_still_tail' with the draw spelled as the walk spells it. -/
theorem still_tail {P : Program} {id : Nat} {Q : Exit → Act → World → Prop} {a : Act} {w : World} {l : List Oper} (n : Nat) (hm : P.follows .mixedOrders = true) (hB : Region.lexTailB .any l.toArray n = true)
    (h : wpStill P l.toArray w.drew (fun a' => wpList P l.toArray Q (l.drop n) a' w.drew) (l.take n) a) : (Code.region id l.toArray true).wp P Q a w := wp_region_still_tail n hm hB h

/-- Of the world that has been reached only F is carried on. -/
theorem abs_w {P : Program} {c : Code} {Q : Exit → Act → World → Prop} {a : Act} {w : World} (F : World → Prop) (hF : F w) (h : ∀ w2, F w2 → c.wp P Q a w2) : c.wp P Q a w := h w hF

/-- Only the blocks of F (and new ones) have turned. -/
structure Keeps (w w' : World) (F : Nat → Prop) : Prop where
  os : w'.os = w.os
  tape : w'.tape = w.tape
  output : w'.output = w.output
  size : w.heap.size ≤ w'.heap.size
  block : ∀ k, k < w.heap.size → ¬ F k → w'.heap[k]? = w.heap[k]?

theorem Keeps.refl (w : World) (F : Nat → Prop) : Keeps w w F := ⟨rfl, rfl, rfl, Nat.le_refl _, fun _ _ _ => rfl⟩
theorem Keeps.trans {a b c : World} {F G : Nat → Prop} (h : Keeps a b F) (k : Keeps b c G) (hG : ∀ i, G i → F i ∨ a.heap.size ≤ i) : Keeps a c F :=
  ⟨k.os.trans h.os, k.tape.trans h.tape, k.output.trans h.output, Nat.le_trans h.size k.size, fun i hi hF => (k.block i (Nat.lt_of_lt_of_le hi h.size) fun hg => (hG i hg).elim hF (fun h => by omega)).trans (h.block i hi hF)⟩
theorem Keeps.mono {a b : World} {F G : Nat → Prop} (h : Keeps a b F) (hG : ∀ i, F i → G i) : Keeps a b G := ⟨h.os, h.tape, h.output, h.size, fun i hi hg => h.block i hi fun hf => hg (hG i hf)⟩
theorem Keeps.of_below {w w' : World} (h : Below w.heap.size w w') (F : Nat → Prop) : Keeps w w' F := ⟨h.os, h.tape, h.output, h.size, fun i hi _ => h.block i hi⟩
theorem Keeps.below {w w' : World} {F : Nat → Prop} {B : Nat} (h : Keeps w w' F) (hB : B ≤ w.heap.size) (hF : ∀ i, F i → B ≤ i) : Below B w w' :=
  ⟨h.os, h.tape, h.output, h.size, fun i hi => h.block i (by omega) fun hf => by have := hF i hf; omega⟩
theorem Keeps.alloc {a w : World} {F : Nat → Prop} (h : Keeps a w F) (o : Obj) : Keeps a (w.alloc o) F :=
  h.trans (Keeps.of_below ((Below.refl _ w).alloc (Nat.le_refl _) o) (fun _ => False)) (fun _ hf => hf.elim)
theorem Keeps.drewN {a w : World} {F : Nat → Prop} (h : Keeps a w F) (n : Nat) : Keeps a (w.drewN n) F := ⟨h.os, h.tape, h.output, h.size, h.block⟩
theorem Keeps.drew {a w : World} {F : Nat → Prop} (h : Keeps a w F) : Keeps a w.drew F := ⟨h.os, h.tape, h.output, h.size, h.block⟩
theorem Keeps.grown {a w w' : World} {F : Nat → Prop} {row : Option Nat} (h : Keeps a w F) (hg : w.grownBy w' row) (hr : ∀ k, row = some k → F k ∨ a.heap.size ≤ k) : Keeps a w' F :=
  h.trans (G := fun k => some k = row) ⟨hg.os, hg.tape, hg.output, hg.size, hg.block⟩ (fun i hi => hr i hi.symm)
theorem Keeps.set {a w : World} {F : Nat → Prop} (h : Keeps a w F) (p : Addr) (u : Value) (hp : F p.block ∨ a.heap.size ≤ p.block) : Keeps a (w.setCell p u) F :=
  h.trans (G := fun k => k = p.block) ⟨rfl, rfl, rfl, by simp [World.setCell], fun k _ hk => Below.heap_setCell _ _ _ _ hk⟩ (fun i hi => hi ▸ hp)
theorem Keeps.blk {w w' : World} {F : Nat → Prop} (h : Keeps w w' F) {g : Nat} {o : Obj} (hb : w.heap[g]? = some o) (hg : ¬ F g) : w'.heap[g]? = some o := (h.block g (blk_lt hb) hg).trans hb
theorem Keeps.R {α : Type} {d : Kd α} {e base : Nat} {ok : Nat → Prop} {w w' : World} {v : Value} {xs : List α} {F : Nat → Prop} (h : Keeps w w' F) (hr : d.R e w base ok v xs) (hok : ∀ k, ok k → ¬ F k) : d.R e w' base ok v xs :=
  Kd.R_step hr fun k hk hlt => h.block k hlt (hok k hk)

end Go.Proofs.YtoolflmaaooplaaGreat.FLib
