/- Ranges: a table: its cells, its map, its rows. -/
import Derived.Test.YtoolflmaaooplaaA1
namespace Go.Proofs.Ytoolflmaaooplaa
set_option linter.unusedVariables false
set_option linter.unusedSimpArgs false
open Go.RowKit Go.Maps Go.Sort Go.Proofs.YtoolflmaaooplaaW.PrintWords Go.Proofs.YtoolflmaaooplaaW.PrintLast Go.Proofs.YtoolflmaaooplaaW.PrintMore FLib
attribute [local go_sem] below_alloc_T below_drew_T below_drewN_T

/-- An owner's granted spans, and where they lie. -/
structure Ent where
  own : Int
  g : Nat
  cap : Nat
  l : List Sp
def gAt (G : List Ent) (k : Int) : Option Ent := G.find? (fun e => e.own == k)
def entV : Option Ent → Value
  | none => .slice none 0 0
  | some e => .slice (some ⟨e.g, 0, none⟩) e.l.length e.cap
def entD : Option Ent → DataW Unit
  | none => .nil
  | some e => .agg [.lit (.int .i64 e.g), .lit (.int .i64 e.l.length), .lit (.int .i64 e.cap)]
/-- How a slice in the map reads: where it lies. -/
def Rd : Value → Option (DataW Unit × List MemPlace)
  | .slice none 0 0 => some (.nil, [])
  | .slice (some ⟨b, 0, none⟩) n c => some (.agg [.lit (.int .i64 b), .lit (.int .i64 n), .lit (.int .i64 c)], [])
  | _ => none
theorem Rd_ent (o : Option Ent) : Rd (entV o) = some (entD o, []) := by
  cases o with
  | none => rfl
  | some x => rfl
theorem Rd_inv {v : Value} {ps : List MemPlace} {o : Option Ent} (h : Rd v = some (entD o, ps)) : v = entV o := by
  unfold Rd at h
  split at h
  · cases o with
    | none => rfl
    | some x => simp [entD] at h
  · rename_i b n c
    cases o with
    | none => simp [entD] at h
    | some x =>
      simp only [entD, Option.some.injEq, Prod.mk.injEq, DataW.agg.injEq, List.cons.injEq, DataW.lit.injEq, Lit.int.injEq, true_and, Int.ofNat_inj, and_true] at h
      obtain ⟨⟨h1, h2, h3⟩, -⟩ := h
      rw [entV, h1, h2, h3]
  · cases h

theorem keyI : Keyed Try.prog 3 := int_keyed Try.underlying3
theorem keyI_of {k : Int} (h : (Lit.int .i64 k).wf = true) : keyOf Try.prog 3 (.int .i64 k) = some (.int .i64 k) := keyOf_int_mk Try.underlying3 h
theorem zero60 (w : World) : (zeroValue 60).run Try.prog w = .ok (.slice none 0 0) w := by kernel_rfl

/-- The datum D is the map of G. -/
structure DG (D : DataW Unit) (G : List Ent) : Prop where
  look : ∀ k : Int, D.atKey (.int .i64 k) .nil = entD (gAt G k)
  has : ∀ k : Int, has D (.int .i64 k) = (gAt G k).isSome
  size : size D = G.length
theorem DG.empty : DG (.map []) [] := ⟨fun k => by simp [gAt, entD, DataW.atKey], fun k => by simp [gAt, Maps.has], by simp [Maps.size]⟩

def sflat (l : List Sp) : List Value := l.flatMap Sp.cells
def lflat (l : List Lk) : List Value := l.flatMap Lk.cells
/-- A table: p its cells, mb its map, qv its queue. -/
structure TG (W : World) (p mb : Nat) (qv : Value) (G : List Ent) (Q : List Lk) : Prop where
  hdr : W.heap[p]? = some (.cells #[.map (some mb), qv] 67 (0, 0))
  map : ∃ D, W.ownsMap Try.prog 3 Rd mb 1000 D ∧ DG D G
  row : ∀ e ∈ G, W.ownsRow 0 71 3 (entV (some e)) e.l.length (sflat e.l)
  sepr : ∀ e ∈ G, e.g ≠ p ∧ e.g ≠ mb ∧ qv.ownBlock ≠ some e.g
  queue : W.ownsRow 0 23 4 qv Q.length (lflat Q)
  sepq : qv.ownBlock ≠ some p ∧ qv.ownBlock ≠ some mb
  len : G.length ≤ 1000
/-- The blocks of a table. -/
def GOwn (p mb : Nat) (qv : Value) (G : List Ent) (k : Nat) : Prop := k = p ∨ k = mb ∨ qv.ownBlock = some k ∨ ∃ e ∈ G, e.g = k
theorem own_move {w w1 : World} {base e size n : Nat} {v : Value} {xs : List Value} (h : w.ownsRow base e size v n xs) (hm : ∀ k, v.ownBlock = some k → w1.heap[k]? = w.heap[k]?) : w1.ownsRow base e size v n xs := by
  refine ⟨h.1, ?_⟩
  rcases h.2 with h2 | ⟨g, cap, cur, h1, h2, h3, h4⟩
  · exact .inl h2
  · exact .inr ⟨g, cap, cur, h1, h2, (hm g (by rw [h1]; rfl)).trans h3, h4⟩
theorem row_lt {w : World} {base e size n : Nat} {v : Value} {xs : List Value} (h : w.ownsRow base e size v n xs) {k : Nat} (hk : v.ownBlock = some k) : k < w.heap.size := by
  rcases h.2 with ⟨rfl, -⟩ | ⟨g, cap, cur, rfl, h2, h3, -⟩
  · cases hk
  · have e : g = k := by simpa [Value.ownBlock] using hk
    exact e ▸ blk_lt h3
theorem TG.own_lt {W : World} {p mb : Nat} {qv : Value} {G : List Ent} {Q : List Lk} (h : TG W p mb qv G Q) {k : Nat} (hk : GOwn p mb qv G k) : k < W.heap.size := by
  rcases hk with rfl | rfl | hk | ⟨e, he, rfl⟩
  · exact blk_lt h.hdr
  · obtain ⟨D, hD, -⟩ := h.map
    exact hD.lt
  · exact row_lt h.queue hk
  · exact row_lt (h.row e he) rfl
theorem TG.keep {W W' : World} {p mb : Nat} {qv : Value} {G : List Ent} {Q : List Lk} {F : Nat → Prop} (h : TG W p mb qv G Q) (hk : Keeps W W' F) (hF : ∀ k, F k → ¬ GOwn p mb qv G k) : TG W' p mb qv G Q := by
  obtain ⟨D, hD, hL⟩ := h.map
  have hb : ∀ k, GOwn p mb qv G k → W'.heap[k]? = W.heap[k]? := fun k ht => hk.block k (h.own_lt ht) (fun hf => hF k hf ht)
  refine ⟨(hb _ (.inl rfl)).trans h.hdr, ⟨D, ?_, hL⟩, fun e he => own_move (h.row e he) (fun k hk' => hb k (.inr (.inr (.inr ⟨e, he, by simpa [entV, Value.ownBlock] using hk'⟩)))), h.sepr, own_move h.queue (fun k hk' => hb k (.inr (.inr (.inl hk')))), h.sepq, h.len⟩
  obtain ⟨es, clock, ho, F', hs, e⟩ := hD
  exact ⟨es, clock, (hb _ (.inr (.inl rfl))).trans ho, F', hs, e⟩
theorem TG.below {W W' : World} {p mb : Nat} {qv : Value} {G : List Ent} {Q : List Lk} (h : TG W p mb qv G Q) (hb : Below W.heap.size W W') : TG W' p mb qv G Q := h.keep (Keeps.of_below hb (fun _ => False)) (fun _ hf => hf.elim)
theorem TG.run_look {W : World} {p mb : Nat} {qv : Value} {G : List Ent} {Q : List Lk} (h : TG W p mb qv G Q) {k : Int} (hk : (Lit.int .i64 k).wf = true) :
    (Instr.lookup 65 (.map (some mb)) (.int .i64 k) false).run Try.prog W = .ok (entV (gAt G k)) W := by
  obtain ⟨D, hD, hL⟩ := h.map
  obtain ⟨v, ps, hrun, hv⟩ := hD.lookup keyI Try.underlying65 (zero60 W) (zd := .nil) (zp := []) rfl (keyI_of hk)
  rw [hL.look] at hv
  rw [Rd_inv hv] at hrun
  exact hrun

theorem newT_any (w : World) : Calls Try.prog 24 #[] w fun e w' => e = .returned (.pointer (some ⟨w.heap.size + 1, 0, none⟩)) ∧ TG w' (w.heap.size + 1) w.heap.size (.slice none 0 0) [] [] ∧ Below w.heap.size w w' := by
  have hmm := @run_makeMap Try.prog
  go_enter Try.func24, Try.ntmps24
  go_wp2
  go_ret
  refine ⟨rfl, ⟨?_, ⟨.map [], ?_, DG.empty⟩, by simp, by simp, World.ownsRow_nil _ _ _ _, by simp [Value.ownBlock], by simp⟩, below_alloc (below_alloc (Below.refl _ _) _) _⟩
  · simpa using blk_new (w.alloc (.map #[] 0)) (.cells #[.map (some w.heap.size), .slice none 0 0] 67)
  · exact ((World.ownsMap_made w Try.prog 3 Rd).mono (by omega)).alloc _
end Go.Proofs.Ytoolflmaaooplaa
