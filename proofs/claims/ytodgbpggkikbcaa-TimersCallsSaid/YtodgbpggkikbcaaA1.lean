/- A set of timers: its cells, its map, its timers. -/
import Derived.Test.YtodgbpggkikbcaaLib
import Derived.Test.YtodgbpggkikbcaaPTimersNilx0
import Derived.Maps.OwnSet
import Derived.Lib.SlKeysI
namespace Go.Proofs.Ytodgbpggkikbcaa
set_option linter.unusedVariables false
set_option linter.unusedSimpArgs false
open Go.RowKit Go.Maps Go.Sort Go.Proofs.YtodgbpggkikbcaaW.PrintWords Go.Proofs.YtodgbpggkikbcaaW.PrintLast Go.Proofs.YtodgbpggkikbcaaW.PrintMore FLib

/-- A timer. -/
structure TT where
  own : Int
  e0 : Int
  e1 : Int
  e2 : Int
  e3 : Int
  e4 : Int
  fst : Int
  ivl : Int
  tol : Int
def TT.cells (t : TT) : Array Value := #[.int .i64 t.own, .int .i64 t.e0, .int .i64 t.e1, .int .i64 t.e2, .int .i64 t.e3, .int .i64 t.e4, .int .i64 t.fst, .int .i64 t.ivl, .int .i64 t.tol]

/-- Timers by their numbers, each with its block. -/
abbrev Slots := List (Option (Nat × TT))
/-- The timer with a number. -/
def at' (L : Slots) (k : Int) : Option (Nat × TT) := if 0 ≤ k then (L[k.toNat]?).join else none
theorem at_nat (L : Slots) (i : Nat) : at' L (i : Int) = (L[i]?).join := by simp [at']
theorem at_nat_some {L : Slots} {i : Nat} {x : Nat × TT} : at' L (i : Int) = some x ↔ L[i]? = some (some x) := by
  rw [at_nat]
  cases h : L[i]? with
  | none => simp
  | some y => cases y <;> simp
theorem at_neg {L : Slots} {k : Int} (h : k < 0) : at' L k = none := by unfold at'; rw [if_neg (by omega)]
/-- What the map has at a number. -/
def ptrV : Option (Nat × TT) → Value
  | none => .pointer none
  | some (b, _) => .pointer (some ⟨b, 0, none⟩)
def ptrD : Option (Nat × TT) → DataW Unit
  | none => .nil
  | some (b, _) => .lit (.int .i64 b)
/-- How a timer's pointer reads. -/
def Rd : Value → Option (DataW Unit × List MemPlace)
  | .pointer none => some (.nil, [])
  | .pointer (some ⟨b, 0, none⟩) => some (.lit (.int .i64 b), [])
  | _ => none
theorem Rd_ptr (o : Option (Nat × TT)) : Rd (ptrV o) = some (ptrD o, []) := by
  cases o with
  | none => rfl
  | some x => rfl
theorem Rd_inv {v : Value} {ps : List MemPlace} {o : Option (Nat × TT)} (h : Rd v = some (ptrD o, ps)) : v = ptrV o := by
  unfold Rd at h
  split at h
  · cases o with
    | none => rfl
    | some x => simp [ptrD] at h
  · rename_i b
    cases o with
    | none => simp [ptrD] at h
    | some x =>
      simp only [ptrD, Option.some.injEq, Prod.mk.injEq, DataW.lit.injEq, Lit.int.injEq, true_and, Int.ofNat_inj] at h
      simp [ptrV, h.1]
  · cases h
/-- How many timers there are. -/
def cnt (L : Slots) : Nat := L.countP (·.isSome)

theorem keyI : Keyed Try.prog 3 := int_keyed Try.underlying3
theorem keyI_of {k : Int} (h : (Lit.int .i64 k).wf = true) : keyOf Try.prog 3 (.int .i64 k) = some (.int .i64 k) := keyOf_int_mk Try.underlying3 h
theorem zero67 (w : World) : (zeroValue 67).run Try.prog w = .ok (.pointer none) w := by kernel_rfl

/-- The datum D is the map of L. -/
structure DL (D : DataW Unit) (L : Slots) : Prop where
  look : ∀ k : Int, D.atKey (.int .i64 k) .nil = ptrD (at' L k)
  has : ∀ k : Int, has D (.int .i64 k) = (at' L k).isSome
  size : size D = cnt L

structure TS (W : World) (p mb : Nat) (clk : Int) (L : Slots) : Prop where
  hdr : W.heap[p]? = some (.cells #[.map (some mb), .int .i64 clk] 73 (0, 0))
  map : ∃ D, W.ownsMap Try.prog 3 Rd mb 1000 D ∧ DL D L
  blk : ∀ (i b : Nat) (t : TT), L[i]? = some (some (b, t)) → W.heap[b]? = some (.cells t.cells 69 (0, 0))
  inj : ∀ (i j b : Nat) (t t' : TT), L[i]? = some (some (b, t)) → L[j]? = some (some (b, t')) → i = j
  len : L.length ≤ 1000

/-- The blocks of a set. -/
def TOwn (p mb : Nat) (L : Slots) (k : Nat) : Prop := k = p ∨ k = mb ∨ ∃ (i : Nat) (t : TT), L[i]? = some (some (k, t))

theorem TS.keep {W W' : World} {p mb : Nat} {clk : Int} {L : Slots} {F : Nat → Prop} (h : TS W p mb clk L) (hk : Keeps W W' F) (hF : ∀ k, F k → ¬ TOwn p mb L k) : TS W' p mb clk L := by
  obtain ⟨D, hD, hL⟩ := h.map
  have hb : ∀ k o, TOwn p mb L k → W.heap[k]? = some o → W'.heap[k]? = some o := fun k o ht ho => hk.blk ho (fun hf => hF k hf ht)
  refine ⟨hb _ _ (.inl rfl) h.hdr, ⟨D, ?_, hL⟩, fun i b t hi => hb _ _ (.inr (.inr ⟨i, t, hi⟩)) (h.blk i b t hi), h.inj, h.len⟩
  obtain ⟨es, clock, ho, F', hs, e⟩ := hD
  exact ⟨es, clock, hb _ _ (.inr (.inl rfl)) ho, F', hs, e⟩
theorem TS.below {W W' : World} {p mb : Nat} {clk : Int} {L : Slots} (h : TS W p mb clk L) (hb : Below W.heap.size W W') : TS W' p mb clk L := h.keep (Keeps.of_below hb (fun _ => False)) (fun _ hf => hf.elim)
theorem TS.later {W : World} {p mb : Nat} {clk : Int} {L : Slots} (h : TS W p mb clk L) : ∀ w', Below W.heap.size W w' → TS w' p mb clk L := fun _ hb => h.below hb

theorem TS.run_look {W : World} {p mb : Nat} {clk : Int} {L : Slots} (h : TS W p mb clk L) {k : Int} (hk : (Lit.int .i64 k).wf = true) :
    (Instr.lookup 71 (.map (some mb)) (.int .i64 k) false).run Try.prog W = .ok (ptrV (at' L k)) W := by
  obtain ⟨D, hD, hL⟩ := h.map
  obtain ⟨v, ps, hrun, hv⟩ := hD.lookup keyI Try.underlying71 (zero67 W) (zd := .nil) (zp := []) rfl (keyI_of hk)
  rw [hL.look] at hv
  rw [Rd_inv hv] at hrun
  exact hrun
theorem TS.run_lookok {W : World} {p mb : Nat} {clk : Int} {L : Slots} (h : TS W p mb clk L) {k : Int} (hk : (Lit.int .i64 k).wf = true) :
    (Instr.lookup 71 (.map (some mb)) (.int .i64 k) true).run Try.prog W = .ok (.tuple #[ptrV (at' L k), .bool (at' L k).isSome]) W := by
  obtain ⟨D, hD, hL⟩ := h.map
  obtain ⟨v, ps, hrun, hv⟩ := hD.look_ok keyI Try.underlying71 (zero67 W) (zd := .nil) (zp := []) rfl (keyI_of hk)
  rw [hL.look] at hv
  rw [Rd_inv hv, hL.has] at hrun
  exact hrun
theorem TS.run_len {W : World} {p mb : Nat} {clk : Int} {L : Slots} (h : TS W p mb clk L) (ty : TypeId) : (Builtin.len_ #[71] ty #[.map (some mb)]).run Try.prog W = .ok (.int .i64 (cnt L)) W := by
  obtain ⟨D, hD, hL⟩ := h.map
  rw [hD.len Try.underlying71 ty, hL.size]
theorem cnt_le (L : Slots) : cnt L ≤ L.length := List.countP_le_length

theorem key_ne {a b : Int} (h : a ≠ b) : (Lit.int .i64 a) ≠ (Lit.int .i64 b) := fun e => h (by injection e)
theorem key_lit {k : Int} (h : (Lit.int .i64 k).wf = true) : WideAt.IsKeyLit (Lit.int .i64 k) := by trivial

/-- The bound of a map's entries is their number. -/
theorem owns_tight {W : World} {b n m : Nat} {D : DataW Unit} (h : W.ownsMap Try.prog 3 Rd b n D) (hs : size D ≤ m) : W.ownsMap Try.prog 3 Rd b m D := by
  obtain ⟨es, clock, ho, F, _, rfl⟩ := h
  refine ⟨es, clock, ho, F, ?_, rfl⟩
  simpa [Maps.size, length_sorted] using hs

/-- A timer is put at a number. -/
def putAt (L : Slots) (i : Nat) (x : Nat × TT) : Slots := if i < L.length then L.set i (some x) else L ++ [some x]

theorem at_set {L : Slots} {i : Nat} (hi : i < L.length) (o : Option (Nat × TT)) (k : Int) : at' (L.set i o) k = if k = i then o else at' L k := by
  unfold at'
  by_cases h0 : 0 ≤ k
  · rw [if_pos h0, if_pos h0]
    by_cases h : k = i
    · subst h; simp [hi]
    · rw [if_neg h, List.getElem?_set_ne (by omega)]
  · rw [if_neg h0, if_neg h0, if_neg (by omega)]
theorem cnt_set {L : Slots} {i : Nat} (hi : i < L.length) (o : Option (Nat × TT)) : cnt (L.set i o) + (if (at' L i).isSome then 1 else 0) = cnt L + (if o.isSome then 1 else 0) := by
  unfold cnt
  rw [at_nat]
  induction L generalizing i with
  | nil => simp at hi
  | cons y L ih =>
    cases i with
    | zero =>
      simp only [List.set_cons_zero, List.countP_cons, List.getElem?_cons_zero, Option.join]
      cases y <;> cases o <;> simp
    | succ i =>
      simp only [List.length_cons] at hi
      have := ih (i := i) (by omega)
      simp only [List.set_cons_succ, List.countP_cons, List.getElem?_cons_succ]
      omega
theorem DL.empty : DL (.map []) [] := ⟨fun k => by simp [at', ptrD, DataW.atKey], fun k => by simp [at', Maps.has], by simp [Maps.size, cnt]⟩
end Go.Proofs.Ytodgbpggkikbcaa
