/- What a decoder answers; laws on arrays that are loaded whole. -/
import Derived.Test.YtepceelkfbjamaaD1
import Derived.Laws.Tables
namespace Go.Proofs.Ytepceelkfbjamaa
open Go.RowKit Go.Proofs.YtepceelkfbjamaaW.PrintWords Go.Proofs.YtepceelkfbjamaaW.PrintLast Go.Proofs.YtepceelkfbjamaaW.PrintMore PTraceFilters FLib

def recAt (b : List Int) (k : Nat) : List Int := (b.drop (40 * k)).take 40
def kindOf (r : List Int) : Int := wrap64 (numOf ((r.drop 8).take 8))
def okR (r : List Int) : Bool := decide (0 ≤ kindOf r) && decide (kindOf r < 9)
def decEv (r : List Int) : S47 := ⟨wrap64 (numOf (r.take 8)), kindOf r, wrap32 (numOf ((r.drop 16).take 4)), wrap32 (numOf ((r.drop 20).take 4)), wrap64 (numOf ((r.drop 24).take 8)), wrap64 (numOf ((r.drop 32).take 8))⟩
def evs (b : List Int) (n : Nat) : List S47 := (List.range n).map fun k => decEv (recAt b k)
theorem evs_succ (b : List Int) (n : Nat) : evs b (n + 1) = evs b n ++ [decEv (recAt b n)] := by simp [evs, List.range_succ]
theorem evs_length (b : List Int) (n : Nat) : (evs b n).length = n := by simp [evs]
theorem recAt_length (b : List Int) (k : Nat) (h : 40 * k + 40 ≤ b.length) : (recAt b k).length = 40 := by simp [recAt]; omega
theorem recAt_bytes (b : List Int) (k : Nat) (h : Bytes b) : Bytes (recAt b k) := fun z hz => h z (List.mem_of_mem_drop (List.mem_of_mem_take hz))

/-- What a decoder answers on the bytes b: no events and a fault, or the events. -/
inductive Dec (b : List Int) : Int → Int → List S47 → Prop
  | long (h : 800000 < b.length) : Dec b 0 18 []
  | bad (k : Nat) (h0 : b.length ≤ 800000) (h1 : ∀ j, j < k → okR (recAt b j) = true) (h2 : okR (recAt b k) = false) (h3 : 40 * k + 40 ≤ b.length) : Dec b (40 * k : Nat) 17 []
  | rest (k : Nat) (h0 : b.length ≤ 800000) (h1 : ∀ j, j < k → okR (recAt b j) = true) (h2 : 40 * k < b.length) (h3 : b.length < 40 * k + 40) : Dec b (40 * k : Nat) 12 []
  | all (k : Nat) (h0 : b.length ≤ 800000) (h1 : ∀ j, j < k → okR (recAt b j) = true) (h2 : 40 * k = b.length) : Dec b 0 0 (evs b k)

/-- There is one answer. -/
theorem Dec.one {b : List Int} {a c a' c' : Int} {l l' : List S47} (h : Dec b a c l) (h' : Dec b a' c' l') : a = a' ∧ c = c' ∧ l = l' := by
  have key : ∀ k k', (∀ j, j < k → okR (recAt b j) = true) → okR (recAt b k') = false → k ≤ k' := by
    intro k k' h1 h2
    rcases Nat.lt_or_ge k' k with h | h
    · rw [h1 k' h] at h2; cases h2
    · exact h
  cases h with
  | long h => cases h' <;> first | exact ⟨rfl, rfl, rfl⟩ | omega
  | bad k h0 h1 h2 h3 =>
    cases h' with
    | long h => omega
    | bad k' g0 g1 g2 g3 =>
      have e : k = k' := Nat.le_antisymm (key k k' h1 g2) (key k' k g1 h2)
      subst e; exact ⟨rfl, rfl, rfl⟩
    | rest k' g0 g1 g2 g3 => have := key k' k g1 h2; omega
    | all k' g0 g1 g2 => have := key k' k g1 h2; omega
  | rest k h0 h1 h2 h3 =>
    cases h' with
    | long h => omega
    | bad k' g0 g1 g2 g3 => have := key k k' h1 g2; omega
    | rest k' g0 g1 g2 g3 =>
      have e : k = k' := by omega
      subst e; exact ⟨rfl, rfl, rfl⟩
    | all k' g0 g1 g2 => omega
  | all k h0 h1 h2 =>
    cases h' with
    | long h => omega
    | bad k' g0 g1 g2 g3 => have := key k k' h1 g2; omega
    | rest k' g0 g1 g2 g3 => omega
    | all k' g0 g1 g2 =>
      have e : k = k' := by omega
      subst e; exact ⟨rfl, rfl, rfl⟩

/-- A whole array (or struct) is loaded from wherever its cells lie. -/
theorem wpList_load_at {P : Program} {ops : Array Oper} {rest : List Oper} {o : Oper} {a : Act} {w : World} {Q : Exit → Act → World → Prop} (hgd : o.guard = none) (ty : TypeId) (x : Operand) (ho : o.op = .load ty x)
    (ad : Addr) (hx : a.eval x = .pointer (some ad)) (cs : List Value) (hc : ∀ j v, cs[j]? = some v → w.cell? (ad.add j) = some v) (d : TypeDesc)
    (hu : P.underlying ty = some d) (hd : (match d with | .struct _ | .array _ _ => true | _ => false) = true) (hi : (P.info? ty).map (·.size) = some cs.length)
    (h : wpList P ops Q rest (a.put o.dst (.agg cs.toArray)) w) : wpList P ops Q (o :: rest) a w := by
  have hl : (loadCells ad cs.length).run P w = .ok cs.toArray w := run_loadCells_list (P := P) w ad cs hc
  have hrun : (loadVar ty ad).run P w = .ok (.agg cs.toArray) w := by
    cases hq : P.info? ty with
    | none => simp [hq] at hi
    | some i =>
      have hs : i.size = cs.length := by simpa [hq] using hi
      have hagg : (isAgg ty).run P w = .ok true w := by
        unfold isAgg
        rw [Sem.run_bind, run_underlying hu w]
        cases d <;> simp_all
      simp [loadVar, Sem.run_bind, hagg, sizeOf, typeInfo, hq, hs, hl]
  refine wpList_plain hgd fun K hK => ?_
  unfold Oper.wp execOp
  simp only [ho, hx, Instr.loadAt, Instr.sureAddr, Sem.run_bind, Sem.run_pure, Result.andThen_ok, hrun]
  exact hK _ _ h
theorem arrayAt_40 (A : Option Addr) (c : Nat) (W : World) : (Instr.arrayAt 88 (.slice A 40 c)).run Try.prog W = .ok (.pointer A) W := by
  simp [Instr.arrayAt, run_underlying Try.underlying88]
theorem U8.part {w : World} {q T : Nat} {bs : List Int} (h : U8 w q T bs) (o n : Nat) (hn : o + n ≤ bs.length) (hm : bs.length ≤ 9223372036854775807) : Kd.C (Kd.int .u8) w (some ⟨q, o, none⟩) n ((bs.drop o).take n) := by
  refine ⟨by simp; omega, by omega, fun _ => ⟨_, rfl, fun j p hj => ⟨[.int .u8 p], rfl, rfl, fun i u hu => ?_⟩⟩⟩
  have hjl : j < n := by have := (List.getElem?_eq_some_iff.1 hj).1; simp at this; omega
  match i, hu with
  | 0, hu =>
    simp at hu
    subst hu
    have hc := h.cell (o + j) (by omega)
    rw [List.getElem?_take_of_lt hjl, List.getElem?_drop] at hj
    rw [show bs.getD (o + j) 0 = p by simp [List.getD, hj]] at hc
    have e : (⟨q, o, none⟩ : Addr).add (j * (Kd.int .u8).sz + 0) = ⟨q, o + j, none⟩ := by
      rw [show (Kd.int .u8).sz = 1 from rfl]
      unfold Addr.add
      split
      · rename_i h0; simp at h0; subst h0; rfl
      · simp
    rw [e]; exact hc
  | i + 1, hu => simp at hu
theorem get_eq (A : Option Addr) (n c : Nat) (bs : List Int) (N : Int) (hN : numOf bs = N) (w : World) (hC : Kd.C (Kd.int .u8) w A n bs) (hb : Bytes bs) (hn : n ≤ 8) :
    Calls Try.prog 43 #[.slice A n c] w fun e w' => e = .returned (.int .u64 N) ∧ w = w' := hN ▸ get_any A n c bs w hC hb hn
end Go.Proofs.Ytepceelkfbjamaa
