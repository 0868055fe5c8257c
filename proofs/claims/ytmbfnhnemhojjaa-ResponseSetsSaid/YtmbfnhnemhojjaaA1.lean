/- Tables and their check. -/
import Derived.Test.YtmbfnhnemhojjaaPResponseCostsx0
import Derived.Test.YtmbfnhnemhojjaaLib
import Derived.Laws.Tables
import Derived.ChangeKeysEq
namespace Go.Proofs.Ytmbfnhnemhojjaa
set_option linter.unusedVariables false
set_option linter.unusedSimpArgs false
open Go.RowKit Go.Proofs.YtmbfnhnemhojjaaW.PrintWords Go.Proofs.YtmbfnhnemhojjaaW.PrintLast Go.Proofs.YtmbfnhnemhojjaaW.PrintMore PResponseCosts FLib

/-- A whole array (or struct) is loaded from wherever its cells lie. -/
theorem wpList_load_at {P : Program} {ops : Array Oper} {rest : List Oper} {o : Oper} {a : Act} {w : World} {Q : Exit → Act → World → Prop} (hgd : o.guard = none) (ty : TypeId) (x : Operand) (ho : o.op = .load ty x)
    (ad : Addr) (hx : a.eval x = .pointer (some ad)) (cs : List Value) (hc : ∀ j v, cs[j]? = some v → w.cell? (ad.add j) = some v) (d : TypeDesc)
    (hu : P.underlying ty = some d) (hd : (match d with | .struct _ | .array _ _ => true | _ => false) = true) (hi : (P.info? ty).map (·.size) = some cs.length)
    (h : wpList P ops Q rest (a.put o.dst (.agg cs.toArray)) w) : wpList P ops Q (o :: rest) a w := by
  have hl : (loadCells ad cs.length).run P w = .ok cs.toArray w := run_loadCells_list (P := P) w ad cs hc
  have hrun : (loadVar ty ad).run P w = .ok (.agg cs.toArray) w := by
    cases hq : P.info? ty with
    | none => simp [hq] at hi
    | some i =>
      have hs : i.size = cs.length := by simpa [hq] using hi
      have hagg : (isAgg ty).run P w = .ok true w := by
        unfold isAgg
        rw [Sem.run_bind, run_underlying hu w]
        cases d <;> simp_all
      simp [loadVar, Sem.run_bind, hagg, sizeOf, typeInfo, hq, hs, hl]
  refine wpList_plain hgd fun K hK => ?_
  unfold Oper.wp execOp
  simp only [ho, hx, Instr.loadAt, Instr.sureAddr, Sem.run_bind, Sem.run_pure, Result.andThen_ok, hrun]
  exact hK _ _ h
/-- An element of an array by value. -/
theorem run_index_one {P : Program} {w : World} (t e : TypeId) (n : Nat) (cs : Array Value) (k : IntKind) (i : Int) (v : Value) (h : P.underlying t = some (.array n e)) (he : P.plainKey e = true) (hs : P.cellsOf e = 1) (hb : ((P.info? e).map (·.size)) = some 1)
    (h0 : 0 ≤ i) (h1 : i < (n : Int)) (hv : cs[i.toNat]? = some v) : (Instr.index t (.agg cs) (.int k i)).run P w = .ok v w := by
  obtain ⟨i0, hi, hz⟩ := Option.map_eq_some_iff.1 hb
  have hp : (part e cs (i.toNat * 1)).run P w = .ok v w := by rw [Nat.mul_one]; exact run_part_plain w he hv
  simp [Instr.index, Sem.run_bind, run_underlying h, asIntOf, h0, h1, sizeOf, typeInfo, hi, hz]
  simpa using hp
/-- A table of costs. -/
structure Tab where
  sec : Int
  copy : Int
  costs : List Int
def ints (l : List Int) : List Value := l.map (Value.int .i64)
def tabCells (t : Tab) : List Value := .int .i64 t.sec :: .int .i64 t.copy :: ints t.costs
def tabV (t : Tab) : Value := .agg (tabCells t).toArray
def inC (n : Int) : Bool := decide (1 ≤ n) && decide (n ≤ 1000)
def okT (t : Tab) : Bool := (inC t.sec && (decide (0 ≤ t.copy) && decide (t.copy ≤ 100))) && t.costs.all inC
theorem add_mk (g o j : Nat) : (⟨g, o, none⟩ : Addr).add j = ⟨g, o + j, none⟩ := by
  unfold Addr.add
  split
  · rename_i h0; subst h0; rfl
  · rfl
theorem tab_cost (t : Tab) (j : Nat) (v : Value) (h : (ints t.costs)[j]? = some v) : (tabCells t).toArray[2 + j]? = some v := by
  rw [← h]; simp only [tabCells, List.getElem?_toArray, show 2 + j = j + 1 + 1 by omega, List.getElem?_cons_succ]

set_option maxRecDepth 100000 in
set_option maxHeartbeats 1600000 in
theorem tcheck_any (t : Tab) (hl : t.costs.length = 24) (w : World) :
    Calls Try.prog 29 #[tabV t] w fun e w' => e = .returned (.int .i64 (if okT t = true then 0 else 34)) ∧ Below w.heap.size w w' := by
  unfold tabV
  obtain ⟨r, hr⟩ : ∃ r, (if okT t = true then (0 : Int) else 34) = r := ⟨_, rfl⟩
  rw [hr]
  obtain ⟨cs, hcs⟩ : ∃ cs, (tabCells t).toArray = cs := ⟨_, rfl⟩
  have h0 : cs[0]? = some (.int .i64 t.sec) := by rw [← hcs]; rfl
  have h1 : cs[1]? = some (.int .i64 t.copy) := by rw [← hcs]; rfl
  have hc : ∀ j v, (ints t.costs)[j]? = some v → cs[2 + j]? = some v := fun j v h => hcs ▸ tab_cost t j v h
  rw [hcs]
  have HR := Lib.hid hr
  have HC := Lib.hid hc
  have HL := Lib.hid hl
  have HB : Hid (Below w.heap.size w (w.alloc (.cells cs 24))) := below_alloc (Below.refl _ _) _
  clear hcs hr hc hl
  have bad : inC t.sec = false ∨ (decide (0 ≤ t.copy) && decide (t.copy ≤ 100)) = false → r = 34 := by
    intro h; rw [← HR.out]; unfold okT
    rcases h with h | h <;> simp [h]
  have BAD := Lib.hid bad
  clear bad
  by_cases a1 : t.sec < 1
  · go_enter Try.func29, Try.ntmps29
    go_wp2
    go_ret
    exact ⟨by rw [BAD.out (.inl (by simp [inC]; omega))]; rfl, HB.out⟩
  by_cases a2 : 1000 < t.sec
  · go_enter Try.func29, Try.ntmps29
    go_wp2
    go_ret
    exact ⟨by rw [BAD.out (.inl (by simp [inC]; omega))]; rfl, HB.out⟩
  by_cases a3 : t.copy < 0
  · go_enter Try.func29, Try.ntmps29
    go_wp2
    go_ret
    exact ⟨by rw [BAD.out (.inr (by simp; omega))]; rfl, HB.out⟩
  by_cases a4 : 100 < t.copy
  · go_enter Try.func29, Try.ntmps29
    go_wp2
    go_ret
    exact ⟨by rw [BAD.out (.inr (by simp; omega))]; rfl, HB.out⟩
  go_enter Try.func29, Try.ntmps29
  go_wp2_with (first
    | (refine gate_ (.load 22 (.tmp 23)) rfl ?_; refine wpList_load_at rfl 22 (.tmp 23) rfl ⟨w.heap.size, 2, none⟩ (by rfl) (ints t.costs) (fun j v h => by rw [add_mk]; exact (blk_cell (blk_new w (.cells cs 24)) (2 + j)).trans (HC.out j v h)) _ Try.underlying22 rfl (by rw [show (ints t.costs).length = 24 from (List.length_map ..).trans HL.out]; kernel_rfl) ?_)
    | fail)
  obtain ⟨ar, har⟩ : ∃ ar, (ints t.costs).toArray = ar := ⟨_, rfl⟩
  rw [har]
  have hget : ∀ k (h : k < t.costs.length), ar[k]? = some (.int .i64 t.costs[k]) := fun k h => by rw [← har]; simp [ints, h]
  have HG := Lib.hid hget
  clear har hget HC
  go_loopw [4, 25] (fun _ i wr => ∃ k : Nat, k ≤ 24 ∧ i = .int .i64 k ∧ Hid (w.alloc (.cells cs 24) = wr) ∧ Hid ((t.costs.take k).all inC = true)) (fun _ i _ => 24 - (intOf i).toNat)
  case atStart => exact ⟨0, Nat.zero_le _, rfl, rfl, by simp [Hid]⟩
  case round =>
    obtain ⟨k, hk, rfl, HW, HA⟩ := hrel
    by_cases hlt : k < 24
    · have hk24 : k < t.costs.length := by have := HL.out; omega
      have hx := HG.out k hk24
      have htk : (t.costs.take (k + 1)).all inC = ((t.costs.take k).all inC && inC t.costs[k]) := by
        rw [List.take_add_one, List.getElem?_eq_getElem hk24, List.all_append]; simp
      have hmem : inC t.costs[k] = false → r = 34 := by
        intro h
        rw [← HR.out]; unfold okT
        have : t.costs.all inC = false := by
          rw [List.all_eq_false]; exact ⟨_, List.getElem_mem hk24, by simp [h]⟩
        simp [this]
      generalize t.costs[k] = x at hx htk hmem
      have HTK := Lib.hid htk
      have HM := Lib.hid hmem
      have hi0 : (0 : Int) ≤ (k : Int) := by omega
      have hidx := run_index_one (P := Try.prog) (w := wr) 22 2 24 ar .i64 (k : Int) _ Try.underlying22 (by kernel_rfl) (by kernel_rfl) (by kernel_rfl) (by omega) (by omega) (by simpa using hx)
      have hi1 : (k : Int) < 24 := by omega
      clear htk hmem
      by_cases b1 : x < 1
      · go_wp2
        go_ret
        exact ⟨by rw [HM.out (by simp [inC]; omega)]; rfl, by rw [← HW.out]; exact HB.out⟩
      by_cases b2 : 1000 < x
      · go_wp2
        go_ret
        exact ⟨by rw [HM.out (by simp [inC]; omega)]; rfl, by rw [← HW.out]; exact HB.out⟩
      go_wp2
      go_roundw
      case rel => exact ⟨k + 1, by omega, by go_num, HW, Lib.hid (by rw [HTK.out, HA.out]; simp [inC]; omega)⟩
      case measure => simp [intOf]; omega
    · go_wp2
      go_ret
      refine ⟨?_, by rw [← HW.out]; exact HB.out⟩
      have h24 : k = t.costs.length := by have := HL.out; omega
      have hA := HA.out
      rw [h24, List.take_length] at hA
      have hr := HR.out
      rw [← hr]
      have : okT t = true := by unfold okT; rw [hA]; simp [inC]; omega
      rw [if_pos this]; rfl
end Go.Proofs.Ytmbfnhnemhojjaa
