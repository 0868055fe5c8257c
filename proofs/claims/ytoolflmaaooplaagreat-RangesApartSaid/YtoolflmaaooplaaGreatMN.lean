/- Ranges: the laws. -/
import Derived.Test.YtoolflmaaooplaaGreatMM
import Derived.Test.YtoolflmaaooplaaGreatNOpens2
namespace Go.Proofs.YtoolflmaaooplaaGreat
section
set_option linter.unusedVariables false
set_option linter.unusedSimpArgs false
open Go.RowKit Go.Maps Go.Sort Go.Lib Go.Shelf Go.Proofs.YtoolflmaaooplaaGreatW.PrintWords Go.Proofs.YtoolflmaaooplaaGreatW.PrintLast Go.Proofs.YtoolflmaaooplaaGreatW.PrintMore FLib
attribute [local go_sem] below_alloc_T below_drew_T below_drewN_T

def mod8 (L : List (Int × Lk)) : List (Int × Lk) := L.map (fun a => (a.1 % 8, a.2))
theorem mod8_at {L : List (Int × Lk)} {k : Nat} {x : Int × Lk} (h : L[k]? = some x) : (mod8 L)[k]? = some (x.1 % 8, x.2) := by unfold mod8; rw [List.getElem?_map, h]; rfl
theorem mod8_len (L : List (Int × Lk)) : (mod8 L).length = L.length := by unfold mod8; simp
theorem play_gi {w : World} {a : Option Addr} {len : Nat} {L : List (Int × Lk)} (h : Opens2.ActRow w a len L) (hl : len ≤ 60) (k : Nat) (hk : k ≤ len) : GI (2 * k) (playF ((mod8 L).take k)).1 (playF ((mod8 L).take k)).2 := by
  refine playF_ok (mod8 L) (fun y hy => ?_) (by rw [mod8_len, h.1]; exact hl) k (by rw [mod8_len, h.1]; exact hk)
  unfold mod8 at hy
  obtain ⟨x, hx, rfl⟩ := List.mem_map.1 hy
  obtain ⟨i, hi, rfl⟩ := List.getElem_of_mem hx
  exact (h.2.2 i _ (List.getElem?_eq_getElem hi)).2.1
end
section
set_option linter.unusedVariables false
set_option linter.unusedSimpArgs false
open Go.RowKit Go.Maps Go.Sort Go.Lib Go.Shelf Go.Proofs.YtoolflmaaooplaaGreatW.PrintWords Go.Proofs.YtoolflmaaooplaaGreatW.PrintLast Go.Proofs.YtoolflmaaooplaaGreatW.PrintMore FLib
attribute [local go_sem] below_alloc_T below_drew_T below_drewN_T

def endJ (s n : Int) : Int := if n = 0 then 1099511627776 else s + n
def NearL (x : Lk) : Prop := (0 ≤ x.st ∧ x.st ≤ 100000) ∧ 0 ≤ x.len ∧ x.len ≤ 100000
def confJ (a b : Lk) : Bool := (a.own != b.own) && (decide (a.st < endJ b.st b.len) && (decide (b.st < endJ a.st a.len) && (a.ex || b.ex)))
theorem endj_any (a0 a1 a2 : Int) (a3 : Bool) (h : (0 ≤ a1 ∧ a1 ≤ 100000) ∧ 0 ≤ a2 ∧ a2 ≤ 100000) (w : World) : Calls Tryz.prog 20 #[.agg #[.int .i64 a0, .int .i64 a1, .int .i64 a2, .bool a3]] w fun e w' => e = .returned (.int .i64 (endJ a1 a2)) ∧ Below w.heap.size w w' := by
  by_cases hz : a2 = 0
  · have hE : endJ a1 a2 = 1099511627776 := by unfold endJ; rw [if_pos hz]
    have hd : (a2 == 0) = true := by simpa using hz
    clear hz h
    go_enter Tryz.func20, Tryz.ntmps20
    go_wp2
    go_ret
    exact ⟨by rw [hE]; rfl, below_alloc (Below.refl _ _) _⟩
  · have hE : endJ a1 a2 = a1 + a2 := by unfold endJ; rw [if_neg hz]
    have hd : (a2 == 0) = false := by simpa using hz
    have h1 : -9223372036854775808 ≤ a1 + a2 := by omega
    have h2 : a1 + a2 ≤ 9223372036854775807 := by omega
    clear hz h
    go_enter Tryz.func20, Tryz.ntmps20
    go_wp2
    go_ret
    exact ⟨by rw [hE]; go_num, below_alloc (Below.refl _ _) _⟩
set_option maxRecDepth 100000 in
set_option maxHeartbeats 1000000 in
theorem conflict_any (a b : Lk) (ha : NearL a) (hb : NearL b) (w : World) : Calls Tryz.prog 9 #[lkV a, lkV b] w fun e w' => e = .returned (.bool (confJ a b)) ∧ Below w.heap.size w w' := by
  have HEA := Lib.hid (fun w => endj_any a.own a.st a.len a.ex ha w)
  have HEB := Lib.hid (fun w => endj_any b.own b.st b.len b.ex hb w)
  clear ha hb
  obtain ⟨a0, a1, a2, a3⟩ := a
  obtain ⟨b0, b1, b2, b3⟩ := b
  simp only [confJ, lkV] at HEA HEB ⊢
  generalize endJ a1 a2 = ea at HEA ⊢
  generalize endJ b1 b2 = eb at HEB ⊢
  obtain ⟨OA, hOA⟩ : ∃ O, Obj.cells #[.int .i64 a0, .int .i64 a1, .int .i64 a2, .bool a3] 29 (0, 0) = O := ⟨_, rfl⟩
  obtain ⟨OB, hOB⟩ : ∃ O, Obj.cells #[.int .i64 b0, .int .i64 b1, .int .i64 b2, .bool b3] 29 (0, 0) = O := ⟨_, rfl⟩
  have HO := Lib.hid (And.intro hOA hOB)
  clear hOA hOB
  obtain ⟨R, hR⟩ : ∃ R, ((a0 != b0) && (decide (a1 < eb) && (decide (b1 < ea) && (a3 || b3)))) = R := ⟨_, rfl⟩
  rw [hR]
  have HR := Lib.hid hR
  clear hR
  go_enter Tryz.func9, Tryz.ntmps9
  go_wp2
  rw [HO.out.1, HO.out.2]
  refine abs_w (fun W => Below w.heap.size w W ∧ W.heap[w.heap.size]? = some OA ∧ W.heap[w.heap.size + 1]? = some OB) ⟨below_alloc (below_alloc (Below.refl _ _) _) _, blk_alloc (blk_new _ _) _, by have := blk_new (w.alloc OA) OB; simpa using this⟩ ?_
  rintro W ⟨hbW, hA, hB⟩
  rw [← HO.out.1] at hA
  rw [← HO.out.2] at hB
  have x0 := later_cell (v := .int .i64 a0) (blk_cell hA 0)
  have x1 := later_cell (v := .int .i64 a1) (blk_cell hA 1)
  have x2 := later_cell (v := .int .i64 a2) (blk_cell hA 2)
  have x3 := later_cell (v := .bool a3) (blk_cell hA 3)
  have y0 := later_cell (v := .int .i64 b0) (blk_cell hB 0)
  have y1 := later_cell (v := .int .i64 b1) (blk_cell hB 1)
  have y2 := later_cell (v := .int .i64 b2) (blk_cell hB 2)
  have y3 := later_cell (v := .bool b3) (blk_cell hB 3)
  have hs0 : Below W.heap.size W W := Below.refl _ _
  have HW := Lib.hid hbW
  clear hA hB hbW
  by_cases h1 : a0 = b0
  · have d1 : (a0 == b0) = true := by simpa using h1
    have hR : false = R := by rw [← HR.out]; simp [bne, d1]
    subst hR
    clear HR
    have e1 : (a0 != b0) = false := by simp [bne, d1]
    go_quiet (fail)
    go_wp2
    go_ret
    exact ⟨rfl, HW.out.trans (pw_below_drewN (Below.refl _ _) _)⟩
  · have d1 : (a0 == b0) = false := by simpa using h1
    have e1 : (a0 != b0) = true := by simp [bne, d1]
    have hR1 : (decide (a1 < eb) && (decide (b1 < ea) && (a3 || b3))) = R := by rw [← HR.out]; simp [bne, d1]
    clear HR
    by_cases h2 : a1 < eb
    · have d2 : decide (a1 < eb) = true := decide_eq_true h2
      rw [d2, Bool.true_and] at hR1
      clear h2
      by_cases h3 : b1 < ea
      · have d3 : decide (b1 < ea) = true := decide_eq_true h3
        rw [d3, Bool.true_and] at hR1
        clear h3
        cases a3
        · rw [Bool.false_or] at hR1
          subst hR1
          refine wp_region_held_drew (S := (fun w' => Below W.heap.size W w')) (by kernel_rfl) (by first | assumption | exact below_drew (by assumption)) (fun hHeld => ?_)
          refine wpAnyH_take (i := 0) (oi := { dst := some 5, op := Op.fieldAddr 29 (Operand.tmp 2) 0, type := 0, pos := "law.go:90", after := #[], guard := none }) (v := ?_) rfl (by kernel_rfl) (by kernel_rfl) (by kernel_rfl) (fun _ _ _ h => h) (Or.inl ⟨by rfl, ?_⟩) (by assumption) ?_
          rotate_left
          · (intro w hSw; (try dsimp only at hSw); go_simp; try with_reducible rfl)
          try simp only [Act.put, List.setIfInBounds_toArray, List.set_cons_zero, List.set_cons_succ]
          refine wpAnyH_take (i := 1) (oi := { dst := some 6, op := Op.load 3 (Operand.tmp 5), type := 3, pos := "law.go:90", after := #[{ on := 0, ground := Ground.data }], guard := none }) (v := ?_) rfl (by kernel_rfl) (by kernel_rfl) (by kernel_rfl) (fun _ _ _ h => h) (Or.inl ⟨by rfl, ?_⟩) (by assumption) ?_
          rotate_left
          · (intro w hSw; (try dsimp only at hSw); go_simp; try with_reducible rfl)
          try simp only [Act.put, List.setIfInBounds_toArray, List.set_cons_zero, List.set_cons_succ]
          refine wpAnyH_take (i := 2) (oi := { dst := some 7, op := Op.fieldAddr 29 (Operand.tmp 3) 0, type := 0, pos := "law.go:90", after := #[], guard := none }) (v := ?_) rfl (by kernel_rfl) (by kernel_rfl) (by kernel_rfl) (fun _ _ _ h => h) (Or.inl ⟨by rfl, ?_⟩) (by assumption) ?_
          rotate_left
          · (intro w hSw; (try dsimp only at hSw); go_simp; try with_reducible rfl)
          try simp only [Act.put, List.setIfInBounds_toArray, List.set_cons_zero, List.set_cons_succ]
          refine wpAnyH_take (i := 3) (oi := { dst := some 8, op := Op.load 3 (Operand.tmp 7), type := 3, pos := "law.go:90", after := #[{ on := 2, ground := Ground.data }], guard := none }) (v := ?_) rfl (by kernel_rfl) (by kernel_rfl) (by kernel_rfl) (fun _ _ _ h => h) (Or.inl ⟨by rfl, ?_⟩) (by assumption) ?_
          rotate_left
          · (intro w hSw; (try dsimp only at hSw); go_simp; try with_reducible rfl)
          try simp only [Act.put, List.setIfInBounds_toArray, List.set_cons_zero, List.set_cons_succ]
          refine wpAnyH_take (i := 4) (oi := { dst := some 9, op := Op.binOp BinOp.neq 3 (Operand.tmp 6) (Operand.tmp 8) 3, type := 4, pos := "law.go:90", after := #[{ on := 1, ground := Ground.data }, { on := 3, ground := Ground.data }], guard := none }) (v := ?_) rfl (by kernel_rfl) (by kernel_rfl) (by kernel_rfl) (fun _ _ _ h => h) (Or.inl ⟨by rfl, ?_⟩) (by assumption) ?_
          rotate_left
          · (intro w hSw; (try dsimp only at hSw); go_simp; try with_reducible rfl)
          try simp only [Act.put, List.setIfInBounds_toArray, List.set_cons_zero, List.set_cons_succ]
          refine wpAnyH_take (i := 5) (oi := { dst := some 10, op := Op.move (Operand.tmp 9), type := 4, pos := "law.go:90", after := #[{ on := 4, ground := Ground.data }], guard := none }) (v := ?_) rfl (by kernel_rfl) (by kernel_rfl) (by kernel_rfl) (fun _ _ _ h => h) (Or.inl ⟨by rfl, ?_⟩) (by assumption) ?_
          rotate_left
          · (intro w hSw; (try dsimp only at hSw); go_simp; try with_reducible rfl)
          try simp only [Act.put, List.setIfInBounds_toArray, List.set_cons_zero, List.set_cons_succ]
          refine wpAnyH_take (i := 6) (oi := { dst := some 11, op := Op.fieldAddr 29 (Operand.tmp 2) 1, type := 0, pos := "law.go:90", after := #[{ on := 5, ground := Ground.guard }], guard := some (5, true) }) (v := ?_) rfl (by kernel_rfl) (by kernel_rfl) (by kernel_rfl) (fun _ _ _ h => h) (Or.inl ⟨by rfl, ?_⟩) (by assumption) ?_
          rotate_left
          · (intro w hSw; (try dsimp only at hSw); go_simp; try with_reducible rfl)
          try simp only [Act.put, List.setIfInBounds_toArray, List.set_cons_zero, List.set_cons_succ]
          refine wpAnyH_take (i := 7) (oi := { dst := some 12, op := Op.load 2 (Operand.tmp 11), type := 2, pos := "law.go:90", after := #[{ on := 6, ground := Ground.data }, { on := 5, ground := Ground.guard }], guard := some (5, true) }) (v := ?_) rfl (by kernel_rfl) (by kernel_rfl) (by kernel_rfl) (fun _ _ _ h => h) (Or.inl ⟨by rfl, ?_⟩) (by assumption) ?_
          rotate_left
          · (intro w hSw; (try dsimp only at hSw); go_simp; try with_reducible rfl)
          try simp only [Act.put, List.setIfInBounds_toArray, List.set_cons_zero, List.set_cons_succ]
          refine wpAnyH_take (i := 8) (oi := { dst := some 13, op := Op.load 29 (Operand.tmp 3), type := 29, pos := "law.go:90", after := #[{ on := 5, ground := Ground.guard }], guard := some (5, true) }) (v := ?_) rfl (by kernel_rfl) (by kernel_rfl) (by kernel_rfl) (fun _ _ _ h => h) (Or.inl ⟨by rfl, ?_⟩) (by assumption) ?_
          rotate_left
          · (intro w hSw; (try dsimp only at hSw); go_simp; try with_reducible rfl)
          try simp only [Act.put, List.setIfInBounds_toArray, List.set_cons_zero, List.set_cons_succ]
          refine wpAnyH_ready (rs := [9]) (by kernel_rfl) (by simp) (AllReadyH.cons (o := { dst := some 14, op := Op.call { callee := Callee.value (Operand.func 20), args := #[Operand.tmp 13], argTypes := #[29] }, type := 2, pos := "law.go:90", after := #[{ on := 8, ground := Ground.data }, { on := 5, ground := Ground.chain }, { on := 5, ground := Ground.guard }], guard := some (5, true) }) rfl (fun K hK => ?_) AllReadyH.nil)
          go_simp
          refine (HEB.out _).mono ?_
          rintro e w2 ⟨rfl, hb2⟩
          dsimp only
          have hB2 := below_step hHeld hb2
          clear hb2
          refine hK.out _ _ (by first | assumption | exact below_drew (by assumption)) (fun hHeld => ?_)
          clear hK K
          try simp only [Act.put, List.setIfInBounds_toArray, List.set_cons_zero, List.set_cons_succ]
          refine wpAnyH_take (i := 10) (oi := { dst := some 15, op := Op.binOp BinOp.lss 2 (Operand.tmp 12) (Operand.tmp 14) 2, type := 4, pos := "law.go:90", after := #[{ on := 7, ground := Ground.data }, { on := 9, ground := Ground.data }, { on := 5, ground := Ground.guard }], guard := some (5, true) }) (v := ?_) rfl (by kernel_rfl) (by kernel_rfl) (by kernel_rfl) (fun _ _ _ h => h) (Or.inl ⟨by rfl, ?_⟩) (by assumption) ?_
          rotate_left
          · (intro w hSw; (try dsimp only at hSw); go_simp; try with_reducible rfl)
          try simp only [Act.put, List.setIfInBounds_toArray, List.set_cons_zero, List.set_cons_succ]
          refine wpAnyH_take (i := 11) (oi := { dst := some 16, op := Op.pick (Operand.tmp 10) (Operand.tmp 15) (Operand.const (Value.bool false)), type := 4, pos := "law.go:90", after := #[{ on := 5, ground := Ground.data }, { on := 10, ground := Ground.data }], guard := none }) (v := ?_) rfl (by kernel_rfl) (by kernel_rfl) (by kernel_rfl) (fun _ _ _ h => h) (Or.inl ⟨by rfl, ?_⟩) (by assumption) ?_
          rotate_left
          · (intro w hSw; (try dsimp only at hSw); go_simp; try with_reducible rfl)
          try simp only [Act.put, List.setIfInBounds_toArray, List.set_cons_zero, List.set_cons_succ]
          refine wpAnyH_take (i := 12) (oi := { dst := some 17, op := Op.move (Operand.tmp 16), type := 4, pos := "law.go:90", after := #[{ on := 11, ground := Ground.data }, { on := 9, ground := Ground.chain }], guard := none }) (v := ?_) rfl (by kernel_rfl) (by kernel_rfl) (by kernel_rfl) (fun _ _ _ h => h) (Or.inl ⟨by rfl, ?_⟩) (by assumption) ?_
          rotate_left
          · (intro w hSw; (try dsimp only at hSw); go_simp; try with_reducible rfl)
          try simp only [Act.put, List.setIfInBounds_toArray, List.set_cons_zero, List.set_cons_succ]
          refine wpAnyH_take (i := 13) (oi := { dst := some 18, op := Op.fieldAddr 29 (Operand.tmp 3) 1, type := 0, pos := "law.go:90", after := #[{ on := 12, ground := Ground.guard }], guard := some (12, true) }) (v := ?_) rfl (by kernel_rfl) (by kernel_rfl) (by kernel_rfl) (fun _ _ _ h => h) (Or.inl ⟨by rfl, ?_⟩) (by assumption) ?_
          rotate_left
          · (intro w hSw; (try dsimp only at hSw); go_simp; try with_reducible rfl)
          try simp only [Act.put, List.setIfInBounds_toArray, List.set_cons_zero, List.set_cons_succ]
          refine wpAnyH_take (i := 14) (oi := { dst := some 19, op := Op.load 2 (Operand.tmp 18), type := 2, pos := "law.go:90", after := #[{ on := 13, ground := Ground.data }, { on := 12, ground := Ground.guard }], guard := some (12, true) }) (v := ?_) rfl (by kernel_rfl) (by kernel_rfl) (by kernel_rfl) (fun _ _ _ h => h) (Or.inl ⟨by rfl, ?_⟩) (by assumption) ?_
          rotate_left
          · (intro w hSw; (try dsimp only at hSw); go_simp; try with_reducible rfl)
          try simp only [Act.put, List.setIfInBounds_toArray, List.set_cons_zero, List.set_cons_succ]
          refine wpAnyH_take (i := 15) (oi := { dst := some 20, op := Op.load 29 (Operand.tmp 2), type := 29, pos := "law.go:90", after := #[{ on := 12, ground := Ground.guard }], guard := some (12, true) }) (v := ?_) rfl (by kernel_rfl) (by kernel_rfl) (by kernel_rfl) (fun _ _ _ h => h) (Or.inl ⟨by rfl, ?_⟩) (by assumption) ?_
          rotate_left
          · (intro w hSw; (try dsimp only at hSw); go_simp; try with_reducible rfl)
          try simp only [Act.put, List.setIfInBounds_toArray, List.set_cons_zero, List.set_cons_succ]
          refine wpAnyH_ready (rs := [16]) (by kernel_rfl) (by simp) (AllReadyH.cons (o := { dst := some 21, op := Op.call { callee := Callee.value (Operand.func 20), args := #[Operand.tmp 20], argTypes := #[29] }, type := 2, pos := "law.go:90", after := #[{ on := 15, ground := Ground.data }, { on := 12, ground := Ground.chain }, { on := 12, ground := Ground.guard }], guard := some (12, true) }) rfl (fun K hK => ?_) AllReadyH.nil)
          go_simp
          refine (HEA.out _).mono ?_
          rintro e w3 ⟨rfl, hb3⟩
          dsimp only
          have hB3 := below_step hHeld hb3
          clear hb3
          refine hK.out _ _ (by first | assumption | exact below_drew (by assumption)) (fun hHeld => ?_)
          clear hK K
          try simp only [Act.put, List.setIfInBounds_toArray, List.set_cons_zero, List.set_cons_succ]
          refine wpAnyH_take (i := 17) (oi := { dst := some 22, op := Op.binOp BinOp.lss 2 (Operand.tmp 19) (Operand.tmp 21) 2, type := 4, pos := "law.go:90", after := #[{ on := 14, ground := Ground.data }, { on := 16, ground := Ground.data }, { on := 12, ground := Ground.guard }], guard := some (12, true) }) (v := ?_) rfl (by kernel_rfl) (by kernel_rfl) (by kernel_rfl) (fun _ _ _ h => h) (Or.inl ⟨by rfl, ?_⟩) (by assumption) ?_
          rotate_left
          · (intro w hSw; (try dsimp only at hSw); go_simp; try with_reducible rfl)
          try simp only [Act.put, List.setIfInBounds_toArray, List.set_cons_zero, List.set_cons_succ]
          refine wpAnyH_take (i := 18) (oi := { dst := some 23, op := Op.pick (Operand.tmp 17) (Operand.tmp 22) (Operand.const (Value.bool false)), type := 4, pos := "law.go:90", after := #[{ on := 12, ground := Ground.data }, { on := 17, ground := Ground.data }], guard := none }) (v := ?_) rfl (by kernel_rfl) (by kernel_rfl) (by kernel_rfl) (fun _ _ _ h => h) (Or.inl ⟨by rfl, ?_⟩) (by assumption) ?_
          rotate_left
          · (intro w hSw; (try dsimp only at hSw); go_simp; try with_reducible rfl)
          try simp only [Act.put, List.setIfInBounds_toArray, List.set_cons_zero, List.set_cons_succ]
          refine wpAnyH_take (i := 19) (oi := { dst := some 24, op := Op.move (Operand.tmp 23), type := 4, pos := "law.go:90", after := #[{ on := 18, ground := Ground.data }, { on := 16, ground := Ground.chain }], guard := none }) (v := ?_) rfl (by kernel_rfl) (by kernel_rfl) (by kernel_rfl) (fun _ _ _ h => h) (Or.inl ⟨by rfl, ?_⟩) (by assumption) ?_
          rotate_left
          · (intro w hSw; (try dsimp only at hSw); go_simp; try with_reducible rfl)
          try simp only [Act.put, List.setIfInBounds_toArray, List.set_cons_zero, List.set_cons_succ]
          refine wpAnyH_take (i := 20) (oi := { dst := some 25, op := Op.fieldAddr 29 (Operand.tmp 2) 3, type := 0, pos := "law.go:90", after := #[{ on := 19, ground := Ground.guard }], guard := some (19, true) }) (v := ?_) rfl (by kernel_rfl) (by kernel_rfl) (by kernel_rfl) (fun _ _ _ h => h) (Or.inl ⟨by rfl, ?_⟩) (by assumption) ?_
          rotate_left
          · (intro w hSw; (try dsimp only at hSw); go_simp; try with_reducible rfl)
          try simp only [Act.put, List.setIfInBounds_toArray, List.set_cons_zero, List.set_cons_succ]
          refine wpAnyH_take (i := 21) (oi := { dst := some 26, op := Op.load 4 (Operand.tmp 25), type := 4, pos := "law.go:90", after := #[{ on := 20, ground := Ground.data }, { on := 19, ground := Ground.guard }], guard := some (19, true) }) (v := ?_) rfl (by kernel_rfl) (by kernel_rfl) (by kernel_rfl) (fun _ _ _ h => h) (Or.inl ⟨by rfl, ?_⟩) (by assumption) ?_
          rotate_left
          · (intro w hSw; (try dsimp only at hSw); go_simp; try with_reducible rfl)
          try simp only [Act.put, List.setIfInBounds_toArray, List.set_cons_zero, List.set_cons_succ]
          refine wpAnyH_take (i := 22) (oi := { dst := some 27, op := Op.move (Operand.tmp 26), type := 4, pos := "law.go:90", after := #[{ on := 21, ground := Ground.data }, { on := 19, ground := Ground.chain }, { on := 19, ground := Ground.guard }], guard := some (19, true) }) (v := ?_) rfl (by kernel_rfl) (by kernel_rfl) (by kernel_rfl) (fun _ _ _ h => h) (Or.inl ⟨by rfl, ?_⟩) (by assumption) ?_
          rotate_left
          · (intro w hSw; (try dsimp only at hSw); go_simp; try with_reducible rfl)
          try simp only [Act.put, List.setIfInBounds_toArray, List.set_cons_zero, List.set_cons_succ]
          refine wpAnyH_take (i := 23) (oi := { dst := some 28, op := Op.fieldAddr 29 (Operand.tmp 3) 3, type := 0, pos := "law.go:90", after := #[{ on := 22, ground := Ground.guard }], guard := some (22, false) }) (v := ?_) rfl (by kernel_rfl) (by kernel_rfl) (by kernel_rfl) (fun _ _ _ h => h) (Or.inl ⟨by rfl, ?_⟩) (by assumption) ?_
          rotate_left
          · (intro w hSw; (try dsimp only at hSw); go_simp; try with_reducible rfl)
          try simp only [Act.put, List.setIfInBounds_toArray, List.set_cons_zero, List.set_cons_succ]
          refine wpAnyH_take (i := 24) (oi := { dst := some 29, op := Op.load 4 (Operand.tmp 28), type := 4, pos := "law.go:90", after := #[{ on := 23, ground := Ground.data }, { on := 22, ground := Ground.guard }], guard := some (22, false) }) (v := ?_) rfl (by kernel_rfl) (by kernel_rfl) (by kernel_rfl) (fun _ _ _ h => h) (Or.inl ⟨by rfl, ?_⟩) (by assumption) ?_
          rotate_left
          · (intro w hSw; (try dsimp only at hSw); go_simp; try with_reducible rfl)
          try simp only [Act.put, List.setIfInBounds_toArray, List.set_cons_zero, List.set_cons_succ]
          refine wpAnyH_take (i := 25) (oi := { dst := some 30, op := Op.pick (Operand.tmp 27) (Operand.const (Value.bool true)) (Operand.tmp 29), type := 4, pos := "law.go:90", after := #[{ on := 22, ground := Ground.data }, { on := 24, ground := Ground.data }, { on := 19, ground := Ground.guard }], guard := some (19, true) }) (v := ?_) rfl (by kernel_rfl) (by kernel_rfl) (by kernel_rfl) (fun _ _ _ h => h) (Or.inl ⟨by rfl, ?_⟩) (by assumption) ?_
          rotate_left
          · (intro w hSw; (try dsimp only at hSw); go_simp; try with_reducible rfl)
          try simp only [Act.put, List.setIfInBounds_toArray, List.set_cons_zero, List.set_cons_succ]
          refine wpAnyH_take (i := 26) (oi := { dst := some 31, op := Op.pick (Operand.tmp 24) (Operand.tmp 30) (Operand.const (Value.bool false)), type := 4, pos := "law.go:90", after := #[{ on := 19, ground := Ground.data }, { on := 25, ground := Ground.data }], guard := none }) (v := ?_) rfl (by kernel_rfl) (by kernel_rfl) (by kernel_rfl) (fun _ _ _ h => h) (Or.inl ⟨by rfl, ?_⟩) (by assumption) ?_
          rotate_left
          · (intro w hSw; (try dsimp only at hSw); go_simp; try with_reducible rfl)
          try simp only [Act.put, List.setIfInBounds_toArray, List.set_cons_zero, List.set_cons_succ]
          refine wpAnyH_take (i := 27) (oi := { dst := some 4, op := Op.assign (Operand.tmp 31), type := 4, pos := "law.go:90", after := _, guard := none }) (v := ?_) rfl (by kernel_rfl) (by kernel_rfl) (by kernel_rfl) (fun _ _ _ h => h) (Or.inl ⟨by rfl, ?_⟩) (by assumption) ?_
          rotate_left
          · (intro w hSw; (try dsimp only at hSw); go_simp; try with_reducible rfl)
          try simp only [Act.put, List.setIfInBounds_toArray, List.set_cons_zero, List.set_cons_succ]
          refine wpAnyH_done (by kernel_rfl) ?_ _
          go_wp2
          go_ret
          exact ⟨rfl, below_back HW.out (by first | assumption | exact below_drew (by assumption))⟩
        · rw [Bool.true_or] at hR1
          subst hR1
          refine wp_region_held_drew (S := (fun w' => Below W.heap.size W w')) (by kernel_rfl) (by first | assumption | exact below_drew (by assumption)) (fun hHeld => ?_)
          refine wpAnyH_take (i := 0) (oi := { dst := some 5, op := Op.fieldAddr 29 (Operand.tmp 2) 0, type := 0, pos := "law.go:90", after := #[], guard := none }) (v := ?_) rfl (by kernel_rfl) (by kernel_rfl) (by kernel_rfl) (fun _ _ _ h => h) (Or.inl ⟨by rfl, ?_⟩) (by assumption) ?_
          rotate_left
          · (intro w hSw; (try dsimp only at hSw); go_simp; try with_reducible rfl)
          try simp only [Act.put, List.setIfInBounds_toArray, List.set_cons_zero, List.set_cons_succ]
          refine wpAnyH_take (i := 1) (oi := { dst := some 6, op := Op.load 3 (Operand.tmp 5), type := 3, pos := "law.go:90", after := #[{ on := 0, ground := Ground.data }], guard := none }) (v := ?_) rfl (by kernel_rfl) (by kernel_rfl) (by kernel_rfl) (fun _ _ _ h => h) (Or.inl ⟨by rfl, ?_⟩) (by assumption) ?_
          rotate_left
          · (intro w hSw; (try dsimp only at hSw); go_simp; try with_reducible rfl)
          try simp only [Act.put, List.setIfInBounds_toArray, List.set_cons_zero, List.set_cons_succ]
          refine wpAnyH_take (i := 2) (oi := { dst := some 7, op := Op.fieldAddr 29 (Operand.tmp 3) 0, type := 0, pos := "law.go:90", after := #[], guard := none }) (v := ?_) rfl (by kernel_rfl) (by kernel_rfl) (by kernel_rfl) (fun _ _ _ h => h) (Or.inl ⟨by rfl, ?_⟩) (by assumption) ?_
          rotate_left
          · (intro w hSw; (try dsimp only at hSw); go_simp; try with_reducible rfl)
          try simp only [Act.put, List.setIfInBounds_toArray, List.set_cons_zero, List.set_cons_succ]
          refine wpAnyH_take (i := 3) (oi := { dst := some 8, op := Op.load 3 (Operand.tmp 7), type := 3, pos := "law.go:90", after := #[{ on := 2, ground := Ground.data }], guard := none }) (v := ?_) rfl (by kernel_rfl) (by kernel_rfl) (by kernel_rfl) (fun _ _ _ h => h) (Or.inl ⟨by rfl, ?_⟩) (by assumption) ?_
          rotate_left
          · (intro w hSw; (try dsimp only at hSw); go_simp; try with_reducible rfl)
          try simp only [Act.put, List.setIfInBounds_toArray, List.set_cons_zero, List.set_cons_succ]
          refine wpAnyH_take (i := 4) (oi := { dst := some 9, op := Op.binOp BinOp.neq 3 (Operand.tmp 6) (Operand.tmp 8) 3, type := 4, pos := "law.go:90", after := #[{ on := 1, ground := Ground.data }, { on := 3, ground := Ground.data }], guard := none }) (v := ?_) rfl (by kernel_rfl) (by kernel_rfl) (by kernel_rfl) (fun _ _ _ h => h) (Or.inl ⟨by rfl, ?_⟩) (by assumption) ?_
          rotate_left
          · (intro w hSw; (try dsimp only at hSw); go_simp; try with_reducible rfl)
          try simp only [Act.put, List.setIfInBounds_toArray, List.set_cons_zero, List.set_cons_succ]
          refine wpAnyH_take (i := 5) (oi := { dst := some 10, op := Op.move (Operand.tmp 9), type := 4, pos := "law.go:90", after := #[{ on := 4, ground := Ground.data }], guard := none }) (v := ?_) rfl (by kernel_rfl) (by kernel_rfl) (by kernel_rfl) (fun _ _ _ h => h) (Or.inl ⟨by rfl, ?_⟩) (by assumption) ?_
          rotate_left
          · (intro w hSw; (try dsimp only at hSw); go_simp; try with_reducible rfl)
          try simp only [Act.put, List.setIfInBounds_toArray, List.set_cons_zero, List.set_cons_succ]
          refine wpAnyH_take (i := 6) (oi := { dst := some 11, op := Op.fieldAddr 29 (Operand.tmp 2) 1, type := 0, pos := "law.go:90", after := #[{ on := 5, ground := Ground.guard }], guard := some (5, true) }) (v := ?_) rfl (by kernel_rfl) (by kernel_rfl) (by kernel_rfl) (fun _ _ _ h => h) (Or.inl ⟨by rfl, ?_⟩) (by assumption) ?_
          rotate_left
          · (intro w hSw; (try dsimp only at hSw); go_simp; try with_reducible rfl)
          try simp only [Act.put, List.setIfInBounds_toArray, List.set_cons_zero, List.set_cons_succ]
          refine wpAnyH_take (i := 7) (oi := { dst := some 12, op := Op.load 2 (Operand.tmp 11), type := 2, pos := "law.go:90", after := #[{ on := 6, ground := Ground.data }, { on := 5, ground := Ground.guard }], guard := some (5, true) }) (v := ?_) rfl (by kernel_rfl) (by kernel_rfl) (by kernel_rfl) (fun _ _ _ h => h) (Or.inl ⟨by rfl, ?_⟩) (by assumption) ?_
          rotate_left
          · (intro w hSw; (try dsimp only at hSw); go_simp; try with_reducible rfl)
          try simp only [Act.put, List.setIfInBounds_toArray, List.set_cons_zero, List.set_cons_succ]
          refine wpAnyH_take (i := 8) (oi := { dst := some 13, op := Op.load 29 (Operand.tmp 3), type := 29, pos := "law.go:90", after := #[{ on := 5, ground := Ground.guard }], guard := some (5, true) }) (v := ?_) rfl (by kernel_rfl) (by kernel_rfl) (by kernel_rfl) (fun _ _ _ h => h) (Or.inl ⟨by rfl, ?_⟩) (by assumption) ?_
          rotate_left
          · (intro w hSw; (try dsimp only at hSw); go_simp; try with_reducible rfl)
          try simp only [Act.put, List.setIfInBounds_toArray, List.set_cons_zero, List.set_cons_succ]
          refine wpAnyH_ready (rs := [9]) (by kernel_rfl) (by simp) (AllReadyH.cons (o := { dst := some 14, op := Op.call { callee := Callee.value (Operand.func 20), args := #[Operand.tmp 13], argTypes := #[29] }, type := 2, pos := "law.go:90", after := #[{ on := 8, ground := Ground.data }, { on := 5, ground := Ground.chain }, { on := 5, ground := Ground.guard }], guard := some (5, true) }) rfl (fun K hK => ?_) AllReadyH.nil)
          go_simp
          refine (HEB.out _).mono ?_
          rintro e w2 ⟨rfl, hb2⟩
          dsimp only
          have hB2 := below_step hHeld hb2
          clear hb2
          refine hK.out _ _ (by first | assumption | exact below_drew (by assumption)) (fun hHeld => ?_)
          clear hK K
          try simp only [Act.put, List.setIfInBounds_toArray, List.set_cons_zero, List.set_cons_succ]
          refine wpAnyH_take (i := 10) (oi := { dst := some 15, op := Op.binOp BinOp.lss 2 (Operand.tmp 12) (Operand.tmp 14) 2, type := 4, pos := "law.go:90", after := #[{ on := 7, ground := Ground.data }, { on := 9, ground := Ground.data }, { on := 5, ground := Ground.guard }], guard := some (5, true) }) (v := ?_) rfl (by kernel_rfl) (by kernel_rfl) (by kernel_rfl) (fun _ _ _ h => h) (Or.inl ⟨by rfl, ?_⟩) (by assumption) ?_
          rotate_left
          · (intro w hSw; (try dsimp only at hSw); go_simp; try with_reducible rfl)
          try simp only [Act.put, List.setIfInBounds_toArray, List.set_cons_zero, List.set_cons_succ]
          refine wpAnyH_take (i := 11) (oi := { dst := some 16, op := Op.pick (Operand.tmp 10) (Operand.tmp 15) (Operand.const (Value.bool false)), type := 4, pos := "law.go:90", after := #[{ on := 5, ground := Ground.data }, { on := 10, ground := Ground.data }], guard := none }) (v := ?_) rfl (by kernel_rfl) (by kernel_rfl) (by kernel_rfl) (fun _ _ _ h => h) (Or.inl ⟨by rfl, ?_⟩) (by assumption) ?_
          rotate_left
          · (intro w hSw; (try dsimp only at hSw); go_simp; try with_reducible rfl)
          try simp only [Act.put, List.setIfInBounds_toArray, List.set_cons_zero, List.set_cons_succ]
          refine wpAnyH_take (i := 12) (oi := { dst := some 17, op := Op.move (Operand.tmp 16), type := 4, pos := "law.go:90", after := #[{ on := 11, ground := Ground.data }, { on := 9, ground := Ground.chain }], guard := none }) (v := ?_) rfl (by kernel_rfl) (by kernel_rfl) (by kernel_rfl) (fun _ _ _ h => h) (Or.inl ⟨by rfl, ?_⟩) (by assumption) ?_
          rotate_left
          · (intro w hSw; (try dsimp only at hSw); go_simp; try with_reducible rfl)
          try simp only [Act.put, List.setIfInBounds_toArray, List.set_cons_zero, List.set_cons_succ]
          refine wpAnyH_take (i := 13) (oi := { dst := some 18, op := Op.fieldAddr 29 (Operand.tmp 3) 1, type := 0, pos := "law.go:90", after := #[{ on := 12, ground := Ground.guard }], guard := some (12, true) }) (v := ?_) rfl (by kernel_rfl) (by kernel_rfl) (by kernel_rfl) (fun _ _ _ h => h) (Or.inl ⟨by rfl, ?_⟩) (by assumption) ?_
          rotate_left
          · (intro w hSw; (try dsimp only at hSw); go_simp; try with_reducible rfl)
          try simp only [Act.put, List.setIfInBounds_toArray, List.set_cons_zero, List.set_cons_succ]
          refine wpAnyH_take (i := 14) (oi := { dst := some 19, op := Op.load 2 (Operand.tmp 18), type := 2, pos := "law.go:90", after := #[{ on := 13, ground := Ground.data }, { on := 12, ground := Ground.guard }], guard := some (12, true) }) (v := ?_) rfl (by kernel_rfl) (by kernel_rfl) (by kernel_rfl) (fun _ _ _ h => h) (Or.inl ⟨by rfl, ?_⟩) (by assumption) ?_
          rotate_left
          · (intro w hSw; (try dsimp only at hSw); go_simp; try with_reducible rfl)
          try simp only [Act.put, List.setIfInBounds_toArray, List.set_cons_zero, List.set_cons_succ]
          refine wpAnyH_take (i := 15) (oi := { dst := some 20, op := Op.load 29 (Operand.tmp 2), type := 29, pos := "law.go:90", after := #[{ on := 12, ground := Ground.guard }], guard := some (12, true) }) (v := ?_) rfl (by kernel_rfl) (by kernel_rfl) (by kernel_rfl) (fun _ _ _ h => h) (Or.inl ⟨by rfl, ?_⟩) (by assumption) ?_
          rotate_left
          · (intro w hSw; (try dsimp only at hSw); go_simp; try with_reducible rfl)
          try simp only [Act.put, List.setIfInBounds_toArray, List.set_cons_zero, List.set_cons_succ]
          refine wpAnyH_ready (rs := [16]) (by kernel_rfl) (by simp) (AllReadyH.cons (o := { dst := some 21, op := Op.call { callee := Callee.value (Operand.func 20), args := #[Operand.tmp 20], argTypes := #[29] }, type := 2, pos := "law.go:90", after := #[{ on := 15, ground := Ground.data }, { on := 12, ground := Ground.chain }, { on := 12, ground := Ground.guard }], guard := some (12, true) }) rfl (fun K hK => ?_) AllReadyH.nil)
          go_simp
          refine (HEA.out _).mono ?_
          rintro e w3 ⟨rfl, hb3⟩
          dsimp only
          have hB3 := below_step hHeld hb3
          clear hb3
          refine hK.out _ _ (by first | assumption | exact below_drew (by assumption)) (fun hHeld => ?_)
          clear hK K
          try simp only [Act.put, List.setIfInBounds_toArray, List.set_cons_zero, List.set_cons_succ]
          refine wpAnyH_take (i := 17) (oi := { dst := some 22, op := Op.binOp BinOp.lss 2 (Operand.tmp 19) (Operand.tmp 21) 2, type := 4, pos := "law.go:90", after := #[{ on := 14, ground := Ground.data }, { on := 16, ground := Ground.data }, { on := 12, ground := Ground.guard }], guard := some (12, true) }) (v := ?_) rfl (by kernel_rfl) (by kernel_rfl) (by kernel_rfl) (fun _ _ _ h => h) (Or.inl ⟨by rfl, ?_⟩) (by assumption) ?_
          rotate_left
          · (intro w hSw; (try dsimp only at hSw); go_simp; try with_reducible rfl)
          try simp only [Act.put, List.setIfInBounds_toArray, List.set_cons_zero, List.set_cons_succ]
          refine wpAnyH_take (i := 18) (oi := { dst := some 23, op := Op.pick (Operand.tmp 17) (Operand.tmp 22) (Operand.const (Value.bool false)), type := 4, pos := "law.go:90", after := #[{ on := 12, ground := Ground.data }, { on := 17, ground := Ground.data }], guard := none }) (v := ?_) rfl (by kernel_rfl) (by kernel_rfl) (by kernel_rfl) (fun _ _ _ h => h) (Or.inl ⟨by rfl, ?_⟩) (by assumption) ?_
          rotate_left
          · (intro w hSw; (try dsimp only at hSw); go_simp; try with_reducible rfl)
          try simp only [Act.put, List.setIfInBounds_toArray, List.set_cons_zero, List.set_cons_succ]
          refine wpAnyH_take (i := 19) (oi := { dst := some 24, op := Op.move (Operand.tmp 23), type := 4, pos := "law.go:90", after := #[{ on := 18, ground := Ground.data }, { on := 16, ground := Ground.chain }], guard := none }) (v := ?_) rfl (by kernel_rfl) (by kernel_rfl) (by kernel_rfl) (fun _ _ _ h => h) (Or.inl ⟨by rfl, ?_⟩) (by assumption) ?_
          rotate_left
          · (intro w hSw; (try dsimp only at hSw); go_simp; try with_reducible rfl)
          try simp only [Act.put, List.setIfInBounds_toArray, List.set_cons_zero, List.set_cons_succ]
          refine wpAnyH_take (i := 20) (oi := { dst := some 25, op := Op.fieldAddr 29 (Operand.tmp 2) 3, type := 0, pos := "law.go:90", after := #[{ on := 19, ground := Ground.guard }], guard := some (19, true) }) (v := ?_) rfl (by kernel_rfl) (by kernel_rfl) (by kernel_rfl) (fun _ _ _ h => h) (Or.inl ⟨by rfl, ?_⟩) (by assumption) ?_
          rotate_left
          · (intro w hSw; (try dsimp only at hSw); go_simp; try with_reducible rfl)
          try simp only [Act.put, List.setIfInBounds_toArray, List.set_cons_zero, List.set_cons_succ]
          refine wpAnyH_take (i := 21) (oi := { dst := some 26, op := Op.load 4 (Operand.tmp 25), type := 4, pos := "law.go:90", after := #[{ on := 20, ground := Ground.data }, { on := 19, ground := Ground.guard }], guard := some (19, true) }) (v := ?_) rfl (by kernel_rfl) (by kernel_rfl) (by kernel_rfl) (fun _ _ _ h => h) (Or.inl ⟨by rfl, ?_⟩) (by assumption) ?_
          rotate_left
          · (intro w hSw; (try dsimp only at hSw); go_simp; try with_reducible rfl)
          try simp only [Act.put, List.setIfInBounds_toArray, List.set_cons_zero, List.set_cons_succ]
          refine wpAnyH_take (i := 22) (oi := { dst := some 27, op := Op.move (Operand.tmp 26), type := 4, pos := "law.go:90", after := #[{ on := 21, ground := Ground.data }, { on := 19, ground := Ground.chain }, { on := 19, ground := Ground.guard }], guard := some (19, true) }) (v := ?_) rfl (by kernel_rfl) (by kernel_rfl) (by kernel_rfl) (fun _ _ _ h => h) (Or.inl ⟨by rfl, ?_⟩) (by assumption) ?_
          rotate_left
          · (intro w hSw; (try dsimp only at hSw); go_simp; try with_reducible rfl)
          try simp only [Act.put, List.setIfInBounds_toArray, List.set_cons_zero, List.set_cons_succ]
          refine wpAnyH_take (i := 23) (oi := { dst := some 28, op := Op.fieldAddr 29 (Operand.tmp 3) 3, type := 0, pos := "law.go:90", after := #[{ on := 22, ground := Ground.guard }], guard := some (22, false) }) rfl (by kernel_rfl) (by kernel_rfl) (by kernel_rfl) (fun _ _ _ h => h) (Or.inr ⟨by rfl, rfl⟩) (by assumption) ?_
          try simp only [Act.put, List.setIfInBounds_toArray, List.set_cons_zero, List.set_cons_succ]
          refine wpAnyH_take (i := 24) (oi := { dst := some 29, op := Op.load 4 (Operand.tmp 28), type := 4, pos := "law.go:90", after := #[{ on := 23, ground := Ground.data }, { on := 22, ground := Ground.guard }], guard := some (22, false) }) rfl (by kernel_rfl) (by kernel_rfl) (by kernel_rfl) (fun _ _ _ h => h) (Or.inr ⟨by rfl, rfl⟩) (by assumption) ?_
          try simp only [Act.put, List.setIfInBounds_toArray, List.set_cons_zero, List.set_cons_succ]
          refine wpAnyH_take (i := 25) (oi := { dst := some 30, op := Op.pick (Operand.tmp 27) (Operand.const (Value.bool true)) (Operand.tmp 29), type := 4, pos := "law.go:90", after := #[{ on := 22, ground := Ground.data }, { on := 24, ground := Ground.data }, { on := 19, ground := Ground.guard }], guard := some (19, true) }) (v := ?_) rfl (by kernel_rfl) (by kernel_rfl) (by kernel_rfl) (fun _ _ _ h => h) (Or.inl ⟨by rfl, ?_⟩) (by assumption) ?_
          rotate_left
          · (intro w hSw; (try dsimp only at hSw); go_simp; try with_reducible rfl)
          try simp only [Act.put, List.setIfInBounds_toArray, List.set_cons_zero, List.set_cons_succ]
          refine wpAnyH_take (i := 26) (oi := { dst := some 31, op := Op.pick (Operand.tmp 24) (Operand.tmp 30) (Operand.const (Value.bool false)), type := 4, pos := "law.go:90", after := #[{ on := 19, ground := Ground.data }, { on := 25, ground := Ground.data }], guard := none }) (v := ?_) rfl (by kernel_rfl) (by kernel_rfl) (by kernel_rfl) (fun _ _ _ h => h) (Or.inl ⟨by rfl, ?_⟩) (by assumption) ?_
          rotate_left
          · (intro w hSw; (try dsimp only at hSw); go_simp; try with_reducible rfl)
          try simp only [Act.put, List.setIfInBounds_toArray, List.set_cons_zero, List.set_cons_succ]
          refine wpAnyH_take (i := 27) (oi := { dst := some 4, op := Op.assign (Operand.tmp 31), type := 4, pos := "law.go:90", after := _, guard := none }) (v := ?_) rfl (by kernel_rfl) (by kernel_rfl) (by kernel_rfl) (fun _ _ _ h => h) (Or.inl ⟨by rfl, ?_⟩) (by assumption) ?_
          rotate_left
          · (intro w hSw; (try dsimp only at hSw); go_simp; try with_reducible rfl)
          try simp only [Act.put, List.setIfInBounds_toArray, List.set_cons_zero, List.set_cons_succ]
          refine wpAnyH_done (by kernel_rfl) ?_ _
          go_wp2
          go_ret
          exact ⟨rfl, below_back HW.out (by first | assumption | exact below_drew (by assumption))⟩
      · have d3 : decide (b1 < ea) = false := decide_eq_false h3
        rw [d3, Bool.false_and] at hR1
        subst hR1
        clear h3
        refine wp_region_held_drew (S := (fun w' => Below W.heap.size W w')) (by kernel_rfl) (by first | assumption | exact below_drew (by assumption)) (fun hHeld => ?_)
        refine wpAnyH_take (i := 0) (oi := { dst := some 5, op := Op.fieldAddr 29 (Operand.tmp 2) 0, type := 0, pos := "law.go:90", after := #[], guard := none }) (v := ?_) rfl (by kernel_rfl) (by kernel_rfl) (by kernel_rfl) (fun _ _ _ h => h) (Or.inl ⟨by rfl, ?_⟩) (by assumption) ?_
        rotate_left
        · (intro w hSw; (try dsimp only at hSw); go_simp; try with_reducible rfl)
        try simp only [Act.put, List.setIfInBounds_toArray, List.set_cons_zero, List.set_cons_succ]
        refine wpAnyH_take (i := 1) (oi := { dst := some 6, op := Op.load 3 (Operand.tmp 5), type := 3, pos := "law.go:90", after := #[{ on := 0, ground := Ground.data }], guard := none }) (v := ?_) rfl (by kernel_rfl) (by kernel_rfl) (by kernel_rfl) (fun _ _ _ h => h) (Or.inl ⟨by rfl, ?_⟩) (by assumption) ?_
        rotate_left
        · (intro w hSw; (try dsimp only at hSw); go_simp; try with_reducible rfl)
        try simp only [Act.put, List.setIfInBounds_toArray, List.set_cons_zero, List.set_cons_succ]
        refine wpAnyH_take (i := 2) (oi := { dst := some 7, op := Op.fieldAddr 29 (Operand.tmp 3) 0, type := 0, pos := "law.go:90", after := #[], guard := none }) (v := ?_) rfl (by kernel_rfl) (by kernel_rfl) (by kernel_rfl) (fun _ _ _ h => h) (Or.inl ⟨by rfl, ?_⟩) (by assumption) ?_
        rotate_left
        · (intro w hSw; (try dsimp only at hSw); go_simp; try with_reducible rfl)
        try simp only [Act.put, List.setIfInBounds_toArray, List.set_cons_zero, List.set_cons_succ]
        refine wpAnyH_take (i := 3) (oi := { dst := some 8, op := Op.load 3 (Operand.tmp 7), type := 3, pos := "law.go:90", after := #[{ on := 2, ground := Ground.data }], guard := none }) (v := ?_) rfl (by kernel_rfl) (by kernel_rfl) (by kernel_rfl) (fun _ _ _ h => h) (Or.inl ⟨by rfl, ?_⟩) (by assumption) ?_
        rotate_left
        · (intro w hSw; (try dsimp only at hSw); go_simp; try with_reducible rfl)
        try simp only [Act.put, List.setIfInBounds_toArray, List.set_cons_zero, List.set_cons_succ]
        refine wpAnyH_take (i := 4) (oi := { dst := some 9, op := Op.binOp BinOp.neq 3 (Operand.tmp 6) (Operand.tmp 8) 3, type := 4, pos := "law.go:90", after := #[{ on := 1, ground := Ground.data }, { on := 3, ground := Ground.data }], guard := none }) (v := ?_) rfl (by kernel_rfl) (by kernel_rfl) (by kernel_rfl) (fun _ _ _ h => h) (Or.inl ⟨by rfl, ?_⟩) (by assumption) ?_
        rotate_left
        · (intro w hSw; (try dsimp only at hSw); go_simp; try with_reducible rfl)
        try simp only [Act.put, List.setIfInBounds_toArray, List.set_cons_zero, List.set_cons_succ]
        refine wpAnyH_take (i := 5) (oi := { dst := some 10, op := Op.move (Operand.tmp 9), type := 4, pos := "law.go:90", after := #[{ on := 4, ground := Ground.data }], guard := none }) (v := ?_) rfl (by kernel_rfl) (by kernel_rfl) (by kernel_rfl) (fun _ _ _ h => h) (Or.inl ⟨by rfl, ?_⟩) (by assumption) ?_
        rotate_left
        · (intro w hSw; (try dsimp only at hSw); go_simp; try with_reducible rfl)
        try simp only [Act.put, List.setIfInBounds_toArray, List.set_cons_zero, List.set_cons_succ]
        refine wpAnyH_take (i := 6) (oi := { dst := some 11, op := Op.fieldAddr 29 (Operand.tmp 2) 1, type := 0, pos := "law.go:90", after := #[{ on := 5, ground := Ground.guard }], guard := some (5, true) }) (v := ?_) rfl (by kernel_rfl) (by kernel_rfl) (by kernel_rfl) (fun _ _ _ h => h) (Or.inl ⟨by rfl, ?_⟩) (by assumption) ?_
        rotate_left
        · (intro w hSw; (try dsimp only at hSw); go_simp; try with_reducible rfl)
        try simp only [Act.put, List.setIfInBounds_toArray, List.set_cons_zero, List.set_cons_succ]
        refine wpAnyH_take (i := 7) (oi := { dst := some 12, op := Op.load 2 (Operand.tmp 11), type := 2, pos := "law.go:90", after := #[{ on := 6, ground := Ground.data }, { on := 5, ground := Ground.guard }], guard := some (5, true) }) (v := ?_) rfl (by kernel_rfl) (by kernel_rfl) (by kernel_rfl) (fun _ _ _ h => h) (Or.inl ⟨by rfl, ?_⟩) (by assumption) ?_
        rotate_left
        · (intro w hSw; (try dsimp only at hSw); go_simp; try with_reducible rfl)
        try simp only [Act.put, List.setIfInBounds_toArray, List.set_cons_zero, List.set_cons_succ]
        refine wpAnyH_take (i := 8) (oi := { dst := some 13, op := Op.load 29 (Operand.tmp 3), type := 29, pos := "law.go:90", after := #[{ on := 5, ground := Ground.guard }], guard := some (5, true) }) (v := ?_) rfl (by kernel_rfl) (by kernel_rfl) (by kernel_rfl) (fun _ _ _ h => h) (Or.inl ⟨by rfl, ?_⟩) (by assumption) ?_
        rotate_left
        · (intro w hSw; (try dsimp only at hSw); go_simp; try with_reducible rfl)
        try simp only [Act.put, List.setIfInBounds_toArray, List.set_cons_zero, List.set_cons_succ]
        refine wpAnyH_ready (rs := [9]) (by kernel_rfl) (by simp) (AllReadyH.cons (o := { dst := some 14, op := Op.call { callee := Callee.value (Operand.func 20), args := #[Operand.tmp 13], argTypes := #[29] }, type := 2, pos := "law.go:90", after := #[{ on := 8, ground := Ground.data }, { on := 5, ground := Ground.chain }, { on := 5, ground := Ground.guard }], guard := some (5, true) }) rfl (fun K hK => ?_) AllReadyH.nil)
        go_simp
        refine (HEB.out _).mono ?_
        rintro e w2 ⟨rfl, hb2⟩
        dsimp only
        have hB2 := below_step hHeld hb2
        clear hb2
        refine hK.out _ _ (by first | assumption | exact below_drew (by assumption)) (fun hHeld => ?_)
        clear hK K
        try simp only [Act.put, List.setIfInBounds_toArray, List.set_cons_zero, List.set_cons_succ]
        refine wpAnyH_take (i := 10) (oi := { dst := some 15, op := Op.binOp BinOp.lss 2 (Operand.tmp 12) (Operand.tmp 14) 2, type := 4, pos := "law.go:90", after := #[{ on := 7, ground := Ground.data }, { on := 9, ground := Ground.data }, { on := 5, ground := Ground.guard }], guard := some (5, true) }) (v := ?_) rfl (by kernel_rfl) (by kernel_rfl) (by kernel_rfl) (fun _ _ _ h => h) (Or.inl ⟨by rfl, ?_⟩) (by assumption) ?_
        rotate_left
        · (intro w hSw; (try dsimp only at hSw); go_simp; try with_reducible rfl)
        try simp only [Act.put, List.setIfInBounds_toArray, List.set_cons_zero, List.set_cons_succ]
        refine wpAnyH_take (i := 11) (oi := { dst := some 16, op := Op.pick (Operand.tmp 10) (Operand.tmp 15) (Operand.const (Value.bool false)), type := 4, pos := "law.go:90", after := #[{ on := 5, ground := Ground.data }, { on := 10, ground := Ground.data }], guard := none }) (v := ?_) rfl (by kernel_rfl) (by kernel_rfl) (by kernel_rfl) (fun _ _ _ h => h) (Or.inl ⟨by rfl, ?_⟩) (by assumption) ?_
        rotate_left
        · (intro w hSw; (try dsimp only at hSw); go_simp; try with_reducible rfl)
        try simp only [Act.put, List.setIfInBounds_toArray, List.set_cons_zero, List.set_cons_succ]
        refine wpAnyH_take (i := 12) (oi := { dst := some 17, op := Op.move (Operand.tmp 16), type := 4, pos := "law.go:90", after := #[{ on := 11, ground := Ground.data }, { on := 9, ground := Ground.chain }], guard := none }) (v := ?_) rfl (by kernel_rfl) (by kernel_rfl) (by kernel_rfl) (fun _ _ _ h => h) (Or.inl ⟨by rfl, ?_⟩) (by assumption) ?_
        rotate_left
        · (intro w hSw; (try dsimp only at hSw); go_simp; try with_reducible rfl)
        try simp only [Act.put, List.setIfInBounds_toArray, List.set_cons_zero, List.set_cons_succ]
        refine wpAnyH_take (i := 13) (oi := { dst := some 18, op := Op.fieldAddr 29 (Operand.tmp 3) 1, type := 0, pos := "law.go:90", after := #[{ on := 12, ground := Ground.guard }], guard := some (12, true) }) (v := ?_) rfl (by kernel_rfl) (by kernel_rfl) (by kernel_rfl) (fun _ _ _ h => h) (Or.inl ⟨by rfl, ?_⟩) (by assumption) ?_
        rotate_left
        · (intro w hSw; (try dsimp only at hSw); go_simp; try with_reducible rfl)
        try simp only [Act.put, List.setIfInBounds_toArray, List.set_cons_zero, List.set_cons_succ]
        refine wpAnyH_take (i := 14) (oi := { dst := some 19, op := Op.load 2 (Operand.tmp 18), type := 2, pos := "law.go:90", after := #[{ on := 13, ground := Ground.data }, { on := 12, ground := Ground.guard }], guard := some (12, true) }) (v := ?_) rfl (by kernel_rfl) (by kernel_rfl) (by kernel_rfl) (fun _ _ _ h => h) (Or.inl ⟨by rfl, ?_⟩) (by assumption) ?_
        rotate_left
        · (intro w hSw; (try dsimp only at hSw); go_simp; try with_reducible rfl)
        try simp only [Act.put, List.setIfInBounds_toArray, List.set_cons_zero, List.set_cons_succ]
        refine wpAnyH_take (i := 15) (oi := { dst := some 20, op := Op.load 29 (Operand.tmp 2), type := 29, pos := "law.go:90", after := #[{ on := 12, ground := Ground.guard }], guard := some (12, true) }) (v := ?_) rfl (by kernel_rfl) (by kernel_rfl) (by kernel_rfl) (fun _ _ _ h => h) (Or.inl ⟨by rfl, ?_⟩) (by assumption) ?_
        rotate_left
        · (intro w hSw; (try dsimp only at hSw); go_simp; try with_reducible rfl)
        try simp only [Act.put, List.setIfInBounds_toArray, List.set_cons_zero, List.set_cons_succ]
        refine wpAnyH_ready (rs := [16]) (by kernel_rfl) (by simp) (AllReadyH.cons (o := { dst := some 21, op := Op.call { callee := Callee.value (Operand.func 20), args := #[Operand.tmp 20], argTypes := #[29] }, type := 2, pos := "law.go:90", after := #[{ on := 15, ground := Ground.data }, { on := 12, ground := Ground.chain }, { on := 12, ground := Ground.guard }], guard := some (12, true) }) rfl (fun K hK => ?_) AllReadyH.nil)
        go_simp
        refine (HEA.out _).mono ?_
        rintro e w3 ⟨rfl, hb3⟩
        dsimp only
        have hB3 := below_step hHeld hb3
        clear hb3
        refine hK.out _ _ (by first | assumption | exact below_drew (by assumption)) (fun hHeld => ?_)
        clear hK K
        try simp only [Act.put, List.setIfInBounds_toArray, List.set_cons_zero, List.set_cons_succ]
        refine wpAnyH_take (i := 17) (oi := { dst := some 22, op := Op.binOp BinOp.lss 2 (Operand.tmp 19) (Operand.tmp 21) 2, type := 4, pos := "law.go:90", after := #[{ on := 14, ground := Ground.data }, { on := 16, ground := Ground.data }, { on := 12, ground := Ground.guard }], guard := some (12, true) }) (v := ?_) rfl (by kernel_rfl) (by kernel_rfl) (by kernel_rfl) (fun _ _ _ h => h) (Or.inl ⟨by rfl, ?_⟩) (by assumption) ?_
        rotate_left
        · (intro w hSw; (try dsimp only at hSw); go_simp; try with_reducible rfl)
        try simp only [Act.put, List.setIfInBounds_toArray, List.set_cons_zero, List.set_cons_succ]
        refine wpAnyH_take (i := 18) (oi := { dst := some 23, op := Op.pick (Operand.tmp 17) (Operand.tmp 22) (Operand.const (Value.bool false)), type := 4, pos := "law.go:90", after := #[{ on := 12, ground := Ground.data }, { on := 17, ground := Ground.data }], guard := none }) (v := ?_) rfl (by kernel_rfl) (by kernel_rfl) (by kernel_rfl) (fun _ _ _ h => h) (Or.inl ⟨by rfl, ?_⟩) (by assumption) ?_
        rotate_left
        · (intro w hSw; (try dsimp only at hSw); go_simp; try with_reducible rfl)
        try simp only [Act.put, List.setIfInBounds_toArray, List.set_cons_zero, List.set_cons_succ]
        refine wpAnyH_take (i := 19) (oi := { dst := some 24, op := Op.move (Operand.tmp 23), type := 4, pos := "law.go:90", after := #[{ on := 18, ground := Ground.data }, { on := 16, ground := Ground.chain }], guard := none }) (v := ?_) rfl (by kernel_rfl) (by kernel_rfl) (by kernel_rfl) (fun _ _ _ h => h) (Or.inl ⟨by rfl, ?_⟩) (by assumption) ?_
        rotate_left
        · (intro w hSw; (try dsimp only at hSw); go_simp; try with_reducible rfl)
        try simp only [Act.put, List.setIfInBounds_toArray, List.set_cons_zero, List.set_cons_succ]
        refine wpAnyH_take (i := 20) (oi := { dst := some 25, op := Op.fieldAddr 29 (Operand.tmp 2) 3, type := 0, pos := "law.go:90", after := #[{ on := 19, ground := Ground.guard }], guard := some (19, true) }) rfl (by kernel_rfl) (by kernel_rfl) (by kernel_rfl) (fun _ _ _ h => h) (Or.inr ⟨by rfl, rfl⟩) (by assumption) ?_
        try simp only [Act.put, List.setIfInBounds_toArray, List.set_cons_zero, List.set_cons_succ]
        refine wpAnyH_take (i := 21) (oi := { dst := some 26, op := Op.load 4 (Operand.tmp 25), type := 4, pos := "law.go:90", after := #[{ on := 20, ground := Ground.data }, { on := 19, ground := Ground.guard }], guard := some (19, true) }) rfl (by kernel_rfl) (by kernel_rfl) (by kernel_rfl) (fun _ _ _ h => h) (Or.inr ⟨by rfl, rfl⟩) (by assumption) ?_
        try simp only [Act.put, List.setIfInBounds_toArray, List.set_cons_zero, List.set_cons_succ]
        refine wpAnyH_take (i := 22) (oi := { dst := some 27, op := Op.move (Operand.tmp 26), type := 4, pos := "law.go:90", after := #[{ on := 21, ground := Ground.data }, { on := 19, ground := Ground.chain }, { on := 19, ground := Ground.guard }], guard := some (19, true) }) rfl (by kernel_rfl) (by kernel_rfl) (by kernel_rfl) (fun _ _ _ h => h) (Or.inr ⟨by rfl, rfl⟩) (by assumption) ?_
        try simp only [Act.put, List.setIfInBounds_toArray, List.set_cons_zero, List.set_cons_succ]
        refine wpAnyH_take (i := 23) (oi := { dst := some 28, op := Op.fieldAddr 29 (Operand.tmp 3) 3, type := 0, pos := "law.go:90", after := #[{ on := 22, ground := Ground.guard }], guard := some (22, false) }) rfl (by kernel_rfl) (by kernel_rfl) (by kernel_rfl) (fun _ _ _ h => h) (Or.inr ⟨by rfl, rfl⟩) (by assumption) ?_
        try simp only [Act.put, List.setIfInBounds_toArray, List.set_cons_zero, List.set_cons_succ]
        refine wpAnyH_take (i := 24) (oi := { dst := some 29, op := Op.load 4 (Operand.tmp 28), type := 4, pos := "law.go:90", after := #[{ on := 23, ground := Ground.data }, { on := 22, ground := Ground.guard }], guard := some (22, false) }) rfl (by kernel_rfl) (by kernel_rfl) (by kernel_rfl) (fun _ _ _ h => h) (Or.inr ⟨by rfl, rfl⟩) (by assumption) ?_
        try simp only [Act.put, List.setIfInBounds_toArray, List.set_cons_zero, List.set_cons_succ]
        refine wpAnyH_take (i := 25) (oi := { dst := some 30, op := Op.pick (Operand.tmp 27) (Operand.const (Value.bool true)) (Operand.tmp 29), type := 4, pos := "law.go:90", after := #[{ on := 22, ground := Ground.data }, { on := 24, ground := Ground.data }, { on := 19, ground := Ground.guard }], guard := some (19, true) }) rfl (by kernel_rfl) (by kernel_rfl) (by kernel_rfl) (fun _ _ _ h => h) (Or.inr ⟨by rfl, rfl⟩) (by assumption) ?_
        try simp only [Act.put, List.setIfInBounds_toArray, List.set_cons_zero, List.set_cons_succ]
        refine wpAnyH_take (i := 26) (oi := { dst := some 31, op := Op.pick (Operand.tmp 24) (Operand.tmp 30) (Operand.const (Value.bool false)), type := 4, pos := "law.go:90", after := #[{ on := 19, ground := Ground.data }, { on := 25, ground := Ground.data }], guard := none }) (v := ?_) rfl (by kernel_rfl) (by kernel_rfl) (by kernel_rfl) (fun _ _ _ h => h) (Or.inl ⟨by rfl, ?_⟩) (by assumption) ?_
        rotate_left
        · (intro w hSw; (try dsimp only at hSw); go_simp; try with_reducible rfl)
        try simp only [Act.put, List.setIfInBounds_toArray, List.set_cons_zero, List.set_cons_succ]
        refine wpAnyH_take (i := 27) (oi := { dst := some 4, op := Op.assign (Operand.tmp 31), type := 4, pos := "law.go:90", after := _, guard := none }) (v := ?_) rfl (by kernel_rfl) (by kernel_rfl) (by kernel_rfl) (fun _ _ _ h => h) (Or.inl ⟨by rfl, ?_⟩) (by assumption) ?_
        rotate_left
        · (intro w hSw; (try dsimp only at hSw); go_simp; try with_reducible rfl)
        try simp only [Act.put, List.setIfInBounds_toArray, List.set_cons_zero, List.set_cons_succ]
        refine wpAnyH_done (by kernel_rfl) ?_ _
        go_wp2
        go_ret
        exact ⟨rfl, below_back HW.out (by first | assumption | exact below_drew (by assumption))⟩
    · have d2 : decide (a1 < eb) = false := decide_eq_false h2
      rw [d2, Bool.false_and] at hR1
      subst hR1
      clear h2
      refine wp_region_held_drew (S := (fun w' => Below W.heap.size W w')) (by kernel_rfl) (by first | assumption | exact below_drew (by assumption)) (fun hHeld => ?_)
      refine wpAnyH_take (i := 0) (oi := { dst := some 5, op := Op.fieldAddr 29 (Operand.tmp 2) 0, type := 0, pos := "law.go:90", after := #[], guard := none }) (v := ?_) rfl (by kernel_rfl) (by kernel_rfl) (by kernel_rfl) (fun _ _ _ h => h) (Or.inl ⟨by rfl, ?_⟩) (by assumption) ?_
      rotate_left
      · (intro w hSw; (try dsimp only at hSw); go_simp; try with_reducible rfl)
      try simp only [Act.put, List.setIfInBounds_toArray, List.set_cons_zero, List.set_cons_succ]
      refine wpAnyH_take (i := 1) (oi := { dst := some 6, op := Op.load 3 (Operand.tmp 5), type := 3, pos := "law.go:90", after := #[{ on := 0, ground := Ground.data }], guard := none }) (v := ?_) rfl (by kernel_rfl) (by kernel_rfl) (by kernel_rfl) (fun _ _ _ h => h) (Or.inl ⟨by rfl, ?_⟩) (by assumption) ?_
      rotate_left
      · (intro w hSw; (try dsimp only at hSw); go_simp; try with_reducible rfl)
      try simp only [Act.put, List.setIfInBounds_toArray, List.set_cons_zero, List.set_cons_succ]
      refine wpAnyH_take (i := 2) (oi := { dst := some 7, op := Op.fieldAddr 29 (Operand.tmp 3) 0, type := 0, pos := "law.go:90", after := #[], guard := none }) (v := ?_) rfl (by kernel_rfl) (by kernel_rfl) (by kernel_rfl) (fun _ _ _ h => h) (Or.inl ⟨by rfl, ?_⟩) (by assumption) ?_
      rotate_left
      · (intro w hSw; (try dsimp only at hSw); go_simp; try with_reducible rfl)
      try simp only [Act.put, List.setIfInBounds_toArray, List.set_cons_zero, List.set_cons_succ]
      refine wpAnyH_take (i := 3) (oi := { dst := some 8, op := Op.load 3 (Operand.tmp 7), type := 3, pos := "law.go:90", after := #[{ on := 2, ground := Ground.data }], guard := none }) (v := ?_) rfl (by kernel_rfl) (by kernel_rfl) (by kernel_rfl) (fun _ _ _ h => h) (Or.inl ⟨by rfl, ?_⟩) (by assumption) ?_
      rotate_left
      · (intro w hSw; (try dsimp only at hSw); go_simp; try with_reducible rfl)
      try simp only [Act.put, List.setIfInBounds_toArray, List.set_cons_zero, List.set_cons_succ]
      refine wpAnyH_take (i := 4) (oi := { dst := some 9, op := Op.binOp BinOp.neq 3 (Operand.tmp 6) (Operand.tmp 8) 3, type := 4, pos := "law.go:90", after := #[{ on := 1, ground := Ground.data }, { on := 3, ground := Ground.data }], guard := none }) (v := ?_) rfl (by kernel_rfl) (by kernel_rfl) (by kernel_rfl) (fun _ _ _ h => h) (Or.inl ⟨by rfl, ?_⟩) (by assumption) ?_
      rotate_left
      · (intro w hSw; (try dsimp only at hSw); go_simp; try with_reducible rfl)
      try simp only [Act.put, List.setIfInBounds_toArray, List.set_cons_zero, List.set_cons_succ]
      refine wpAnyH_take (i := 5) (oi := { dst := some 10, op := Op.move (Operand.tmp 9), type := 4, pos := "law.go:90", after := #[{ on := 4, ground := Ground.data }], guard := none }) (v := ?_) rfl (by kernel_rfl) (by kernel_rfl) (by kernel_rfl) (fun _ _ _ h => h) (Or.inl ⟨by rfl, ?_⟩) (by assumption) ?_
      rotate_left
      · (intro w hSw; (try dsimp only at hSw); go_simp; try with_reducible rfl)
      try simp only [Act.put, List.setIfInBounds_toArray, List.set_cons_zero, List.set_cons_succ]
      refine wpAnyH_take (i := 6) (oi := { dst := some 11, op := Op.fieldAddr 29 (Operand.tmp 2) 1, type := 0, pos := "law.go:90", after := #[{ on := 5, ground := Ground.guard }], guard := some (5, true) }) (v := ?_) rfl (by kernel_rfl) (by kernel_rfl) (by kernel_rfl) (fun _ _ _ h => h) (Or.inl ⟨by rfl, ?_⟩) (by assumption) ?_
      rotate_left
      · (intro w hSw; (try dsimp only at hSw); go_simp; try with_reducible rfl)
      try simp only [Act.put, List.setIfInBounds_toArray, List.set_cons_zero, List.set_cons_succ]
      refine wpAnyH_take (i := 7) (oi := { dst := some 12, op := Op.load 2 (Operand.tmp 11), type := 2, pos := "law.go:90", after := #[{ on := 6, ground := Ground.data }, { on := 5, ground := Ground.guard }], guard := some (5, true) }) (v := ?_) rfl (by kernel_rfl) (by kernel_rfl) (by kernel_rfl) (fun _ _ _ h => h) (Or.inl ⟨by rfl, ?_⟩) (by assumption) ?_
      rotate_left
      · (intro w hSw; (try dsimp only at hSw); go_simp; try with_reducible rfl)
      try simp only [Act.put, List.setIfInBounds_toArray, List.set_cons_zero, List.set_cons_succ]
      refine wpAnyH_take (i := 8) (oi := { dst := some 13, op := Op.load 29 (Operand.tmp 3), type := 29, pos := "law.go:90", after := #[{ on := 5, ground := Ground.guard }], guard := some (5, true) }) (v := ?_) rfl (by kernel_rfl) (by kernel_rfl) (by kernel_rfl) (fun _ _ _ h => h) (Or.inl ⟨by rfl, ?_⟩) (by assumption) ?_
      rotate_left
      · (intro w hSw; (try dsimp only at hSw); go_simp; try with_reducible rfl)
      try simp only [Act.put, List.setIfInBounds_toArray, List.set_cons_zero, List.set_cons_succ]
      refine wpAnyH_ready (rs := [9]) (by kernel_rfl) (by simp) (AllReadyH.cons (o := { dst := some 14, op := Op.call { callee := Callee.value (Operand.func 20), args := #[Operand.tmp 13], argTypes := #[29] }, type := 2, pos := "law.go:90", after := #[{ on := 8, ground := Ground.data }, { on := 5, ground := Ground.chain }, { on := 5, ground := Ground.guard }], guard := some (5, true) }) rfl (fun K hK => ?_) AllReadyH.nil)
      go_simp
      refine (HEB.out _).mono ?_
      rintro e w2 ⟨rfl, hb2⟩
      dsimp only
      have hB2 := below_step hHeld hb2
      clear hb2
      refine hK.out _ _ (by first | assumption | exact below_drew (by assumption)) (fun hHeld => ?_)
      clear hK K
      try simp only [Act.put, List.setIfInBounds_toArray, List.set_cons_zero, List.set_cons_succ]
      refine wpAnyH_take (i := 10) (oi := { dst := some 15, op := Op.binOp BinOp.lss 2 (Operand.tmp 12) (Operand.tmp 14) 2, type := 4, pos := "law.go:90", after := #[{ on := 7, ground := Ground.data }, { on := 9, ground := Ground.data }, { on := 5, ground := Ground.guard }], guard := some (5, true) }) (v := ?_) rfl (by kernel_rfl) (by kernel_rfl) (by kernel_rfl) (fun _ _ _ h => h) (Or.inl ⟨by rfl, ?_⟩) (by assumption) ?_
      rotate_left
      · (intro w hSw; (try dsimp only at hSw); go_simp; try with_reducible rfl)
      try simp only [Act.put, List.setIfInBounds_toArray, List.set_cons_zero, List.set_cons_succ]
      refine wpAnyH_take (i := 11) (oi := { dst := some 16, op := Op.pick (Operand.tmp 10) (Operand.tmp 15) (Operand.const (Value.bool false)), type := 4, pos := "law.go:90", after := #[{ on := 5, ground := Ground.data }, { on := 10, ground := Ground.data }], guard := none }) (v := ?_) rfl (by kernel_rfl) (by kernel_rfl) (by kernel_rfl) (fun _ _ _ h => h) (Or.inl ⟨by rfl, ?_⟩) (by assumption) ?_
      rotate_left
      · (intro w hSw; (try dsimp only at hSw); go_simp; try with_reducible rfl)
      try simp only [Act.put, List.setIfInBounds_toArray, List.set_cons_zero, List.set_cons_succ]
      refine wpAnyH_take (i := 12) (oi := { dst := some 17, op := Op.move (Operand.tmp 16), type := 4, pos := "law.go:90", after := #[{ on := 11, ground := Ground.data }, { on := 9, ground := Ground.chain }], guard := none }) (v := ?_) rfl (by kernel_rfl) (by kernel_rfl) (by kernel_rfl) (fun _ _ _ h => h) (Or.inl ⟨by rfl, ?_⟩) (by assumption) ?_
      rotate_left
      · (intro w hSw; (try dsimp only at hSw); go_simp; try with_reducible rfl)
      try simp only [Act.put, List.setIfInBounds_toArray, List.set_cons_zero, List.set_cons_succ]
      refine wpAnyH_take (i := 13) (oi := { dst := some 18, op := Op.fieldAddr 29 (Operand.tmp 3) 1, type := 0, pos := "law.go:90", after := #[{ on := 12, ground := Ground.guard }], guard := some (12, true) }) rfl (by kernel_rfl) (by kernel_rfl) (by kernel_rfl) (fun _ _ _ h => h) (Or.inr ⟨by rfl, rfl⟩) (by assumption) ?_
      try simp only [Act.put, List.setIfInBounds_toArray, List.set_cons_zero, List.set_cons_succ]
      refine wpAnyH_take (i := 14) (oi := { dst := some 19, op := Op.load 2 (Operand.tmp 18), type := 2, pos := "law.go:90", after := #[{ on := 13, ground := Ground.data }, { on := 12, ground := Ground.guard }], guard := some (12, true) }) rfl (by kernel_rfl) (by kernel_rfl) (by kernel_rfl) (fun _ _ _ h => h) (Or.inr ⟨by rfl, rfl⟩) (by assumption) ?_
      try simp only [Act.put, List.setIfInBounds_toArray, List.set_cons_zero, List.set_cons_succ]
      refine wpAnyH_take (i := 15) (oi := { dst := some 20, op := Op.load 29 (Operand.tmp 2), type := 29, pos := "law.go:90", after := #[{ on := 12, ground := Ground.guard }], guard := some (12, true) }) rfl (by kernel_rfl) (by kernel_rfl) (by kernel_rfl) (fun _ _ _ h => h) (Or.inr ⟨by rfl, rfl⟩) (by assumption) ?_
      try simp only [Act.put, List.setIfInBounds_toArray, List.set_cons_zero, List.set_cons_succ]
      refine wpAnyH_take (i := 16) (oi := { dst := some 21, op := Op.call { callee := Callee.value (Operand.func 20), args := #[Operand.tmp 20], argTypes := #[29] }, type := 2, pos := "law.go:90", after := #[{ on := 15, ground := Ground.data }, { on := 12, ground := Ground.chain }, { on := 12, ground := Ground.guard }], guard := some (12, true) }) rfl (by kernel_rfl) (by kernel_rfl) (by kernel_rfl) (fun _ _ _ h => h) (Or.inr ⟨by rfl, rfl⟩) (by assumption) ?_
      try simp only [Act.put, List.setIfInBounds_toArray, List.set_cons_zero, List.set_cons_succ]
      refine wpAnyH_take (i := 17) (oi := { dst := some 22, op := Op.binOp BinOp.lss 2 (Operand.tmp 19) (Operand.tmp 21) 2, type := 4, pos := "law.go:90", after := #[{ on := 14, ground := Ground.data }, { on := 16, ground := Ground.data }, { on := 12, ground := Ground.guard }], guard := some (12, true) }) rfl (by kernel_rfl) (by kernel_rfl) (by kernel_rfl) (fun _ _ _ h => h) (Or.inr ⟨by rfl, rfl⟩) (by assumption) ?_
      try simp only [Act.put, List.setIfInBounds_toArray, List.set_cons_zero, List.set_cons_succ]
      refine wpAnyH_take (i := 18) (oi := { dst := some 23, op := Op.pick (Operand.tmp 17) (Operand.tmp 22) (Operand.const (Value.bool false)), type := 4, pos := "law.go:90", after := #[{ on := 12, ground := Ground.data }, { on := 17, ground := Ground.data }], guard := none }) (v := ?_) rfl (by kernel_rfl) (by kernel_rfl) (by kernel_rfl) (fun _ _ _ h => h) (Or.inl ⟨by rfl, ?_⟩) (by assumption) ?_
      rotate_left
      · (intro w hSw; (try dsimp only at hSw); go_simp; try with_reducible rfl)
      try simp only [Act.put, List.setIfInBounds_toArray, List.set_cons_zero, List.set_cons_succ]
      refine wpAnyH_take (i := 19) (oi := { dst := some 24, op := Op.move (Operand.tmp 23), type := 4, pos := "law.go:90", after := #[{ on := 18, ground := Ground.data }, { on := 16, ground := Ground.chain }], guard := none }) (v := ?_) rfl (by kernel_rfl) (by kernel_rfl) (by kernel_rfl) (fun _ _ _ h => h) (Or.inl ⟨by rfl, ?_⟩) (by assumption) ?_
      rotate_left
      · (intro w hSw; (try dsimp only at hSw); go_simp; try with_reducible rfl)
      try simp only [Act.put, List.setIfInBounds_toArray, List.set_cons_zero, List.set_cons_succ]
      refine wpAnyH_take (i := 20) (oi := { dst := some 25, op := Op.fieldAddr 29 (Operand.tmp 2) 3, type := 0, pos := "law.go:90", after := #[{ on := 19, ground := Ground.guard }], guard := some (19, true) }) rfl (by kernel_rfl) (by kernel_rfl) (by kernel_rfl) (fun _ _ _ h => h) (Or.inr ⟨by rfl, rfl⟩) (by assumption) ?_
      try simp only [Act.put, List.setIfInBounds_toArray, List.set_cons_zero, List.set_cons_succ]
      refine wpAnyH_take (i := 21) (oi := { dst := some 26, op := Op.load 4 (Operand.tmp 25), type := 4, pos := "law.go:90", after := #[{ on := 20, ground := Ground.data }, { on := 19, ground := Ground.guard }], guard := some (19, true) }) rfl (by kernel_rfl) (by kernel_rfl) (by kernel_rfl) (fun _ _ _ h => h) (Or.inr ⟨by rfl, rfl⟩) (by assumption) ?_
      try simp only [Act.put, List.setIfInBounds_toArray, List.set_cons_zero, List.set_cons_succ]
      refine wpAnyH_take (i := 22) (oi := { dst := some 27, op := Op.move (Operand.tmp 26), type := 4, pos := "law.go:90", after := #[{ on := 21, ground := Ground.data }, { on := 19, ground := Ground.chain }, { on := 19, ground := Ground.guard }], guard := some (19, true) }) rfl (by kernel_rfl) (by kernel_rfl) (by kernel_rfl) (fun _ _ _ h => h) (Or.inr ⟨by rfl, rfl⟩) (by assumption) ?_
      try simp only [Act.put, List.setIfInBounds_toArray, List.set_cons_zero, List.set_cons_succ]
      refine wpAnyH_take (i := 23) (oi := { dst := some 28, op := Op.fieldAddr 29 (Operand.tmp 3) 3, type := 0, pos := "law.go:90", after := #[{ on := 22, ground := Ground.guard }], guard := some (22, false) }) rfl (by kernel_rfl) (by kernel_rfl) (by kernel_rfl) (fun _ _ _ h => h) (Or.inr ⟨by rfl, rfl⟩) (by assumption) ?_
      try simp only [Act.put, List.setIfInBounds_toArray, List.set_cons_zero, List.set_cons_succ]
      refine wpAnyH_take (i := 24) (oi := { dst := some 29, op := Op.load 4 (Operand.tmp 28), type := 4, pos := "law.go:90", after := #[{ on := 23, ground := Ground.data }, { on := 22, ground := Ground.guard }], guard := some (22, false) }) rfl (by kernel_rfl) (by kernel_rfl) (by kernel_rfl) (fun _ _ _ h => h) (Or.inr ⟨by rfl, rfl⟩) (by assumption) ?_
      try simp only [Act.put, List.setIfInBounds_toArray, List.set_cons_zero, List.set_cons_succ]
      refine wpAnyH_take (i := 25) (oi := { dst := some 30, op := Op.pick (Operand.tmp 27) (Operand.const (Value.bool true)) (Operand.tmp 29), type := 4, pos := "law.go:90", after := #[{ on := 22, ground := Ground.data }, { on := 24, ground := Ground.data }, { on := 19, ground := Ground.guard }], guard := some (19, true) }) rfl (by kernel_rfl) (by kernel_rfl) (by kernel_rfl) (fun _ _ _ h => h) (Or.inr ⟨by rfl, rfl⟩) (by assumption) ?_
      try simp only [Act.put, List.setIfInBounds_toArray, List.set_cons_zero, List.set_cons_succ]
      refine wpAnyH_take (i := 26) (oi := { dst := some 31, op := Op.pick (Operand.tmp 24) (Operand.tmp 30) (Operand.const (Value.bool false)), type := 4, pos := "law.go:90", after := #[{ on := 19, ground := Ground.data }, { on := 25, ground := Ground.data }], guard := none }) (v := ?_) rfl (by kernel_rfl) (by kernel_rfl) (by kernel_rfl) (fun _ _ _ h => h) (Or.inl ⟨by rfl, ?_⟩) (by assumption) ?_
      rotate_left
      · (intro w hSw; (try dsimp only at hSw); go_simp; try with_reducible rfl)
      try simp only [Act.put, List.setIfInBounds_toArray, List.set_cons_zero, List.set_cons_succ]
      refine wpAnyH_take (i := 27) (oi := { dst := some 4, op := Op.assign (Operand.tmp 31), type := 4, pos := "law.go:90", after := _, guard := none }) (v := ?_) rfl (by kernel_rfl) (by kernel_rfl) (by kernel_rfl) (fun _ _ _ h => h) (Or.inl ⟨by rfl, ?_⟩) (by assumption) ?_
      rotate_left
      · (intro w hSw; (try dsimp only at hSw); go_simp; try with_reducible rfl)
      try simp only [Act.put, List.setIfInBounds_toArray, List.set_cons_zero, List.set_cons_succ]
      refine wpAnyH_done (by kernel_rfl) ?_ _
      go_wp2
      go_ret
      exact ⟨rfl, below_back HW.out (by first | assumption | exact below_drew (by assumption))⟩
end
section
set_option linter.unusedVariables false
set_option linter.unusedSimpArgs false
open Go.RowKit Go.Maps Go.Sort Go.Lib Go.Shelf Go.Proofs.YtoolflmaaooplaaGreatW.PrintWords Go.Proofs.YtoolflmaaooplaaGreatW.PrintLast Go.Proofs.YtoolflmaaooplaaGreatW.PrintMore FLib
attribute [local go_sem] below_alloc_T below_drew_T below_drewN_T

def idxP (f : Lk → Bool) (Q : List Lk) : Int := if Q.any f then (Q.findIdx f : Int) else -1
set_option maxRecDepth 100000 in
set_option maxHeartbeats 1000000 in
theorem indexp_any (f : Lk → Bool) (fn : Nat) (lb : Array Value) (hen : ∀ args w, (callFunc fn args).run Tryz.prog w = .ok (.enter fn args) w) (base : Nat) (v : Value) (Q : List Lk) (hq : Q.length ≤ 100000) (w : World) (h : w.ownsRow base 29 4 v Q.length (lflat Q))
    (hf : ∀ x ∈ Q, ∀ W, Below w.heap.size w W → Calls Tryz.prog fn (#[lkV x] ++ lb) W fun e w' => e = .returned (.bool (f x)) ∧ Below W.heap.size W w') :
    Calls Tryz.prog 19 #[v, .func (.func fn) #[] lb] w fun e w' => (∃ i, e = .returned (.int .i64 i) ∧ decide (0 ≤ i) = Q.any f) ∧ Below w.heap.size w w' := by
  have HR := Lib.hid h
  have HL := Lib.hid hq
  have HF := Lib.hid hf
  rcases row_form h with ⟨rfl, hz⟩ | ⟨g, c, rfl⟩
  · have hE := Lib.hid (show Q = [] by cases Q with | nil => rfl | cons a l => cases hz)
    clear h hq hz hf
    go_enter Tryz.func19, Tryz.ntmps19
    go_wp2
    refine wp_loop_rounds 1 ?_
    rw [rounds_succ]
    go_wp2
    go_ret
    exact ⟨⟨-1, rfl, by rw [hE.out]; rfl⟩, Below.refl _ _⟩
  · clear h hq hf
    go_enter Tryz.func19, Tryz.ntmps19
    go_wp2
    go_loopw [8] (fun t wr => ∃ k : Nat, k ≤ Q.length ∧ t = .int .i64 k ∧ Hid (∀ y ∈ Q.take k, f y = false) ∧ Hid (Below w.heap.size w wr)) (fun t _ => Q.length - (RowKit.intOf t).toNat)
    case atStart => exact ⟨0, Nat.zero_le _, rfl, Lib.hid (by simp), Lib.hid (Below.refl _ _)⟩
    case round =>
      obtain ⟨k, hk, rfl, hI, hBw⟩ := hrel
      have hlr : (Q.length : Int) ≤ 100000 := by have := HL.out; omega
      by_cases hlt : k < Q.length
      · obtain ⟨x, hx⟩ : ∃ x, Q[k]? = some x := ⟨_, List.getElem?_eq_getElem hlt⟩
        obtain ⟨p0, p1, p2, p3⟩ := row_lk (pw_own_below HR.out hBw.out) hx
        have HC := Lib.hid (HF.out x (List.mem_of_getElem? hx) wr hBw.out)
        have hk0 : (0 : Int) ≤ (k : Int) := by omega
        have hk1 : (k : Int) < (Q.length : Int) := by omega
        have HKL := Lib.hid hlt
        have HX := Lib.hid hx
        simp only [lkV] at HC
        clear hx hlt
        cases hfx : f x
        · rw [hfx] at HC
          have HFX := Lib.hid hfx
          clear hfx
          go_wp2_with (go_at_fn fn; refine HC.out.mono ?_; rintro e w3 ⟨rfl, hb3⟩; have HB3 := Lib.hid (below_step hBw.out hb3); clear hb3)
          go_roundw
          case rel => exact ⟨k + 1, by have := HKL.out; omega, by go_num, Lib.hid (fun y hy => by
            rw [List.take_add_one, HX.out] at hy
            rcases List.mem_append.1 hy with hy | hy
            · exact hI.out y hy
            · have : y = x := by simpa using hy
              rw [this]; exact HFX.out), HB3⟩
          case measure => have := HKL.out; simp [RowKit.intOf]; omega
        · rw [hfx] at HC
          have HFX := Lib.hid hfx
          clear hfx
          go_wp2_with (go_at_fn fn; refine HC.out.mono ?_; rintro e w3 ⟨rfl, hb3⟩; have HB3 := Lib.hid (below_step hBw.out hb3); clear hb3)
          go_ret
          refine ⟨⟨(k : Int), rfl, ?_⟩, HB3.out⟩
          rw [show Q.any f = true from List.any_eq_true.2 ⟨x, List.mem_of_getElem? HX.out, HFX.out⟩]
          exact decide_eq_true (by omega)
      · obtain rfl : k = Q.length := by omega
        have hE := Lib.hid (show Q.any f = false by
          rw [List.any_eq_false]; intro y hy; have := hI.out; rw [List.take_length] at this; rw [this y hy]; simp)
        clear hlt
        go_wp2
        go_ret
        exact ⟨⟨-1, rfl, by rw [hE.out]; rfl⟩, hBw.out⟩
theorem cont_any (f : Lk → Bool) (fn : Nat) (lb : Array Value) (hen : ∀ args w, (callFunc fn args).run Tryz.prog w = .ok (.enter fn args) w) (base : Nat) (v : Value) (Q : List Lk) (hq : Q.length ≤ 100000) (w : World) (h : w.ownsRow base 29 4 v Q.length (lflat Q))
    (hf : ∀ x ∈ Q, ∀ W, Below w.heap.size w W → Calls Tryz.prog fn (#[lkV x] ++ lb) W fun e w' => e = .returned (.bool (f x)) ∧ Below W.heap.size W w') :
    Calls Tryz.prog 7 #[v, .func (.func fn) #[] lb] w fun e w' => e = .returned (.bool (Q.any f)) ∧ Below w.heap.size w w' := by
  have HI := Lib.hid (indexp_any f fn lb hen base v Q hq w h hf)
  clear h hf hq hen
  go_enter Tryz.func7, Tryz.ntmps7
  go_wp2_with fail
  refine HI.out.mono ?_
  rintro e w1 ⟨⟨i, rfl, hi⟩, hb⟩
  have HB := Lib.hid (And.intro hi hb)
  clear hi hb
  go_wp2
  go_ret
  exact ⟨by rw [← HB.out.1]; rfl, HB.out.2⟩
end
section
set_option linter.unusedVariables false
set_option linter.unusedSimpArgs false
open Go.RowKit Go.Maps Go.Sort Go.Lib Go.Shelf Go.Proofs.YtoolflmaaooplaaGreatW.PrintWords Go.Proofs.YtoolflmaaooplaaGreatW.PrintLast Go.Proofs.YtoolflmaaooplaaGreatW.PrintMore FLib
attribute [local go_sem] below_alloc_T below_drew_T below_drewN_T

/-- What the acts leave. -/
def plT (L : List (Int × Lk)) : Tb := (playF (mod8 L)).1
def plQ (L : List (Int × Lk)) : List Lk := (playF (mod8 L)).2
theorem play_all {w : World} {a : Option Addr} {len : Nat} {L : List (Int × Lk)} (h : Opens2.ActRow w a len L) (hl : len ≤ 60) : GI (2 * len) (plT L) (plQ L) := by
  have h2 := play_gi h hl len (Nat.le_refl _)
  rw [List.take_of_length_le (by rw [mod8_len, h.1]; exact Nat.le_refl _)] at h2
  exact h2
set_option maxRecDepth 100000 in
set_option maxHeartbeats 1000000 in
theorem played_any (a : Option Addr) (len cap : Nat) (L : List (Int × Lk)) (hlen : len ≤ 60) (w : World) (h : Opens2.ActRow w a len L) :
    Calls Tryz.prog 5 #[.slice a len cap] w fun e w' => ∃ p mb, e = .returned (.pointer (some ⟨p, 0, none⟩)) ∧ PT w w' p mb w'.heap.size (plT L) (plQ L) ∧ Below w.heap.size w w' := by
    have HH := Lib.hid h
    have HG := Lib.hid (fun k hk => play_gi h hlen k hk)
    have HL := Lib.hid hlen
    have HF := Lib.hid (show (mod8 L).take len = mod8 L from List.take_of_length_le (by rw [mod8_len, h.1]; exact Nat.le_refl _))
    clear h hlen
    go_enter Tryz.func5, Tryz.ntmps5
    go_wp2_with fail
    refine (new_c (W0 := w) (Nat.le_refl _)).mono ?_
    rintro e w2 ⟨p, mb, rfl, hP2, hb2⟩
    go_wp2_with fail
    refine (rnew_c (W0 := w) hb2.size).mono ?_
    rintro e w3 ⟨q, rfl, hR3, hb3⟩
    have H3 := Lib.hid (And.intro ((hP2.below hb3).up' hb3.size) (And.intro hR3 (below_back hb2 hb3)))
    clear hP2 hb2 hR3 hb3
    go_wp2
    go_loopw [11] (fun t wr => ∃ k : Nat, k ≤ len ∧ t = .int .i64 k ∧ Hid (PT w wr p mb wr.heap.size (playF ((mod8 L).take k)).1 (playF ((mod8 L).take k)).2) ∧ Hid (RTt w wr q wr.heap.size (flatP (playF ((mod8 L).take k)).1) (playF ((mod8 L).take k)).2) ∧ Hid (Below w.heap.size w wr)) (fun t _ => len - (RowKit.intOf t).toNat)
    case atStart => exact ⟨0, Nat.zero_le _, rfl, Lib.hid H3.out.1, Lib.hid H3.out.2.1, Lib.hid H3.out.2.2⟩
    case round =>
      obtain ⟨k, hk, rfl, hP, hR, hB⟩ := hrel
      have hlr : (len : Int) ≤ 60 := by have := HL.out; omega
      by_cases hlt : k < len
      · obtain ⟨x, hx⟩ : ∃ x, L[k]? = some x := ⟨_, List.getElem?_eq_getElem (by rw [HH.out.1]; exact hlt)⟩
        obtain ⟨hkd, hwf, A, hA, d0, dj⟩ := HH.out.2.2 k x hx
        subst hA
        have c0 := pw_cell_below hB.out d0
        have c1 := pw_cell_below hB.out (dj 1 (.int .i64 x.2.own) (by omega) rfl)
        have c2 := pw_cell_below hB.out (dj 2 (.int .i64 x.2.st) (by omega) rfl)
        have c3 := pw_cell_below hB.out (dj 3 (.int .i64 x.2.len) (by omega) rfl)
        have c4 := pw_cell_below hB.out (dj 4 (.bool x.2.ex) (by omega) rfl)
        have hk0 : (0 : Int) ≤ (k : Int) := by omega
        have hk1 : (k : Int) < (len : Int) := by omega
        have hb5 := below_alloc (Below.refl wr.heap.size wr) (.cells (actC x.1 x.2).toArray 42)
        have HDO := Lib.hid (do_any w p mb q wr.heap.size (2 * k) _ _ (HG.out k hk) (by omega) x.1 hkd x.2 hwf (wr.alloc (.cells (actC x.1 x.2).toArray 42)) (below_alloc hB.out _) (by simp) (hP.out.below hb5) (hR.out.below hb5))
        have HX := Lib.hid (And.intro hlt (playF_snoc (mod8_at hx)))
        simp only [actC, actV] at HDO
        clear hx hkd hwf d0 dj hb5 hlt hP hR
        go_wp2_with fail
        refine HDO.out.mono ?_
        rintro e w5 ⟨rfl, hP5, hR5, hB5⟩
        have H5 := Lib.hid (And.intro hP5 (And.intro hR5 hB5))
        clear hP5 hR5 hB5 c0 c1 c2 c3 c4
        go_wp2
        go_roundw
        case rel => exact ⟨k + 1, by have := HX.out.1; omega, by go_num, Lib.hid (by rw [HX.out.2]; exact H5.out.1), Lib.hid (by rw [HX.out.2]; exact H5.out.2.1), Lib.hid H5.out.2.2⟩
        case measure => have := HX.out.1; simp [RowKit.intOf]; omega
      · obtain rfl : k = len := by omega
        rw [HF.out] at hP
        clear hlt
        go_wp2
        go_ret
        exact ⟨p, mb, rfl, hP.out, hB.out⟩
end
section
set_option linter.unusedVariables false
set_option linter.unusedSimpArgs false
open Go.RowKit Go.Maps Go.Sort Go.Lib Go.Shelf Go.Proofs.YtoolflmaaooplaaGreatW.PrintWords Go.Proofs.YtoolflmaaooplaaGreatW.PrintLast Go.Proofs.YtoolflmaaooplaaGreatW.PrintMore FLib

theorem okl_all {o s n : Int} (h : okL o s n = true) : 0 ≤ o ∧ 0 ≤ s ∧ s ≤ 16384 ∧ 0 ≤ n ∧ n ≤ 16384 := by
  unfold okL at h
  simpa using h
theorem endj_ok {o s n : Int} (h : okL o s n = true) : endJ s n = hh (endI s n) := by
  have := okl_all h
  unfold endJ hh endI
  by_cases hn : n = 0
  · rw [if_pos hn, if_pos hn, if_pos rfl]
  · rw [if_neg hn, if_neg hn, if_neg (by omega)]
theorem near_ok {x : Lk} (h : okL x.own x.st x.len = true) : NearL x := by
  have := okl_all h
  unfold NearL
  omega
def SpFit (s : Sp) : Prop := FitS s ∧ 0 ≤ s.lo ∧ s.lo < s.hi ∧ s.hi ≤ 1152921504606846976
theorem TInv.spfit {T : Tb} (h : TInv T) {z : Int × List Sp} (hz : z ∈ T) {s : Sp} (hs : s ∈ z.2) : SpFit s := ⟨h.fit z hz s hs, (h.ok.sp z hz).each s hs⟩
theorem near_lock {o : Int} {s : Sp} (h : SpFit s) : NearL (lockI s o) := by
  have h1 := h.1.1
  have h2 := h.1.2
  have h3 := h.2
  unfold FitH at h2
  unfold NearL lockI
  dsimp only
  split <;> omega
theorem endj_lock {o : Int} {s : Sp} (h : SpFit s) : endJ (lockI s o).st (lockI s o).len = hh s.hi := by
  have h1 := h.1.1
  have h2 := h.1.2
  have h3 := h.2
  unfold FitH at h2
  unfold endJ lockI hh
  dsimp only
  by_cases hf : s.hi = 1152921504606846976
  · rw [if_pos hf, if_pos rfl, if_pos hf]
  · rw [if_neg hf, if_neg (by omega), if_neg hf]
    omega
theorem conf_J {x : Lk} (hx : okL x.own x.st x.len = true) {o : Int} {s : Sp} (h : SpFit s) : confJ x (lockI s o) = confB o x s := by
  have hf := fit_span hx
  unfold confJ confB overI
  rw [endj_lock h, endj_ok hx]
  have e1 : decide (x.st < hh s.hi) = decide ((spanI x).lo < s.hi) := by rw [decide_eq_decide]; exact hh_lt hf.1 h.1.2
  have e2 : decide ((lockI s o).st < hh (endI x.st x.len)) = decide (s.lo < (spanI x).hi) := by rw [decide_eq_decide]; exact hh_lt h.1.1 hf.2
  rw [e1, e2]
  have e3 : (x.own != (lockI s o).own) = (o != x.own) := by
    show (x.own != o) = (o != x.own)
    rw [Bool.eq_iff_iff]; simp only [bne_iff_ne]; exact ne_comm
  rw [e3]
  show ((o != x.own) && (decide ((spanI x).lo < s.hi) && (decide (s.lo < (spanI x).hi) && (x.ex || s.ex)))) = _
  cases decide ((spanI x).lo < s.hi) <;> cases decide (s.lo < (spanI x).hi) <;> cases x.ex <;> cases s.ex <;> rfl
theorem confJ_comm (a b : Lk) : confJ a b = confJ b a := by
  unfold confJ
  have e3 : (a.own != b.own) = (b.own != a.own) := by rw [Bool.eq_iff_iff]; simp only [bne_iff_ne]; exact ne_comm
  rw [e3]
  cases decide (a.st < endJ b.st b.len) <;> cases decide (b.st < endJ a.st a.len) <;> cases a.ex <;> cases b.ex <;> rfl
theorem mem_gran {T : Tb} {y : Lk} : y ∈ tGran T ↔ ∃ z ∈ T, ∃ s ∈ z.2, y = lockI s z.1 := by
  unfold tGran
  rw [List.mem_flatMap]
  constructor
  · rintro ⟨z, hz, hy⟩
    obtain ⟨s, hs, rfl⟩ := List.mem_map.1 hy
    exact ⟨z, hz, s, hs, rfl⟩
  · rintro ⟨z, hz, s, hs, rfl⟩
    exact ⟨z, hz, List.mem_map.2 ⟨s, hs, rfl⟩⟩
theorem mem_conf {T : Tb} {x y : Lk} : y ∈ tConf T x ↔ ∃ z ∈ T, ∃ s ∈ z.2, confB z.1 x s = true ∧ y = lockI s z.1 := by
  unfold tConf
  rw [List.mem_flatMap]
  constructor
  · rintro ⟨z, hz, hy⟩
    obtain ⟨s, hs, rfl⟩ := List.mem_map.1 hy
    obtain ⟨h1, h2⟩ := List.mem_filter.1 hs
    exact ⟨z, hz, s, h1, h2, rfl⟩
  · rintro ⟨z, hz, s, hs, h2, rfl⟩
    exact ⟨z, hz, List.mem_map.2 ⟨s, List.mem_filter.2 ⟨hs, h2⟩, rfl⟩⟩
/-- The granted locks that conflict, by the law's own test. -/
theorem conf_gran {T : Tb} (h : TInv T) {x y : Lk} (hx : okL x.own x.st x.len = true) : y ∈ tConf T x ↔ y ∈ tGran T ∧ confJ x y = true := by
  rw [mem_conf, mem_gran]
  constructor
  · rintro ⟨z, hz, s, hs, hc, rfl⟩
    exact ⟨⟨z, hz, s, hs, rfl⟩, by rw [conf_J hx (h.spfit hz hs)]; exact hc⟩
  · rintro ⟨⟨z, hz, s, hs, rfl⟩, hc⟩
    exact ⟨z, hz, s, hs, by rw [← conf_J hx (h.spfit hz hs)]; exact hc, rfl⟩
theorem near_gran {T : Tb} (h : TInv T) {y : Lk} (hy : y ∈ tGran T) : NearL y := by
  obtain ⟨z, hz, s, hs, rfl⟩ := mem_gran.1 hy
  exact near_lock (h.spfit hz hs)
theorem grB_of {B : Nat} {T : Tb} {Q : List Lk} (h : GI B T Q) (hB : B ≤ 180) {l : Lk} (hw : (Lit.int .i64 l.own).wf = true) (hl : okL l.own l.st l.len = true) (h3 : (tConf T l).isEmpty = true) : grB T l = true := by
  have hsz := h.size
  have hg := grT_ok h.inv.ok hl hw (by omega)
  have hlen : (rwithP (flatP T) (rofI l)).length = tAll (grT T l) := by
    have h1 := grT_flat h.inv hl
    unfold rgrT at h1
    rw [h1, flatP_len]
  unfold grB
  rw [h3]
  have := with_len h.inv hl
  simp only [Bool.true_and, decide_eq_true_eq]
  omega
/-- Test and Set beside each other. -/
theorem tests_cases {B : Nat} {T : Tb} {Q : List Lk} (h : GI B T Q) (hB : B ≤ 180) (x : Lk) (hw : (Lit.int .i64 x.own).wf = true) (hn : Q.any (fun y => y.own == x.own) = false) :
    (testV T x = .tuple #[lkV ⟨0, 0, 0, false⟩, .bool false, .int .i64 34] ∧ (setF T Q x false).1.1 = false ∧ (setF T Q x false).1.2.2 = 34) ∨
    (testV T x = .tuple #[lkV ⟨0, 0, 0, false⟩, .bool false, .int .i64 0] ∧ (setF T Q x false).1.1 = true ∧ (setF T Q x false).1.2.2 = 0) ∨
    (∃ y, testV T x = .tuple #[lkV y, .bool true, .int .i64 0] ∧ (setF T Q x false).1.1 = false ∧ (setF T Q x false).1.2.2 = 2 ∧ NearL x ∧ NearL y ∧ confJ x y = true) := by
  unfold testV setF
  by_cases hx : okL x.own x.st x.len = true
  · rw [if_pos hx, if_neg (by rw [hx]; simp)]
    have hf : ¬ fdI Q x.own < Q.length := fun hf => by
      rw [List.any_eq_false] at hn
      have := List.findIdx_getElem (p := fun l : Lk => l.own == x.own) (xs := Q) (w := hf)
      exact hn _ (List.getElem_mem _) this
    rw [if_neg hf]
    by_cases h3 : (tConf T x).isEmpty = true
    · rw [if_pos h3, if_pos (grB_of h hB hw hx h3)]
      rw [List.isEmpty_iff.1 h3]
      exact .inr (.inl ⟨rfl, rfl, rfl⟩)
    · rw [if_neg h3, if_pos rfl]
      obtain ⟨y, l, hy⟩ : ∃ y l, tConf T x = y :: l := by
        cases hc : tConf T x with
        | nil => rw [hc] at h3; simp at h3
        | cons y l => exact ⟨y, l, rfl⟩
      have hm := (conf_gran h.inv hx (y := y)).1 (by rw [hy]; exact List.mem_cons_self ..)
      rw [hy]
      exact .inr (.inr ⟨y, rfl, rfl, rfl, near_ok hx, near_gran h.inv hm.1, hm.2⟩)
  · rw [if_neg hx, if_pos (by simpa using hx)]
    exact .inl ⟨rfl, rfl, rfl⟩
theorem act_below {w w' : World} {a : Option Addr} {len : Nat} {L : List (Int × Lk)} (h : Opens2.ActRow w a len L) (hb : Below w.heap.size w w') : Opens2.ActRow w' a len L := by
  refine ⟨h.1, h.2.1, fun i x hx => ?_⟩
  obtain ⟨h1, h2, A, hA, h3, h4⟩ := h.2.2 i x hx
  exact ⟨h1, h2, A, hA, pw_cell_below hb h3, fun j u hj hu => pw_cell_below hb (h4 j u hj hu)⟩
end
section
set_option linter.unusedVariables false
set_option linter.unusedSimpArgs false
open Go.RowKit Go.Maps Go.Sort Go.Lib Go.Shelf Go.Proofs.YtoolflmaaooplaaGreatW.PrintWords Go.Proofs.YtoolflmaaooplaaGreatW.PrintLast Go.Proofs.YtoolflmaaooplaaGreatW.PrintMore FLib

theorem delF_sub : ∀ (Q : List Lk) (T : Tb) (out : List Int), (delF T out Q).2.Sublist Q
  | [], _, _ => List.Sublist.refl _
  | x :: Q, T, out => by
    unfold delF
    split
    · exact (delF_sub Q _ _).cons _
    · exact (delF_sub Q _ _).cons_cons _
theorem delF_pred {P : Tb → Prop} : ∀ (Q : List Lk) (T : Tb) (out : List Int), (∀ T x, x ∈ Q → grB T x = true → P T → P (grT T x)) → P T → P (delF T out Q).1.1
  | [], _, _, _, h => h
  | x :: Q, T, out, hs, h => by
    unfold delF
    split
    · rename_i hg
      exact delF_pred Q _ _ (fun T y hy => hs T y (List.mem_cons_of_mem _ hy)) (hs T x (List.mem_cons_self ..) hg h)
    · exact delF_pred Q _ _ (fun T y hy => hs T y (List.mem_cons_of_mem _ hy)) h
theorem scanF_sub : ∀ (n : Nat) (T : Tb) (out : List Int) (Q : List Lk), (scanF n T out Q).2.Sublist Q
  | 0, _, _, _ => List.Sublist.refl _
  | n + 1, T, out, Q => by
    unfold scanF
    split
    · exact (scanF_sub n _ _ _).trans (delF_sub Q T out)
    · exact delF_sub Q T out
theorem scanF_pred {P : Tb → Prop} : ∀ (n : Nat) (T : Tb) (out : List Int) (Q : List Lk), (∀ T x, x ∈ Q → grB T x = true → P T → P (grT T x)) → P T → P (scanF n T out Q).1.1
  | 0, _, _, _, _, h => h
  | n + 1, T, out, Q, hs, h => by
    unfold scanF
    split
    · exact scanF_pred n _ _ _ (fun T y hy => hs T y ((delF_sub Q _ _).subset hy)) (delF_pred Q T out hs h)
    · exact delF_pred Q T out hs h
/-- The owners of a table. -/
def OwnIn (T : Tb) (Q : List Lk) (S : Int → Prop) : Prop := (∀ z ∈ T, S z.1) ∧ ∀ y ∈ Q, S y.own
theorem mem_canc {Q : List Lk} (hn : (Q.map (·.own)).Nodup) {o : Int} {y : Lk} (h : y ∈ cancQ Q o) : y ∈ Q ∧ y.own ≠ o := by
  unfold cancQ at h
  split at h
  · rename_i hf
    refine ⟨List.mem_of_mem_eraseIdx h, fun e => ?_⟩
    obtain ⟨i, hi⟩ := List.mem_iff_getElem?.1 h
    have h1 := List.findIdx_getElem (p := fun l : Lk => l.own == o) (xs := Q) (w := hf)
    have hk : Q[fdI Q o]? = some Q[fdI Q o] := List.getElem?_eq_getElem hf
    have hko : (Q[fdI Q o]).own = o := by
      have h2 : (Q[fdI Q o].own == o) = true := h1
      simpa using h2
    rw [List.getElem?_eraseIdx] at hi
    have key : ∀ j, j ≠ fdI Q o → Q[j]? = some y → False := fun j hj hy => by
      have hj2 := (List.getElem?_eq_some_iff.1 hy).1
      have e1 : (Q.map (·.own))[j]? = some o := by rw [List.getElem?_map, hy]; exact congrArg some e
      have e2 : (Q.map (·.own))[fdI Q o]? = some o := by rw [List.getElem?_map, hk]; exact congrArg some hko
      exact hj ((List.getElem?_inj (by simpa using hj2) hn).1 (e1.trans e2.symm))
    split at hi
    · exact key i (by omega) hi
    · exact key (i + 1) (by omega) hi
  · rename_i hf
    exact ⟨h, fun e => fd_mem hf (List.mem_map.2 ⟨y, h, e⟩)⟩
theorem drop_own {T : Tb} {Q : List Lk} {S : Int → Prop} (h : OwnIn T Q S) (hn : (Q.map (·.own)).Nodup) (o : Int) : OwnIn (dropF T Q o).1.1 (dropF T Q o).2 (fun k => S k ∧ k ≠ o) := by
  have hq : ∀ y ∈ cancQ Q o, S y.own ∧ y.own ≠ o := fun y hy => ⟨h.2 y (mem_canc hn hy).1, (mem_canc hn hy).2⟩
  unfold dropF
  refine ⟨scanF_pred (P := fun T => ∀ z ∈ T, S z.1 ∧ z.1 ≠ o) _ _ _ _ (fun T x hx _ hT z hz => ?_) (fun z hz => ⟨h.1 z (mem_tDel.1 hz).1, (mem_tDel.1 hz).2⟩), fun y hy => hq y ((scanF_sub _ _ _ _).subset hy)⟩
  rcases mem_tPut hz with ⟨rfl, -⟩ | ⟨hz, -⟩
  · exact hq x hx
  · exact hT z hz
/-- The owners that are still to be dropped. -/
theorem own_start {T : Tb} {Q : List Lk} (hT : TOk T) : OwnIn T Q (fun o => ∃ y ∈ tGran T ++ Q, y.own = o) := by
  refine ⟨fun z hz => ?_, fun y hy => ⟨y, List.mem_append_right _ hy, rfl⟩⟩
  obtain ⟨s, l, hs⟩ : ∃ s l, z.2 = s :: l := by
    have := hT.ne z hz
    cases hc : z.2 with
    | nil => rw [hc] at this; simp at this
    | cons s l => exact ⟨s, l, rfl⟩
  exact ⟨lockI s z.1, List.mem_append_left _ (mem_gran.2 ⟨z, hz, s, by rw [hs]; exact List.mem_cons_self .., rfl⟩), rfl⟩
theorem own_step {T : Tb} {Q M : List Lk} {k : Nat} {x : Lk} (h : OwnIn T Q (fun o => ∃ y ∈ M.drop k, y.own = o)) (hn : (Q.map (·.own)).Nodup) (hx : M[k]? = some x) :
    OwnIn (dropF T Q x.own).1.1 (dropF T Q x.own).2 (fun o => ∃ y ∈ M.drop (k + 1), y.own = o) := by
  have hd := drop_own h hn x.own
  have : ∀ o, ((∃ y ∈ M.drop k, y.own = o) ∧ o ≠ x.own) → ∃ y ∈ M.drop (k + 1), y.own = o := by
    rintro o ⟨⟨y, hy, rfl⟩, hne⟩
    obtain ⟨hlt, hk⟩ := List.getElem?_eq_some_iff.1 hx
    rw [List.drop_eq_getElem_cons hlt, hk] at hy
    rcases List.mem_cons.1 hy with rfl | hy
    · exact absurd rfl hne
    · exact ⟨y, hy, rfl⟩
  exact ⟨fun z hz => this _ (hd.1 z hz), fun y hy => this _ (hd.2 y hy)⟩
theorem own_end {T : Tb} {Q M : List Lk} (h : OwnIn T Q (fun o => ∃ y ∈ M.drop M.length, y.own = o)) : T = [] ∧ Q = [] := by
  rw [List.drop_length] at h
  constructor
  · cases T with
    | nil => rfl
    | cons z T => obtain ⟨y, hy, -⟩ := h.1 z (List.mem_cons_self ..); cases hy
  · cases Q with
    | nil => rfl
    | cons y Q => obtain ⟨y, hy, -⟩ := h.2 y (List.mem_cons_self ..); cases hy

/-- A range that lies off every span still does when spans that touch are joined. -/
theorem join_off {S : Sp} (hS : S.lo < S.hi) {l : List Sp} (hl : ∀ s ∈ l, s.lo < s.hi) (h : Off S l) : Off S (joinP l) := by
  have key : ∀ (l out : List Sp), (∀ s ∈ l, s.lo < s.hi) → (∀ s ∈ out, s.lo < s.hi) → Off S l → Off S out → Off S (l.foldl joinS out) := by
    intro l
    induction l with
    | nil => intro out _ _ _ ho; exact ho
    | cons s l ih =>
      intro out hl ho h1 h2
      have hs1 := hl s (List.mem_cons_self ..)
      have hs2 := h1 s (List.mem_cons_self ..)
      have hcat : Off S (out ++ [s]) ∧ ∀ t ∈ out ++ [s], t.lo < t.hi := ⟨fun t ht => by
        rcases List.mem_append.1 ht with ht | ht
        · exact h2 t ht
        · rw [List.mem_singleton.1 ht]; exact hs2, fun t ht => by
        rcases List.mem_append.1 ht with ht | ht
        · exact ho t ht
        · rw [List.mem_singleton.1 ht]; exact hs1⟩
      have hstep : Off S (joinS out s) ∧ ∀ t ∈ joinS out s, t.lo < t.hi := by
        rcases List.eq_nil_or_concat out with rfl | ⟨A, z, rfl⟩
        · exact hcat
        · rw [List.concat_eq_append] at *
          rw [joinS_some]
          split
          · rename_i hc
            have he : z.hi = s.lo := by
              simp only [Bool.and_eq_true, beq_iff_eq] at hc; exact hc.1
            have z1 := ho z (by simp)
            have z2 := h2 z (by simp)
            refine ⟨fun t ht => ?_, fun t ht => ?_⟩
            · rcases List.mem_append.1 ht with ht | ht
              · exact h2 t (List.mem_append_left _ ht)
              · rw [List.mem_singleton.1 ht]; dsimp only; omega
            · rcases List.mem_append.1 ht with ht | ht
              · exact ho t (List.mem_append_left _ ht)
              · rw [List.mem_singleton.1 ht]; dsimp only; omega
          · exact hcat
      exact ih _ (fun t ht => hl t (List.mem_cons_of_mem _ ht)) hstep.2 (fun t ht => h1 t (List.mem_cons_of_mem _ ht)) hstep.1
  exact key l [] hl (by simp) h (fun t ht => by cases ht)
theorem rsp_off {l : List Sp} (h : SpOk l) {S : Sp} (hS : S.lo < S.hi) : Off S (rSp l S.lo S.hi) := by
  unfold rSp
  exact join_off hS (fun s hs => (((cut_ok h (by omega)).each s hs).2.1)) cut_off
end
section
set_option linter.unusedVariables false
set_option linter.unusedSimpArgs false
theorem mem_tAt {T : Tb} {o : Int} {s : Sp} (h : s ∈ tAt T o) : ∃ z ∈ T, z.1 = o ∧ s ∈ z.2 := by
  unfold tAt at h
  split at h
  · rename_i x hx
    exact ⟨x, List.mem_of_find?_eq_some hx, by simpa using List.find?_some hx, h⟩
  · cases h
theorem gran_len (T : Tb) : (tGran T).length = tAll T := by
  unfold tGran tAll
  induction T with
  | nil => rfl
  | cons z T ih => rw [List.flatMap_cons, List.length_append, List.length_map, ih, List.map_cons, List.sum_cons]

/-- A span that does not conflict with another's. -/
def Calm (t s : Sp) : Prop := (overI s t && (s.ex || t.ex)) = false
theorem calm_iff {t s : Sp} : Calm t s ↔ ¬ ((s.lo < t.hi ∧ t.lo < s.hi) ∧ (s.ex = true ∨ t.ex = true)) := by
  unfold Calm overI
  rw [← Bool.not_eq_true]
  simp
theorem calm_symm {t s : Sp} (h : Calm t s) : Calm s t := by
  rw [calm_iff] at *
  exact fun ⟨h1, h2⟩ => h ⟨⟨h1.2, h1.1⟩, h2.symm⟩
theorem calm_sub {t s p : Sp} (h : Calm t s) (h1 : s.lo ≤ p.lo) (h2 : p.hi ≤ s.hi) (h3 : p.ex = s.ex) : Calm t p := by
  rw [calm_iff] at *
  rw [h3]
  exact fun ⟨h4, h5⟩ => h ⟨⟨by omega, by omega⟩, h5⟩
theorem calm_join {t : Sp} (ht : t.lo < t.hi) {l : List Sp} (h : ∀ s ∈ l, Calm t s) : ∀ s ∈ joinP l, Calm t s := by
  have key : ∀ (l out : List Sp), (∀ s ∈ l, Calm t s) → (∀ s ∈ out, Calm t s) → ∀ s ∈ l.foldl joinS out, Calm t s := by
    intro l
    induction l with
    | nil => intro out _ h; exact h
    | cons s l ih =>
      intro out h1 h2
      have hs := h1 s (List.mem_cons_self ..)
      have hcat : ∀ u ∈ out ++ [s], Calm t u := fun u hu => by
        rcases List.mem_append.1 hu with hu | hu
        · exact h2 u hu
        · rw [List.mem_singleton.1 hu]; exact hs
      have hstep : ∀ u ∈ joinS out s, Calm t u := by
        rcases List.eq_nil_or_concat out with rfl | ⟨A, z, rfl⟩
        · exact hcat
        · rw [List.concat_eq_append] at *
          rw [joinS_some]
          split
          · rename_i hc
            simp only [Bool.and_eq_true, beq_iff_eq] at hc
            have z2 := h2 z (by simp)
            intro u hu
            rcases List.mem_append.1 hu with hu | hu
            · exact h2 u (List.mem_append_left _ hu)
            · rw [List.mem_singleton.1 hu]
              rw [calm_iff] at *
              dsimp only
              rintro ⟨⟨h4, h5⟩, h6⟩
              by_cases h7 : t.lo < z.hi
              · exact z2 ⟨⟨h4, h7⟩, h6⟩
              · exact hs ⟨⟨by omega, h5⟩, by rw [← hc.2]; exact h6⟩
          · exact hcat
      exact ih _ (fun u hu => h1 u (List.mem_cons_of_mem _ hu)) hstep
  exact key l [] h (fun s hs => by cases hs)
theorem calm_cut {t : Sp} {l : List Sp} {lo hi : Int} (h : ∀ s ∈ l, Calm t s) : ∀ s ∈ cutP l lo hi, Calm t s := by
  intro p hp
  obtain ⟨s, hs, hc⟩ := mem_cut.1 hp
  rcases hc with ⟨h1, rfl⟩ | ⟨h1, rfl⟩
  · exact calm_sub (h s hs) (Int.le_refl _) (Int.min_le_left _ _) rfl
  · exact calm_sub (h s hs) (Int.le_max_left _ _) (Int.le_refl _) rfl
/-- No two owners' spans conflict. -/
def Ap (T : Tb) : Prop := ∀ z ∈ T, ∀ z' ∈ T, z.1 ≠ z'.1 → ∀ s ∈ z.2, ∀ s' ∈ z'.2, Calm s' s
theorem ap_put {T : Tb} (h : Ap T) {o : Int} {l : List Sp} (hl : ∀ z ∈ T, z.1 ≠ o → ∀ t ∈ z.2, ∀ s ∈ l, Calm t s) : Ap (tPut T o l) := by
  intro z hz z' hz' hne s hs s' hs'
  rcases mem_tPut hz with ⟨rfl, -⟩ | ⟨hz, hzo⟩
  · rcases mem_tPut hz' with ⟨rfl, -⟩ | ⟨hz', hzo'⟩
    · exact absurd rfl hne
    · exact hl z' hz' hzo' s' hs' s hs
  · rcases mem_tPut hz' with ⟨rfl, -⟩ | ⟨hz', hzo'⟩
    · exact calm_symm (hl z hz hzo s hs s' hs')
    · exact h z hz z' hz' hne s hs s' hs'
theorem ap_at {T : Tb} (h : Ap T) {o : Int} {z : Int × List Sp} (hz : z ∈ T) (hne : z.1 ≠ o) {t : Sp} (ht : t ∈ z.2) : ∀ s ∈ tAt T o, Calm t s := by
  intro s hs
  obtain ⟨z', hz', rfl, hs'⟩ := mem_tAt hs
  exact h z' hz' z hz (fun e => hne e.symm) s hs' t ht
theorem ap_grT {T : Tb} (h : Ap T) (hT : TInv T) {x : Lk} (hg : grB T x = true) : Ap (grT T x) := by
  have hc : tConf T x = [] := by
    unfold grB at hg
    simp only [Bool.and_eq_true] at hg
    exact List.isEmpty_iff.1 hg.1
  refine ap_put h (fun z hz hne t ht => ?_)
  have htl : t.lo < t.hi := (hT.spfit hz ht).2.2.1
  unfold wSp
  refine calm_join htl (fun s hs => ?_)
  rcases mem_insLo.1 hs with rfl | hs
  · rw [calm_iff]
    rintro ⟨⟨h1, h2⟩, h3⟩
    have : confB z.1 x t = true := by
      unfold confB overI
      have e : (z.1 != x.own) = true := by simpa using hne
      rw [e]
      simp only [Bool.true_and, Bool.and_eq_true, decide_eq_true_eq, Bool.or_eq_true]
      exact ⟨⟨h2, h1⟩, h3.symm⟩
    have hm := mem_conf.2 ⟨z, hz, t, ht, this, rfl⟩
    rw [hc] at hm
    cases hm
  · exact calm_cut (ap_at h hz hne ht) s hs
theorem ap_rel {T : Tb} (h : Ap T) (hT : TInv T) {o s n : Int} : Ap (relT T o s n) := by
  refine ap_put h (fun z hz hne t ht => ?_)
  have htl : t.lo < t.hi := (hT.spfit hz ht).2.2.1
  exact calm_join htl (calm_cut (ap_at h hz hne ht))
theorem ap_del {T : Tb} (h : Ap T) (o : Int) : Ap (tDel T o) := fun z hz z' hz' => h z (mem_tDel.1 hz).1 z' (mem_tDel.1 hz').1
theorem ap_delF : ∀ (Q : List Lk) (T : Tb) (out : List Int), Ap T → TInv T → QOk Q → tAll T + 2 * Q.length ≤ 900 → Ap (delF T out Q).1.1
  | [], _, _, h, _, _, _ => h
  | x :: Q, T, out, h, hT, hQ, hl => by
    have hx := hQ x (List.mem_cons_self ..)
    have hQ2 : QOk Q := fun y hy => hQ y (List.mem_cons_of_mem _ hy)
    rw [List.length_cons] at hl
    unfold delF
    split
    · rename_i hg
      have hgk := grT_ok hT.ok hx.1 hx.2 (by omega)
      exact ap_delF Q _ _ (ap_grT h hT hg) (hT.gr hx.1 hx.2 (by omega)) hQ2 (by omega)
    · exact ap_delF Q _ _ h hT hQ2 (by omega)
theorem ap_scan : ∀ (n : Nat) (T : Tb) (out : List Int) (Q : List Lk), Ap T → TInv T → QOk Q → tAll T + 2 * Q.length ≤ 900 → Ap (scanF n T out Q).1.1
  | 0, _, _, _, h, _, _, _ => h
  | n + 1, T, out, Q, h, hT, hQ, hl => by
    have hd := ap_delF Q T out h hT hQ hl
    have h2 := (del_flat Q T out hT hQ hl).2
    have h3 := delF_all Q T out hT.ok hQ hl
    unfold scanF
    split
    · exact ap_scan n _ _ _ hd h2.1 (fun y hy => hQ y (h2.2.subset hy)) (by omega)
    · exact hd
/-- A scan ends where nobody can be granted. -/
theorem delF_same : ∀ (Q : List Lk) (T : Tb) (out : List Int), Q.length ≤ (delF T out Q).2.length → ∀ y ∈ (delF T out Q).2, grB (delF T out Q).1.1 y = false
  | [], _, _, _ => fun y hy => by cases hy
  | x :: Q, T, out, h => by
    unfold delF at h ⊢
    split at h
    · have := delF_le (grT T x) (out ++ [x.own]) Q
      rw [List.length_cons] at h
      omega
    · rename_i hg
      rw [if_neg hg]
      have hlen : Q.length ≤ (delF T out Q).2.length := by simpa using h
      have hall : ∀ (Q : List Lk) (T : Tb) (out : List Int), Q.length ≤ (delF T out Q).2.length → (delF T out Q).1.1 = T := by
        intro Q
        induction Q with
        | nil => intro T out _; rfl
        | cons a Q ih =>
          intro T out h
          unfold delF at h ⊢
          split at h
          · have := delF_le (grT T a) (out ++ [a.own]) Q
            rw [List.length_cons] at h
            omega
          · rename_i hg
            rw [if_neg hg]
            exact ih T out (by simpa using h)
      intro y hy
      rcases List.mem_cons.1 hy with rfl | hy
      · show grB (delF T out Q).1.1 _ = false
        rw [hall Q T out hlen]; simpa using hg
      · exact delF_same Q T out hlen y hy
theorem scanF_fix : ∀ (n : Nat) (T : Tb) (out : List Int) (Q : List Lk), Q.length < n → ∀ y ∈ (scanF n T out Q).2, grB (scanF n T out Q).1.1 y = false
  | 0, _, _, _, h => by omega
  | n + 1, T, out, Q, h => by
    unfold scanF
    split
    · rename_i hlt
      exact scanF_fix n _ _ _ (by omega)
    · rename_i hlt
      exact delF_same Q T out (by omega)
def WC (T : Tb) (Q : List Lk) : Prop := ∀ y ∈ Q, (tConf T y).isEmpty = false
theorem wc_scan {B : Nat} {n : Nat} {T : Tb} {out : List Int} {Q : List Lk} (hn : Q.length < n) (h : GI B (scanF n T out Q).1.1 (scanF n T out Q).2) (hB : B ≤ 180) : WC (scanF n T out Q).1.1 (scanF n T out Q).2 := by
  intro y hy
  cases he : (tConf (scanF n T out Q).1.1 y).isEmpty with
  | false => rfl
  | true =>
    have h1 := grB_of h hB (h.qok y hy).2 (h.qok y hy).1 he
    rw [scanF_fix n T out Q hn y hy] at h1
    cases h1
theorem act_apart {B : Nat} {T : Tb} {Q : List Lk} (h : GI B T Q) (hB : B + 2 ≤ 180) (hA : Ap T) (hW : WC T Q) (k : Int) (l : Lk) (hw : (Lit.int .i64 l.own).wf = true) : Ap (actF T Q k l).1 ∧ WC (actF T Q k l).1 (actF T Q k l).2 := by
  have hsz := h.size
  have hset : ∀ wt, GI (B + 2) (setF T Q l wt).2.1 (setF T Q l wt).2.2 → Ap (setF T Q l wt).2.1 ∧ WC (setF T Q l wt).2.1 (setF T Q l wt).2.2 := by
    intro wt hgi
    unfold setF at hgi ⊢
    split
    · exact ⟨hA, hW⟩
    rename_i h1
    rw [if_neg h1] at hgi
    have hl : okL l.own l.st l.len = true := by simpa using h1
    split
    · exact ⟨hA, hW⟩
    rename_i h2
    rw [if_neg h2] at hgi
    split
    · rename_i h3
      rw [if_pos h3] at hgi
      split
      · rename_i h4
        rw [if_pos h4] at hgi
        have hg := grT_ok h.inv.ok hl hw (by omega)
        exact ⟨ap_scan _ _ _ _ (ap_grT hA h.inv h4) (h.inv.gr hl hw (by omega)) h.qok (by omega), wc_scan (by omega) hgi hB⟩
      · exact ⟨hA, hW⟩
    rename_i h3
    split
    · exact ⟨hA, hW⟩
    split
    · exact ⟨hA, hW⟩
    split
    · exact ⟨hA, hW⟩
    · refine ⟨hA, fun y hy => ?_⟩
      rcases List.mem_append.1 hy with hy | hy
      · exact hW y hy
      · rw [List.mem_singleton.1 hy]; simpa using h3
  unfold actF
  split
  · exact hset false (h.set (by omega) l false hw).2
  split
  · exact hset true (h.set (by omega) l true hw).2
  split
  · have hgi := (h.rel (by omega) l.own l.st l.len hw).2
    unfold relF at hgi ⊢
    split
    · exact ⟨hA, hW⟩
    rename_i h1
    rw [if_neg h1] at hgi
    split
    · exact ⟨hA, hW⟩
    rename_i h2
    rw [if_neg h2] at hgi
    have hx : okL l.own l.st l.len = true := by simpa using h1
    have hr := rel_flat h.inv hx
    have ha := h.inv.at l.own
    have hle := endI_le hx
    have h3 := rSp_len ha.1 hle
    have h4 := tAll_del h.inv.ok.sort l.own
    have hf := fit_span hx
    have hlen : tAll (relT T l.own l.st l.len) ≤ tAll T + 1 := by unfold relT; rw [tAll_put]; omega
    have hT : TInv (relT T l.own l.st l.len) := h.inv.put hw (rSp_ok ha.1 hle) (by omega) (join_fit (cut_fit ha.2.1 hf.1 hf.2 ha.1)) hr.2
    exact ⟨ap_scan _ _ _ _ (ap_rel hA h.inv) hT h.qok (by omega), wc_scan (by omega) hgi hB⟩
  split
  · exact ⟨hA, fun y hy => hW y ((cancQ_sub Q l.own).subset hy)⟩
  split
  · have hgi := (h.drop (by omega) l.own).2
    have hc := h.cancel l.own
    have hcs := hc.size
    have h4 := tAll_del h.inv.ok.sort l.own
    unfold dropF at hgi ⊢
    exact ⟨ap_scan _ _ _ _ (ap_del hA _) (h.inv.del _) hc.qok (by rw [tAll_tDel]; omega), wc_scan (by omega) hgi (by omega)⟩
  · exact ⟨hA, hW⟩
theorem play_apart (L : List (Int × Lk)) (hw : ∀ a ∈ L, (Lit.int .i64 a.2.own).wf = true) (hl : L.length ≤ 60) : ∀ k, k ≤ L.length → Ap (playF (L.take k)).1 ∧ WC (playF (L.take k)).1 (playF (L.take k)).2 := by
  intro k
  induction k with
  | zero => intro _; exact ⟨fun z hz => by simp [playF] at hz, fun y hy => by simp [playF] at hy⟩
  | succ k ih =>
    intro hk
    have hx : L[k]? = some L[k] := List.getElem?_eq_getElem (by omega)
    rw [playF_snoc hx]
    exact act_apart (playF_ok L hw hl k (by omega)) (by omega) (ih (by omega)).1 (ih (by omega)).2 _ _ (hw _ (List.getElem_mem _))
theorem confJ_calm {o o' : Int} {s s' : Sp} (h : SpFit s) (h' : SpFit s') (hc : o ≠ o' → Calm s' s) : confJ (lockI s o) (lockI s' o') = false := by
  unfold confJ
  by_cases he : o = o'
  · have : ((lockI s o).own != (lockI s' o').own) = false := by show (o != o') = false; rw [he]; simp
    rw [this]; rfl
  · have hcc := calm_iff.1 (hc he)
    rw [endj_lock h, endj_lock h']
    have e1 : decide ((lockI s o).st < hh s'.hi) = decide (s.lo < s'.hi) := by rw [decide_eq_decide]; exact hh_lt h.1.1 h'.1.2
    have e2 : decide ((lockI s' o').st < hh s.hi) = decide (s'.lo < s.hi) := by rw [decide_eq_decide]; exact hh_lt h'.1.1 h.1.2
    rw [e1, e2, ← Bool.not_eq_true]
    simp only [Bool.and_eq_true, decide_eq_true_eq, Bool.or_eq_true]
    rintro ⟨-, h1, h2, h3⟩
    exact hcc ⟨⟨h1, h2⟩, h3⟩
/-- What the law RangesApart looks at. -/
theorem apart_all {B : Nat} {T : Tb} {Q : List Lk} (h : GI B T Q) (hA : Ap T) (hW : WC T Q) : (∀ a ∈ tGran T, ∀ b ∈ tGran T, confJ a b = false) ∧ ∀ w ∈ Q, (tGran T).any (fun a => confJ a w) = true := by
  refine ⟨fun a ha b hb => ?_, fun w hw => ?_⟩
  · obtain ⟨z, hz, s, hs, rfl⟩ := mem_gran.1 ha
    obtain ⟨z', hz', s', hs', rfl⟩ := mem_gran.1 hb
    exact confJ_calm (h.inv.spfit hz hs) (h.inv.spfit hz' hs') (fun hne => hA z hz z' hz' hne s hs s' hs')
  · obtain ⟨y, l, hy⟩ : ∃ y l, tConf T w = y :: l := by
      have := hW w hw
      cases hc : tConf T w with
      | nil => rw [hc] at this; simp at this
      | cons y l => exact ⟨y, l, rfl⟩
    have hm := (conf_gran h.inv (h.qok w hw).1 (y := y)).1 (by rw [hy]; exact List.mem_cons_self ..)
    exact List.any_eq_true.2 ⟨y, hm.1, by rw [confJ_comm]; exact hm.2⟩
theorem played_apart {w : World} {a : Option Addr} {len : Nat} {L : List (Int × Lk)} (h : Opens2.ActRow w a len L) (hl : len ≤ 60) : Ap (plT L) ∧ WC (plT L) (plQ L) := by
  have h2 := play_apart (mod8 L) (fun y hy => by
    unfold mod8 at hy
    obtain ⟨x, hx, rfl⟩ := List.mem_map.1 hy
    obtain ⟨i, hi, rfl⟩ := List.getElem_of_mem hx
    exact (h.2.2 i _ (List.getElem?_eq_getElem hi)).2.1) (by rw [mod8_len, h.1]; exact hl) len (by rw [mod8_len, h.1]; exact Nat.le_refl _)
  rw [List.take_of_length_le (by rw [mod8_len, h.1]; exact Nat.le_refl _)] at h2
  exact h2
end
section
set_option linter.unusedVariables false
set_option linter.unusedSimpArgs false
open Go.RowKit Go.Maps Go.Sort Go.Lib Go.Shelf Go.Proofs.YtoolflmaaooplaaGreatW.PrintWords Go.Proofs.YtoolflmaaooplaaGreatW.PrintLast Go.Proofs.YtoolflmaaooplaaGreatW.PrintMore FLib
attribute [local go_sem] below_alloc_T below_drew_T below_drewN_T

theorem lflat_pre (L : List Lk) : ∀ i, i ≤ L.length → (lflat L).take (i * 4) = lflat (L.take i) := by
  intro i h
  conv => lhs; rw [← List.take_append_drop i L]
  rw [lflat_append, List.take_append_of_le_length (by rw [lflat_len, List.length_take]; omega), List.take_of_length_le (by rw [lflat_len, List.length_take]; omega)]
theorem row_pre {w : World} {base e g n c : Nat} {L : List Lk} (h : w.ownsRow base e 4 (.slice (some ⟨g, 0, none⟩) n c) L.length (lflat L)) {i : Nat} (hi : i ≤ L.length) : w.ownsRow base e 4 (.slice (some ⟨g, 0, none⟩) i c) (L.take i).length (lflat (L.take i)) := by
  have hl : (L.take i).length = i := by rw [List.length_take]; omega
  rw [hl]
  refine ⟨by rw [lflat_len, hl], .inr ?_⟩
  rcases h.2 with ⟨h2, -⟩ | ⟨g', c', cur, h1, hb, h3, h4, h5, h6, h7⟩
  · cases h2
  · injection h1 with e1 e2 e3
    injection e1 with e1
    injection e1 with e1
    subst e1; subst e3
    refine ⟨g, c, cur, rfl, hb, h3, by omega, h5, h6, ?_⟩
    rw [← lflat_pre L i hi, ← h7, List.take_take]
    congr 1
    omega
theorem pair1_any (a b : Lk) (ha : NearL a) (hb : NearL b) (p : Nat) (w : World) (hc : w.heap[p]? = some (.cells a.cells.toArray 29 (0, 0))) :
    Calls Tryz.prog 8 #[lkV b, .pointer (some ⟨p, 0, none⟩)] w fun e w' => e = .returned (.bool (confJ a b)) ∧ Below w.heap.size w w' := by
  have HC := Lib.hid (fun o : Obj => conflict_any a b ha hb (w.alloc o))
  obtain ⟨a0, a1, a2, a3⟩ := a
  obtain ⟨b0, b1, b2, b3⟩ := b
  simp only [lkV, Lk.cells] at HC hc ⊢
  have x : ∀ o : Obj, (w.alloc o).heap[p]? = some (.cells #[.int .i64 a0, .int .i64 a1, .int .i64 a2, .bool a3] 29 (0, 0)) := fun o => blk_alloc hc o
  have c0 : ∀ o : Obj, (w.alloc o).cell? ⟨p, 0, none⟩ = some (.int .i64 a0) := fun o => blk_cell (x o) 0
  have c1 : ∀ o : Obj, (w.alloc o).cell? ⟨p, 1, none⟩ = some (.int .i64 a1) := fun o => blk_cell (x o) 1
  have c2 : ∀ o : Obj, (w.alloc o).cell? ⟨p, 2, none⟩ = some (.int .i64 a2) := fun o => blk_cell (x o) 2
  have c3 : ∀ o : Obj, (w.alloc o).cell? ⟨p, 3, none⟩ = some (.bool a3) := fun o => blk_cell (x o) 3
  clear hc ha hb x
  go_enter Tryz.func8, Tryz.ntmps8
  go_wp2_with fail
  refine (HC.out _).mono ?_
  rintro e w1 ⟨rfl, hb1⟩
  have H1 := Lib.hid (below_back (below_alloc (Below.refl w.heap.size w) _) hb1)
  clear hb1 c0 c1 c2 c3
  go_wp2
  go_ret
  exact ⟨rfl, H1.out⟩
theorem pair2_any (a b : Lk) (ha : NearL a) (hb : NearL b) (p : Nat) (w : World) (hc : w.heap[p]? = some (.cells b.cells.toArray 29 (0, 0))) :
    Calls Tryz.prog 12 #[lkV a, .pointer (some ⟨p, 0, none⟩)] w fun e w' => e = .returned (.bool (confJ a b)) ∧ Below w.heap.size w w' := by
  have HC := Lib.hid (fun o : Obj => conflict_any a b ha hb (w.alloc o))
  obtain ⟨a0, a1, a2, a3⟩ := a
  obtain ⟨b0, b1, b2, b3⟩ := b
  simp only [lkV, Lk.cells] at HC hc ⊢
  have x : ∀ o : Obj, (w.alloc o).heap[p]? = some (.cells #[.int .i64 b0, .int .i64 b1, .int .i64 b2, .bool b3] 29 (0, 0)) := fun o => blk_alloc hc o
  have c0 : ∀ o : Obj, (w.alloc o).cell? ⟨p, 0, none⟩ = some (.int .i64 b0) := fun o => blk_cell (x o) 0
  have c1 : ∀ o : Obj, (w.alloc o).cell? ⟨p, 1, none⟩ = some (.int .i64 b1) := fun o => blk_cell (x o) 1
  have c2 : ∀ o : Obj, (w.alloc o).cell? ⟨p, 2, none⟩ = some (.int .i64 b2) := fun o => blk_cell (x o) 2
  have c3 : ∀ o : Obj, (w.alloc o).cell? ⟨p, 3, none⟩ = some (.bool b3) := fun o => blk_cell (x o) 3
  clear hc ha hb x
  go_enter Tryz.func12, Tryz.ntmps12
  go_wp2_with fail
  refine (HC.out _).mono ?_
  rintro e w1 ⟨rfl, hb1⟩
  have H1 := Lib.hid (below_back (below_alloc (Below.refl w.heap.size w) _) hb1)
  clear hb1 c0 c1 c2 c3
  go_wp2
  go_ret
  exact ⟨rfl, H1.out⟩
theorem pair3_any (G : List Lk) (x : Lk) (hG : ∀ a ∈ G, NearL a) (hx : NearL x) (hl : G.length ≤ 100000) (hany : G.any (fun a => confJ a x) = true) (v : Value) (p : Nat) (w : World) (hc : w.cell? ⟨p, 0, none⟩ = some v) (hr : w.ownsRow 0 29 4 v G.length (lflat G)) :
    Calls Tryz.prog 11 #[lkV x, .pointer (some ⟨p, 0, none⟩)] w fun e w' => e = .returned (.bool false) ∧ Below w.heap.size w w' := by
  have HC := Lib.hid (cont_any (fun a => confJ a x) 12 #[.pointer (some ⟨w.heap.size, 0, none⟩)] (fun _ _ => by kernel_rfl) 0 v G hl (w.alloc (.cells x.cells.toArray 29)) (pw_own_below hr (below_alloc (Below.refl _ _) _)) (fun a ha W hb => pair2_any a x (hG a ha) hx w.heap.size W (blk_below (blk_new _ _) hb)))
  rw [hany] at HC
  have c0 : ∀ o : Obj, (w.alloc o).cell? ⟨p, 0, none⟩ = some v := fun o => pw_cell_below (below_alloc (Below.refl w.heap.size w) o) hc
  obtain ⟨x0, x1, x2, x3⟩ := x
  simp only [lkV, Lk.cells] at HC ⊢
  clear hc hr hG hx hany
  go_enter Tryz.func11, Tryz.ntmps11
  go_wp2_with fail
  refine HC.out.mono ?_
  rintro e w1 ⟨rfl, hb1⟩
  have H1 := Lib.hid (below_back (below_alloc (Below.refl w.heap.size w) _) hb1)
  clear hb1 c0
  go_wp2
  go_ret
  exact ⟨rfl, H1.out⟩
set_option maxRecDepth 100000 in
set_option maxHeartbeats 1000000 in
theorem apart_law (a : Option Addr) (len cap : Nat) (L : List (Int × Lk)) (w : World) (h : Opens2.ActRow w a len L) :
    Calls Tryz.prog 3 #[.slice a len cap] w fun e w' => e = .returned (.bool true) ∧ Below w.heap.size w w' := by
  have HAW := Lib.hid awake_any
  have HH := Lib.hid h
  clear h
  by_cases hlen : 60 < len
  · have hd : decide ((60 : Int) < (len : Int)) = true := decide_eq_true (by omega)
    clear hlen
    go_enter Tryz.func3, Tryz.ntmps3
    go_wp2_with fail
    refine (HAW.out _).mono ?_
    rintro e w1 ⟨rfl, hb1⟩
    have H1 := Lib.hid hb1
    clear hb1
    go_wp2
    go_ret
    exact ⟨rfl, H1.out⟩
  · have hd : decide ((60 : Int) < (len : Int)) = false := decide_eq_false (by omega)
    have HL := Lib.hid hlen
    clear hlen
    go_enter Tryz.func3, Tryz.ntmps3
    go_wp2_with fail
    refine (HAW.out _).mono ?_
    rintro e w1 ⟨rfl, hb1⟩
    have HP := Lib.hid (played_any a len cap L (by have := HL.out; omega) w1 (act_below HH.out hb1))
    have HBW := Lib.hid hb1
    clear hb1
    go_wp2_with fail
    refine HP.out.mono ?_
    rintro e w2 ⟨p, mb, rfl, hP2, hb2⟩
    have HGI := Lib.hid (play_all HH.out (by have := HL.out; omega))
    have hap := played_apart HH.out (by have := HL.out; omega)
    have HAP := Lib.hid (apart_all HGI.out hap.1 hap.2)
    clear hap
    generalize plT L = T at HGI hP2 HAP
    generalize plQ L = Q at HGI hP2 HAP
    have H2 := Lib.hid (And.intro hP2 (below_back HBW.out hb2))
    clear hP2 hb2
    go_wp2_with fail
    refine (granted_c HGI.out H2.out.1).mono ?_
    rintro e w4 ⟨u4, rfl, hr4, hb4⟩
    have HNE := Lib.hid (fun x hx => near_ok ((HGI.out.qok x hx).1))
    have HNG := Lib.hid (fun y hy => near_gran (y := y) HGI.out.inv hy)
    have HSZ := Lib.hid (show (tGran T).length ≤ 120 ∧ Q.length ≤ 60 by rw [gran_len]; have := HGI.out.size; have := HL.out; omega)
    have H4 := Lib.hid (And.intro (own_base hr4 (Nat.zero_le _)) (And.intro (H2.out.1.below hb4) (below_back H2.out.2 hb4)))
    obtain ⟨a4, c4, rfl⟩ := row_any hr4
    obtain ⟨G, hG⟩ : ∃ G, tGran T = G := ⟨_, rfl⟩
    rw [hG] at HAP HNG HSZ H4 ⊢
    clear hr4 hb4 hG
    have h5 := blk_new w4 (.cells #[.slice a4 G.length c4] 26)
    have H5 := Lib.hid (And.intro h5 (below_alloc (Below.refl w4.heap.size w4) (.cells #[.slice a4 G.length c4] 26)))
    clear h5
    go_wp2
    obtain ⟨bg, hbg⟩ : ∃ b, w4.heap.size = b := ⟨_, rfl⟩
    obtain ⟨W5, hW5⟩ : ∃ W, w4.alloc (.cells #[.slice a4 G.length c4] 26) = W := ⟨_, rfl⟩
    rw [hW5] at H5 ⊢
    rw [hbg] at H5 ⊢
    have HBG := Lib.hid hbg
    clear hW5 hbg
    go_loopw [21] (fun t wr => ∃ i : Nat, i ≤ G.length ∧ t = .int .i64 i ∧ Hid (Below W5.heap.size W5 wr)) (fun t _ => G.length - (RowKit.intOf t).toNat)
    case atStart => exact ⟨0, Nat.zero_le _, rfl, Lib.hid (Below.refl _ _)⟩
    case round =>
      obtain ⟨i, hi, rfl, hB⟩ := hrel
      have hlr : (G.length : Int) ≤ 120 := by have := HSZ.out; omega
      have hB4 := below_back (by rw [HBG.out]; exact H5.out.2) hB.out
      have hg := blk_below H5.out.1 hB.out
      by_cases hlt : i < G.length
      · obtain ⟨x, hx⟩ : ∃ x, G[i]? = some x := ⟨_, List.getElem?_eq_getElem hlt⟩
        have hrg := pw_own_below H4.out.1 hB4
        obtain ⟨g4, rfl⟩ := row_some2 hrg (by omega)
        obtain ⟨q0, q1, q2, q3⟩ := row_lk hrg hx
        have hk0 : (0 : Int) ≤ (i : Int) := by omega
        have hk1 : (i : Int) < (G.length : Int) := by omega
        have hcap : (i : Int) ≤ (c4 : Int) := by have := row_cap hrg; omega
        have hbx := below_alloc (Below.refl wr.heap.size wr) (.cells x.cells.toArray 29)
        have HC := Lib.hid (cont_any (fun b => confJ x b) 8 #[.pointer (some ⟨wr.heap.size, 0, none⟩)] (fun _ _ => by kernel_rfl) 0 _ (G.take i) (by rw [List.length_take]; have := HSZ.out; omega) (wr.alloc (.cells x.cells.toArray 29)) (row_pre (pw_own_below hrg hbx) hi) (fun b hb W hbW => pair1_any x b (HNG.out x (List.mem_of_getElem? hx)) (HNG.out b (List.mem_of_mem_take hb)) wr.heap.size W (blk_below (blk_new _ _) hbW)))
        rw [show (G.take i).any (fun b => confJ x b) = false by
          rw [List.any_eq_false]; intro b hb; rw [HAP.out.1 x (List.mem_of_getElem? hx) b (List.mem_of_mem_take hb)]; simp] at HC
        have cg : ∀ o : Obj, (wr.alloc o).cell? ⟨bg, 0, none⟩ = some (.slice (some ⟨g4, 0, none⟩) G.length c4) := fun o => blk_cell (blk_alloc hg o) 0
        have HI := Lib.hid hlt
        simp only [Lk.cells] at HC
        clear hx hrg hbx hlt hB4 hg hi
        go_wp2_with fail
        refine HC.out.mono ?_
        rintro e w7 ⟨rfl, hb7⟩
        have H7 := Lib.hid (below_back hB.out (below_step (below_alloc (Below.refl wr.heap.size wr) _) hb7))
        clear hb7 cg q0 q1 q2 q3
        go_wp2
        go_roundw
        case rel => exact ⟨i + 1, by have := HI.out; omega, by go_num, H7⟩
        case measure => have := HI.out; simp [RowKit.intOf]; omega
      · obtain rfl : i = G.length := by omega
        have HW := Lib.hid (waiting_c HGI.out (by have := HL.out; omega) (H4.out.2.1.below hB4))
        have HG2 := Lib.hid (And.intro hg (And.intro (pw_own_below H4.out.1 hB4) (below_back H4.out.2.2 hB4)))
        clear hlt hB4 hg
        go_wp2_with fail
        refine HW.out.mono ?_
        rintro e w8 ⟨u8, rfl, hr8, hb8⟩
        have HC := Lib.hid (cont_any (fun _ => false) 11 #[.pointer (some ⟨bg, 0, none⟩)] (fun _ _ => by kernel_rfl) _ u8 Q (by have := HSZ.out; omega) w8 hr8 (fun x hx W hb => pair3_any G x (fun a ha => HNG.out a ha) (HNE.out x hx) (by have := HSZ.out; omega) (HAP.out.2 x hx) _ bg W (blk_cell (blk_below (blk_below HG2.out.1 hb8) hb) 0) (pw_own_below (pw_own_below HG2.out.2.1 hb8) hb)))
        rw [show Q.any (fun _ => false) = false by simp] at HC
        have H8 := Lib.hid (below_back HG2.out.2.2 hb8)
        clear hr8 hb8
        go_wp2_with fail
        refine HC.out.mono ?_
        rintro e w9 ⟨rfl, hb9⟩
        have H9 := Lib.hid (below_back H8.out hb9)
        clear hb9
        go_wp2
        go_ret
        exact ⟨rfl, H9.out⟩
end
end Go.Proofs.YtoolflmaaooplaaGreat
