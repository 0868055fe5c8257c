/- Ranges: the laws. -/
import Derived.Test.YtoolflmaaooplaaMN
namespace Go.Proofs.Ytoolflmaaooplaa
section
set_option linter.unusedVariables false
set_option linter.unusedSimpArgs false
open Go.RowKit Go.Maps Go.Sort Go.Lib Go.Shelf Go.Proofs.YtoolflmaaooplaaW.PrintWords Go.Proofs.YtoolflmaaooplaaW.PrintLast Go.Proofs.YtoolflmaaooplaaW.PrintMore FLib
attribute [local go_sem] below_alloc_T below_drew_T below_drewN_T

def endJ (s n : Int) : Int := if n = 0 then 1099511627776 else s + n
def NearL (x : Lk) : Prop := (0 ≤ x.st ∧ x.st ≤ 100000) ∧ 0 ≤ x.len ∧ x.len ≤ 100000
def confJ (a b : Lk) : Bool := (a.own != b.own) && (decide (a.st < endJ b.st b.len) && (decide (b.st < endJ a.st a.len) && (a.ex || b.ex)))
theorem endj_any (a0 a1 a2 : Int) (a3 : Bool) (h : (0 ≤ a1 ∧ a1 ≤ 100000) ∧ 0 ≤ a2 ∧ a2 ≤ 100000) (w : World) : Calls Try.prog 23 #[.agg #[.int .i64 a0, .int .i64 a1, .int .i64 a2, .bool a3]] w fun e w' => e = .returned (.int .i64 (endJ a1 a2)) ∧ Below w.heap.size w w' := by
  by_cases hz : a2 = 0
  · have hE : endJ a1 a2 = 1099511627776 := by unfold endJ; rw [if_pos hz]
    have hd : (a2 == 0) = true := by simpa using hz
    clear hz h
    go_enter Try.func23, Try.ntmps23
    go_wp2
    go_ret
    exact ⟨by rw [hE]; rfl, below_alloc (Below.refl _ _) _⟩
  · have hE : endJ a1 a2 = a1 + a2 := by unfold endJ; rw [if_neg hz]
    have hd : (a2 == 0) = false := by simpa using hz
    have h1 : -9223372036854775808 ≤ a1 + a2 := by omega
    have h2 : a1 + a2 ≤ 9223372036854775807 := by omega
    clear hz h
    go_enter Try.func23, Try.ntmps23
    go_wp2
    go_ret
    exact ⟨by rw [hE]; go_num, below_alloc (Below.refl _ _) _⟩
set_option maxRecDepth 100000 in
set_option maxHeartbeats 1000000 in
theorem conflict_any (a b : Lk) (ha : NearL a) (hb : NearL b) (w : World) : Calls Try.prog 18 #[lkV a, lkV b] w fun e w' => e = .returned (.bool (confJ a b)) ∧ Below w.heap.size w w' := by
  have HEA := Lib.hid (fun w => endj_any a.own a.st a.len a.ex ha w)
  have HEB := Lib.hid (fun w => endj_any b.own b.st b.len b.ex hb w)
  clear ha hb
  obtain ⟨a0, a1, a2, a3⟩ := a
  obtain ⟨b0, b1, b2, b3⟩ := b
  simp only [confJ, lkV] at HEA HEB ⊢
  generalize endJ a1 a2 = ea at HEA ⊢
  generalize endJ b1 b2 = eb at HEB ⊢
  obtain ⟨OA, hOA⟩ : ∃ O, Obj.cells #[.int .i64 a0, .int .i64 a1, .int .i64 a2, .bool a3] 23 (0, 0) = O := ⟨_, rfl⟩
  obtain ⟨OB, hOB⟩ : ∃ O, Obj.cells #[.int .i64 b0, .int .i64 b1, .int .i64 b2, .bool b3] 23 (0, 0) = O := ⟨_, rfl⟩
  have HO := Lib.hid (And.intro hOA hOB)
  clear hOA hOB
  obtain ⟨R, hR⟩ : ∃ R, ((a0 != b0) && (decide (a1 < eb) && (decide (b1 < ea) && (a3 || b3)))) = R := ⟨_, rfl⟩
  rw [hR]
  have HR := Lib.hid hR
  clear hR
  go_enter Try.func18, Try.ntmps18
  go_wp2
  rw [HO.out.1, HO.out.2]
  refine abs_w (fun W => Below w.heap.size w W ∧ W.heap[w.heap.size]? = some OA ∧ W.heap[w.heap.size + 1]? = some OB) ⟨below_alloc (below_alloc (Below.refl _ _) _) _, blk_alloc (blk_new _ _) _, by have := blk_new (w.alloc OA) OB; simpa using this⟩ ?_
  rintro W ⟨hbW, hA, hB⟩
  rw [← HO.out.1] at hA
  rw [← HO.out.2] at hB
  have x0 := later_cell (v := .int .i64 a0) (blk_cell hA 0)
  have x1 := later_cell (v := .int .i64 a1) (blk_cell hA 1)
  have x2 := later_cell (v := .int .i64 a2) (blk_cell hA 2)
  have x3 := later_cell (v := .bool a3) (blk_cell hA 3)
  have y0 := later_cell (v := .int .i64 b0) (blk_cell hB 0)
  have y1 := later_cell (v := .int .i64 b1) (blk_cell hB 1)
  have y2 := later_cell (v := .int .i64 b2) (blk_cell hB 2)
  have y3 := later_cell (v := .bool b3) (blk_cell hB 3)
  have hs0 : Below W.heap.size W W := Below.refl _ _
  have HW := Lib.hid hbW
  clear hA hB hbW
  by_cases h1 : a0 = b0
  · have d1 : (a0 == b0) = true := by simpa using h1
    have hR : false = R := by rw [← HR.out]; simp [bne, d1]
    subst hR
    clear HR
    have e1 : (a0 != b0) = false := by simp [bne, d1]
    go_quiet (fail)
    go_wp2
    go_ret
    exact ⟨rfl, HW.out.trans (pw_below_drewN (Below.refl _ _) _)⟩
  · have d1 : (a0 == b0) = false := by simpa using h1
    have e1 : (a0 != b0) = true := by simp [bne, d1]
    have hR1 : (decide (a1 < eb) && (decide (b1 < ea) && (a3 || b3))) = R := by rw [← HR.out]; simp [bne, d1]
    clear HR
    by_cases h2 : a1 < eb
    · have d2 : decide (a1 < eb) = true := decide_eq_true h2
      rw [d2, Bool.true_and] at hR1
      clear h2
      by_cases h3 : b1 < ea
      · have d3 : decide (b1 < ea) = true := decide_eq_true h3
        rw [d3, Bool.true_and] at hR1
        clear h3
        cases a3
        · rw [Bool.false_or] at hR1
          subst hR1
          refine wp_region_held_drew (S := (fun w' => Below W.heap.size W w')) (by kernel_rfl) (by first | assumption | exact below_drew (by assumption)) (fun hHeld => ?_)
          refine wpAnyH_take (i := 0) (oi := { dst := some 5, op := Op.fieldAddr 23 (Operand.tmp 2) 0, type := 0, pos := "law.go:90", after := #[], guard := none }) (v := ?_) rfl (by kernel_rfl) (by kernel_rfl) (by kernel_rfl) (fun _ _ _ h => h) (Or.inl ⟨by rfl, ?_⟩) (by assumption) ?_
          rotate_left
          · (intro w hSw; (try dsimp only at hSw); go_simp; try with_reducible rfl)
          try simp only [Act.put, List.setIfInBounds_toArray, List.set_cons_zero, List.set_cons_succ]
          refine wpAnyH_take (i := 1) (oi := { dst := some 6, op := Op.load 3 (Operand.tmp 5), type := 3, pos := "law.go:90", after := #[{ on := 0, ground := Ground.data }], guard := none }) (v := ?_) rfl (by kernel_rfl) (by kernel_rfl) (by kernel_rfl) (fun _ _ _ h => h) (Or.inl ⟨by rfl, ?_⟩) (by assumption) ?_
          rotate_left
          · (intro w hSw; (try dsimp only at hSw); go_simp; try with_reducible rfl)
          try simp only [Act.put, List.setIfInBounds_toArray, List.set_cons_zero, List.set_cons_succ]
          refine wpAnyH_take (i := 2) (oi := { dst := some 7, op := Op.fieldAddr 23 (Operand.tmp 3) 0, type := 0, pos := "law.go:90", after := #[], guard := none }) (v := ?_) rfl (by kernel_rfl) (by kernel_rfl) (by kernel_rfl) (fun _ _ _ h => h) (Or.inl ⟨by rfl, ?_⟩) (by assumption) ?_
          rotate_left
          · (intro w hSw; (try dsimp only at hSw); go_simp; try with_reducible rfl)
          try simp only [Act.put, List.setIfInBounds_toArray, List.set_cons_zero, List.set_cons_succ]
          refine wpAnyH_take (i := 3) (oi := { dst := some 8, op := Op.load 3 (Operand.tmp 7), type := 3, pos := "law.go:90", after := #[{ on := 2, ground := Ground.data }], guard := none }) (v := ?_) rfl (by kernel_rfl) (by kernel_rfl) (by kernel_rfl) (fun _ _ _ h => h) (Or.inl ⟨by rfl, ?_⟩) (by assumption) ?_
          rotate_left
          · (intro w hSw; (try dsimp only at hSw); go_simp; try with_reducible rfl)
          try simp only [Act.put, List.setIfInBounds_toArray, List.set_cons_zero, List.set_cons_succ]
          refine wpAnyH_take (i := 4) (oi := { dst := some 9, op := Op.binOp BinOp.neq 3 (Operand.tmp 6) (Operand.tmp 8) 3, type := 4, pos := "law.go:90", after := #[{ on := 1, ground := Ground.data }, { on := 3, ground := Ground.data }], guard := none }) (v := ?_) rfl (by kernel_rfl) (by kernel_rfl) (by kernel_rfl) (fun _ _ _ h => h) (Or.inl ⟨by rfl, ?_⟩) (by assumption) ?_
          rotate_left
          · (intro w hSw; (try dsimp only at hSw); go_simp; try with_reducible rfl)
          try simp only [Act.put, List.setIfInBounds_toArray, List.set_cons_zero, List.set_cons_succ]
          refine wpAnyH_take (i := 5) (oi := { dst := some 10, op := Op.move (Operand.tmp 9), type := 4, pos := "law.go:90", after := #[{ on := 4, ground := Ground.data }], guard := none }) (v := ?_) rfl (by kernel_rfl) (by kernel_rfl) (by kernel_rfl) (fun _ _ _ h => h) (Or.inl ⟨by rfl, ?_⟩) (by assumption) ?_
          rotate_left
          · (intro w hSw; (try dsimp only at hSw); go_simp; try with_reducible rfl)
          try simp only [Act.put, List.setIfInBounds_toArray, List.set_cons_zero, List.set_cons_succ]
          refine wpAnyH_take (i := 6) (oi := { dst := some 11, op := Op.fieldAddr 23 (Operand.tmp 2) 1, type := 0, pos := "law.go:90", after := #[{ on := 5, ground := Ground.guard }], guard := some (5, true) }) (v := ?_) rfl (by kernel_rfl) (by kernel_rfl) (by kernel_rfl) (fun _ _ _ h => h) (Or.inl ⟨by rfl, ?_⟩) (by assumption) ?_
          rotate_left
          · (intro w hSw; (try dsimp only at hSw); go_simp; try with_reducible rfl)
          try simp only [Act.put, List.setIfInBounds_toArray, List.set_cons_zero, List.set_cons_succ]
          refine wpAnyH_take (i := 7) (oi := { dst := some 12, op := Op.load 2 (Operand.tmp 11), type := 2, pos := "law.go:90", after := #[{ on := 6, ground := Ground.data }, { on := 5, ground := Ground.guard }], guard := some (5, true) }) (v := ?_) rfl (by kernel_rfl) (by kernel_rfl) (by kernel_rfl) (fun _ _ _ h => h) (Or.inl ⟨by rfl, ?_⟩) (by assumption) ?_
          rotate_left
          · (intro w hSw; (try dsimp only at hSw); go_simp; try with_reducible rfl)
          try simp only [Act.put, List.setIfInBounds_toArray, List.set_cons_zero, List.set_cons_succ]
          refine wpAnyH_take (i := 8) (oi := { dst := some 13, op := Op.load 23 (Operand.tmp 3), type := 23, pos := "law.go:90", after := #[{ on := 5, ground := Ground.guard }], guard := some (5, true) }) (v := ?_) rfl (by kernel_rfl) (by kernel_rfl) (by kernel_rfl) (fun _ _ _ h => h) (Or.inl ⟨by rfl, ?_⟩) (by assumption) ?_
          rotate_left
          · (intro w hSw; (try dsimp only at hSw); go_simp; try with_reducible rfl)
          try simp only [Act.put, List.setIfInBounds_toArray, List.set_cons_zero, List.set_cons_succ]
          refine wpAnyH_ready (rs := [9]) (by kernel_rfl) (by simp) (AllReadyH.cons (o := { dst := some 14, op := Op.call { callee := Callee.value (Operand.func 23), args := #[Operand.tmp 13], argTypes := #[23] }, type := 2, pos := "law.go:90", after := #[{ on := 8, ground := Ground.data }, { on := 5, ground := Ground.chain }, { on := 5, ground := Ground.guard }], guard := some (5, true) }) rfl (fun K hK => ?_) AllReadyH.nil)
          go_simp
          refine (HEB.out _).mono ?_
          rintro e w2 ⟨rfl, hb2⟩
          dsimp only
          have hB2 := below_step hHeld hb2
          clear hb2
          refine hK.out _ _ (by first | assumption | exact below_drew (by assumption)) (fun hHeld => ?_)
          clear hK K
          try simp only [Act.put, List.setIfInBounds_toArray, List.set_cons_zero, List.set_cons_succ]
          refine wpAnyH_take (i := 10) (oi := { dst := some 15, op := Op.binOp BinOp.lss 2 (Operand.tmp 12) (Operand.tmp 14) 2, type := 4, pos := "law.go:90", after := #[{ on := 7, ground := Ground.data }, { on := 9, ground := Ground.data }, { on := 5, ground := Ground.guard }], guard := some (5, true) }) (v := ?_) rfl (by kernel_rfl) (by kernel_rfl) (by kernel_rfl) (fun _ _ _ h => h) (Or.inl ⟨by rfl, ?_⟩) (by assumption) ?_
          rotate_left
          · (intro w hSw; (try dsimp only at hSw); go_simp; try with_reducible rfl)
          try simp only [Act.put, List.setIfInBounds_toArray, List.set_cons_zero, List.set_cons_succ]
          refine wpAnyH_take (i := 11) (oi := { dst := some 16, op := Op.pick (Operand.tmp 10) (Operand.tmp 15) (Operand.const (Value.bool false)), type := 4, pos := "law.go:90", after := #[{ on := 5, ground := Ground.data }, { on := 10, ground := Ground.data }], guard := none }) (v := ?_) rfl (by kernel_rfl) (by kernel_rfl) (by kernel_rfl) (fun _ _ _ h => h) (Or.inl ⟨by rfl, ?_⟩) (by assumption) ?_
          rotate_left
          · (intro w hSw; (try dsimp only at hSw); go_simp; try with_reducible rfl)
          try simp only [Act.put, List.setIfInBounds_toArray, List.set_cons_zero, List.set_cons_succ]
          refine wpAnyH_take (i := 12) (oi := { dst := some 17, op := Op.move (Operand.tmp 16), type := 4, pos := "law.go:90", after := #[{ on := 11, ground := Ground.data }, { on := 9, ground := Ground.chain }], guard := none }) (v := ?_) rfl (by kernel_rfl) (by kernel_rfl) (by kernel_rfl) (fun _ _ _ h => h) (Or.inl ⟨by rfl, ?_⟩) (by assumption) ?_
          rotate_left
          · (intro w hSw; (try dsimp only at hSw); go_simp; try with_reducible rfl)
          try simp only [Act.put, List.setIfInBounds_toArray, List.set_cons_zero, List.set_cons_succ]
          refine wpAnyH_take (i := 13) (oi := { dst := some 18, op := Op.fieldAddr 23 (Operand.tmp 3) 1, type := 0, pos := "law.go:90", after := #[{ on := 12, ground := Ground.guard }], guard := some (12, true) }) (v := ?_) rfl (by kernel_rfl) (by kernel_rfl) (by kernel_rfl) (fun _ _ _ h => h) (Or.inl ⟨by rfl, ?_⟩) (by assumption) ?_
          rotate_left
          · (intro w hSw; (try dsimp only at hSw); go_simp; try with_reducible rfl)
          try simp only [Act.put, List.setIfInBounds_toArray, List.set_cons_zero, List.set_cons_succ]
          refine wpAnyH_take (i := 14) (oi := { dst := some 19, op := Op.load 2 (Operand.tmp 18), type := 2, pos := "law.go:90", after := #[{ on := 13, ground := Ground.data }, { on := 12, ground := Ground.guard }], guard := some (12, true) }) (v := ?_) rfl (by kernel_rfl) (by kernel_rfl) (by kernel_rfl) (fun _ _ _ h => h) (Or.inl ⟨by rfl, ?_⟩) (by assumption) ?_
          rotate_left
          · (intro w hSw; (try dsimp only at hSw); go_simp; try with_reducible rfl)
          try simp only [Act.put, List.setIfInBounds_toArray, List.set_cons_zero, List.set_cons_succ]
          refine wpAnyH_take (i := 15) (oi := { dst := some 20, op := Op.load 23 (Operand.tmp 2), type := 23, pos := "law.go:90", after := #[{ on := 12, ground := Ground.guard }], guard := some (12, true) }) (v := ?_) rfl (by kernel_rfl) (by kernel_rfl) (by kernel_rfl) (fun _ _ _ h => h) (Or.inl ⟨by rfl, ?_⟩) (by assumption) ?_
          rotate_left
          · (intro w hSw; (try dsimp only at hSw); go_simp; try with_reducible rfl)
          try simp only [Act.put, List.setIfInBounds_toArray, List.set_cons_zero, List.set_cons_succ]
          refine wpAnyH_ready (rs := [16]) (by kernel_rfl) (by simp) (AllReadyH.cons (o := { dst := some 21, op := Op.call { callee := Callee.value (Operand.func 23), args := #[Operand.tmp 20], argTypes := #[23] }, type := 2, pos := "law.go:90", after := #[{ on := 15, ground := Ground.data }, { on := 12, ground := Ground.chain }, { on := 12, ground := Ground.guard }], guard := some (12, true) }) rfl (fun K hK => ?_) AllReadyH.nil)
          go_simp
          refine (HEA.out _).mono ?_
          rintro e w3 ⟨rfl, hb3⟩
          dsimp only
          have hB3 := below_step hHeld hb3
          clear hb3
          refine hK.out _ _ (by first | assumption | exact below_drew (by assumption)) (fun hHeld => ?_)
          clear hK K
          try simp only [Act.put, List.setIfInBounds_toArray, List.set_cons_zero, List.set_cons_succ]
          refine wpAnyH_take (i := 17) (oi := { dst := some 22, op := Op.binOp BinOp.lss 2 (Operand.tmp 19) (Operand.tmp 21) 2, type := 4, pos := "law.go:90", after := #[{ on := 14, ground := Ground.data }, { on := 16, ground := Ground.data }, { on := 12, ground := Ground.guard }], guard := some (12, true) }) (v := ?_) rfl (by kernel_rfl) (by kernel_rfl) (by kernel_rfl) (fun _ _ _ h => h) (Or.inl ⟨by rfl, ?_⟩) (by assumption) ?_
          rotate_left
          · (intro w hSw; (try dsimp only at hSw); go_simp; try with_reducible rfl)
          try simp only [Act.put, List.setIfInBounds_toArray, List.set_cons_zero, List.set_cons_succ]
          refine wpAnyH_take (i := 18) (oi := { dst := some 23, op := Op.pick (Operand.tmp 17) (Operand.tmp 22) (Operand.const (Value.bool false)), type := 4, pos := "law.go:90", after := #[{ on := 12, ground := Ground.data }, { on := 17, ground := Ground.data }], guard := none }) (v := ?_) rfl (by kernel_rfl) (by kernel_rfl) (by kernel_rfl) (fun _ _ _ h => h) (Or.inl ⟨by rfl, ?_⟩) (by assumption) ?_
          rotate_left
          · (intro w hSw; (try dsimp only at hSw); go_simp; try with_reducible rfl)
          try simp only [Act.put, List.setIfInBounds_toArray, List.set_cons_zero, List.set_cons_succ]
          refine wpAnyH_take (i := 19) (oi := { dst := some 24, op := Op.move (Operand.tmp 23), type := 4, pos := "law.go:90", after := #[{ on := 18, ground := Ground.data }, { on := 16, ground := Ground.chain }], guard := none }) (v := ?_) rfl (by kernel_rfl) (by kernel_rfl) (by kernel_rfl) (fun _ _ _ h => h) (Or.inl ⟨by rfl, ?_⟩) (by assumption) ?_
          rotate_left
          · (intro w hSw; (try dsimp only at hSw); go_simp; try with_reducible rfl)
          try simp only [Act.put, List.setIfInBounds_toArray, List.set_cons_zero, List.set_cons_succ]
          refine wpAnyH_take (i := 20) (oi := { dst := some 25, op := Op.fieldAddr 23 (Operand.tmp 2) 3, type := 0, pos := "law.go:90", after := #[{ on := 19, ground := Ground.guard }], guard := some (19, true) }) (v := ?_) rfl (by kernel_rfl) (by kernel_rfl) (by kernel_rfl) (fun _ _ _ h => h) (Or.inl ⟨by rfl, ?_⟩) (by assumption) ?_
          rotate_left
          · (intro w hSw; (try dsimp only at hSw); go_simp; try with_reducible rfl)
          try simp only [Act.put, List.setIfInBounds_toArray, List.set_cons_zero, List.set_cons_succ]
          refine wpAnyH_take (i := 21) (oi := { dst := some 26, op := Op.load 4 (Operand.tmp 25), type := 4, pos := "law.go:90", after := #[{ on := 20, ground := Ground.data }, { on := 19, ground := Ground.guard }], guard := some (19, true) }) (v := ?_) rfl (by kernel_rfl) (by kernel_rfl) (by kernel_rfl) (fun _ _ _ h => h) (Or.inl ⟨by rfl, ?_⟩) (by assumption) ?_
          rotate_left
          · (intro w hSw; (try dsimp only at hSw); go_simp; try with_reducible rfl)
          try simp only [Act.put, List.setIfInBounds_toArray, List.set_cons_zero, List.set_cons_succ]
          refine wpAnyH_take (i := 22) (oi := { dst := some 27, op := Op.move (Operand.tmp 26), type := 4, pos := "law.go:90", after := #[{ on := 21, ground := Ground.data }, { on := 19, ground := Ground.chain }, { on := 19, ground := Ground.guard }], guard := some (19, true) }) (v := ?_) rfl (by kernel_rfl) (by kernel_rfl) (by kernel_rfl) (fun _ _ _ h => h) (Or.inl ⟨by rfl, ?_⟩) (by assumption) ?_
          rotate_left
          · (intro w hSw; (try dsimp only at hSw); go_simp; try with_reducible rfl)
          try simp only [Act.put, List.setIfInBounds_toArray, List.set_cons_zero, List.set_cons_succ]
          refine wpAnyH_take (i := 23) (oi := { dst := some 28, op := Op.fieldAddr 23 (Operand.tmp 3) 3, type := 0, pos := "law.go:90", after := #[{ on := 22, ground := Ground.guard }], guard := some (22, false) }) (v := ?_) rfl (by kernel_rfl) (by kernel_rfl) (by kernel_rfl) (fun _ _ _ h => h) (Or.inl ⟨by rfl, ?_⟩) (by assumption) ?_
          rotate_left
          · (intro w hSw; (try dsimp only at hSw); go_simp; try with_reducible rfl)
          try simp only [Act.put, List.setIfInBounds_toArray, List.set_cons_zero, List.set_cons_succ]
          refine wpAnyH_take (i := 24) (oi := { dst := some 29, op := Op.load 4 (Operand.tmp 28), type := 4, pos := "law.go:90", after := #[{ on := 23, ground := Ground.data }, { on := 22, ground := Ground.guard }], guard := some (22, false) }) (v := ?_) rfl (by kernel_rfl) (by kernel_rfl) (by kernel_rfl) (fun _ _ _ h => h) (Or.inl ⟨by rfl, ?_⟩) (by assumption) ?_
          rotate_left
          · (intro w hSw; (try dsimp only at hSw); go_simp; try with_reducible rfl)
          try simp only [Act.put, List.setIfInBounds_toArray, List.set_cons_zero, List.set_cons_succ]
          refine wpAnyH_take (i := 25) (oi := { dst := some 30, op := Op.pick (Operand.tmp 27) (Operand.const (Value.bool true)) (Operand.tmp 29), type := 4, pos := "law.go:90", after := #[{ on := 22, ground := Ground.data }, { on := 24, ground := Ground.data }, { on := 19, ground := Ground.guard }], guard := some (19, true) }) (v := ?_) rfl (by kernel_rfl) (by kernel_rfl) (by kernel_rfl) (fun _ _ _ h => h) (Or.inl ⟨by rfl, ?_⟩) (by assumption) ?_
          rotate_left
          · (intro w hSw; (try dsimp only at hSw); go_simp; try with_reducible rfl)
          try simp only [Act.put, List.setIfInBounds_toArray, List.set_cons_zero, List.set_cons_succ]
          refine wpAnyH_take (i := 26) (oi := { dst := some 31, op := Op.pick (Operand.tmp 24) (Operand.tmp 30) (Operand.const (Value.bool false)), type := 4, pos := "law.go:90", after := #[{ on := 19, ground := Ground.data }, { on := 25, ground := Ground.data }], guard := none }) (v := ?_) rfl (by kernel_rfl) (by kernel_rfl) (by kernel_rfl) (fun _ _ _ h => h) (Or.inl ⟨by rfl, ?_⟩) (by assumption) ?_
          rotate_left
          · (intro w hSw; (try dsimp only at hSw); go_simp; try with_reducible rfl)
          try simp only [Act.put, List.setIfInBounds_toArray, List.set_cons_zero, List.set_cons_succ]
          refine wpAnyH_take (i := 27) (oi := { dst := some 4, op := Op.assign (Operand.tmp 31), type := 4, pos := "law.go:90", after := _, guard := none }) (v := ?_) rfl (by kernel_rfl) (by kernel_rfl) (by kernel_rfl) (fun _ _ _ h => h) (Or.inl ⟨by rfl, ?_⟩) (by assumption) ?_
          rotate_left
          · (intro w hSw; (try dsimp only at hSw); go_simp; try with_reducible rfl)
          try simp only [Act.put, List.setIfInBounds_toArray, List.set_cons_zero, List.set_cons_succ]
          refine wpAnyH_done (by kernel_rfl) ?_ _
          go_wp2
          go_ret
          exact ⟨rfl, below_back HW.out (by first | assumption | exact below_drew (by assumption))⟩
        · rw [Bool.true_or] at hR1
          subst hR1
          refine wp_region_held_drew (S := (fun w' => Below W.heap.size W w')) (by kernel_rfl) (by first | assumption | exact below_drew (by assumption)) (fun hHeld => ?_)
          refine wpAnyH_take (i := 0) (oi := { dst := some 5, op := Op.fieldAddr 23 (Operand.tmp 2) 0, type := 0, pos := "law.go:90", after := #[], guard := none }) (v := ?_) rfl (by kernel_rfl) (by kernel_rfl) (by kernel_rfl) (fun _ _ _ h => h) (Or.inl ⟨by rfl, ?_⟩) (by assumption) ?_
          rotate_left
          · (intro w hSw; (try dsimp only at hSw); go_simp; try with_reducible rfl)
          try simp only [Act.put, List.setIfInBounds_toArray, List.set_cons_zero, List.set_cons_succ]
          refine wpAnyH_take (i := 1) (oi := { dst := some 6, op := Op.load 3 (Operand.tmp 5), type := 3, pos := "law.go:90", after := #[{ on := 0, ground := Ground.data }], guard := none }) (v := ?_) rfl (by kernel_rfl) (by kernel_rfl) (by kernel_rfl) (fun _ _ _ h => h) (Or.inl ⟨by rfl, ?_⟩) (by assumption) ?_
          rotate_left
          · (intro w hSw; (try dsimp only at hSw); go_simp; try with_reducible rfl)
          try simp only [Act.put, List.setIfInBounds_toArray, List.set_cons_zero, List.set_cons_succ]
          refine wpAnyH_take (i := 2) (oi := { dst := some 7, op := Op.fieldAddr 23 (Operand.tmp 3) 0, type := 0, pos := "law.go:90", after := #[], guard := none }) (v := ?_) rfl (by kernel_rfl) (by kernel_rfl) (by kernel_rfl) (fun _ _ _ h => h) (Or.inl ⟨by rfl, ?_⟩) (by assumption) ?_
          rotate_left
          · (intro w hSw; (try dsimp only at hSw); go_simp; try with_reducible rfl)
          try simp only [Act.put, List.setIfInBounds_toArray, List.set_cons_zero, List.set_cons_succ]
          refine wpAnyH_take (i := 3) (oi := { dst := some 8, op := Op.load 3 (Operand.tmp 7), type := 3, pos := "law.go:90", after := #[{ on := 2, ground := Ground.data }], guard := none }) (v := ?_) rfl (by kernel_rfl) (by kernel_rfl) (by kernel_rfl) (fun _ _ _ h => h) (Or.inl ⟨by rfl, ?_⟩) (by assumption) ?_
          rotate_left
          · (intro w hSw; (try dsimp only at hSw); go_simp; try with_reducible rfl)
          try simp only [Act.put, List.setIfInBounds_toArray, List.set_cons_zero, List.set_cons_succ]
          refine wpAnyH_take (i := 4) (oi := { dst := some 9, op := Op.binOp BinOp.neq 3 (Operand.tmp 6) (Operand.tmp 8) 3, type := 4, pos := "law.go:90", after := #[{ on := 1, ground := Ground.data }, { on := 3, ground := Ground.data }], guard := none }) (v := ?_) rfl (by kernel_rfl) (by kernel_rfl) (by kernel_rfl) (fun _ _ _ h => h) (Or.inl ⟨by rfl, ?_⟩) (by assumption) ?_
          rotate_left
          · (intro w hSw; (try dsimp only at hSw); go_simp; try with_reducible rfl)
          try simp only [Act.put, List.setIfInBounds_toArray, List.set_cons_zero, List.set_cons_succ]
          refine wpAnyH_take (i := 5) (oi := { dst := some 10, op := Op.move (Operand.tmp 9), type := 4, pos := "law.go:90", after := #[{ on := 4, ground := Ground.data }], guard := none }) (v := ?_) rfl (by kernel_rfl) (by kernel_rfl) (by kernel_rfl) (fun _ _ _ h => h) (Or.inl ⟨by rfl, ?_⟩) (by assumption) ?_
          rotate_left
          · (intro w hSw; (try dsimp only at hSw); go_simp; try with_reducible rfl)
          try simp only [Act.put, List.setIfInBounds_toArray, List.set_cons_zero, List.set_cons_succ]
          refine wpAnyH_take (i := 6) (oi := { dst := some 11, op := Op.fieldAddr 23 (Operand.tmp 2) 1, type := 0, pos := "law.go:90", after := #[{ on := 5, ground := Ground.guard }], guard := some (5, true) }) (v := ?_) rfl (by kernel_rfl) (by kernel_rfl) (by kernel_rfl) (fun _ _ _ h => h) (Or.inl ⟨by rfl, ?_⟩) (by assumption) ?_
          rotate_left
          · (intro w hSw; (try dsimp only at hSw); go_simp; try with_reducible rfl)
          try simp only [Act.put, List.setIfInBounds_toArray, List.set_cons_zero, List.set_cons_succ]
          refine wpAnyH_take (i := 7) (oi := { dst := some 12, op := Op.load 2 (Operand.tmp 11), type := 2, pos := "law.go:90", after := #[{ on := 6, ground := Ground.data }, { on := 5, ground := Ground.guard }], guard := some (5, true) }) (v := ?_) rfl (by kernel_rfl) (by kernel_rfl) (by kernel_rfl) (fun _ _ _ h => h) (Or.inl ⟨by rfl, ?_⟩) (by assumption) ?_
          rotate_left
          · (intro w hSw; (try dsimp only at hSw); go_simp; try with_reducible rfl)
          try simp only [Act.put, List.setIfInBounds_toArray, List.set_cons_zero, List.set_cons_succ]
          refine wpAnyH_take (i := 8) (oi := { dst := some 13, op := Op.load 23 (Operand.tmp 3), type := 23, pos := "law.go:90", after := #[{ on := 5, ground := Ground.guard }], guard := some (5, true) }) (v := ?_) rfl (by kernel_rfl) (by kernel_rfl) (by kernel_rfl) (fun _ _ _ h => h) (Or.inl ⟨by rfl, ?_⟩) (by assumption) ?_
          rotate_left
          · (intro w hSw; (try dsimp only at hSw); go_simp; try with_reducible rfl)
          try simp only [Act.put, List.setIfInBounds_toArray, List.set_cons_zero, List.set_cons_succ]
          refine wpAnyH_ready (rs := [9]) (by kernel_rfl) (by simp) (AllReadyH.cons (o := { dst := some 14, op := Op.call { callee := Callee.value (Operand.func 23), args := #[Operand.tmp 13], argTypes := #[23] }, type := 2, pos := "law.go:90", after := #[{ on := 8, ground := Ground.data }, { on := 5, ground := Ground.chain }, { on := 5, ground := Ground.guard }], guard := some (5, true) }) rfl (fun K hK => ?_) AllReadyH.nil)
          go_simp
          refine (HEB.out _).mono ?_
          rintro e w2 ⟨rfl, hb2⟩
          dsimp only
          have hB2 := below_step hHeld hb2
          clear hb2
          refine hK.out _ _ (by first | assumption | exact below_drew (by assumption)) (fun hHeld => ?_)
          clear hK K
          try simp only [Act.put, List.setIfInBounds_toArray, List.set_cons_zero, List.set_cons_succ]
          refine wpAnyH_take (i := 10) (oi := { dst := some 15, op := Op.binOp BinOp.lss 2 (Operand.tmp 12) (Operand.tmp 14) 2, type := 4, pos := "law.go:90", after := #[{ on := 7, ground := Ground.data }, { on := 9, ground := Ground.data }, { on := 5, ground := Ground.guard }], guard := some (5, true) }) (v := ?_) rfl (by kernel_rfl) (by kernel_rfl) (by kernel_rfl) (fun _ _ _ h => h) (Or.inl ⟨by rfl, ?_⟩) (by assumption) ?_
          rotate_left
          · (intro w hSw; (try dsimp only at hSw); go_simp; try with_reducible rfl)
          try simp only [Act.put, List.setIfInBounds_toArray, List.set_cons_zero, List.set_cons_succ]
          refine wpAnyH_take (i := 11) (oi := { dst := some 16, op := Op.pick (Operand.tmp 10) (Operand.tmp 15) (Operand.const (Value.bool false)), type := 4, pos := "law.go:90", after := #[{ on := 5, ground := Ground.data }, { on := 10, ground := Ground.data }], guard := none }) (v := ?_) rfl (by kernel_rfl) (by kernel_rfl) (by kernel_rfl) (fun _ _ _ h => h) (Or.inl ⟨by rfl, ?_⟩) (by assumption) ?_
          rotate_left
          · (intro w hSw; (try dsimp only at hSw); go_simp; try with_reducible rfl)
          try simp only [Act.put, List.setIfInBounds_toArray, List.set_cons_zero, List.set_cons_succ]
          refine wpAnyH_take (i := 12) (oi := { dst := some 17, op := Op.move (Operand.tmp 16), type := 4, pos := "law.go:90", after := #[{ on := 11, ground := Ground.data }, { on := 9, ground := Ground.chain }], guard := none }) (v := ?_) rfl (by kernel_rfl) (by kernel_rfl) (by kernel_rfl) (fun _ _ _ h => h) (Or.inl ⟨by rfl, ?_⟩) (by assumption) ?_
          rotate_left
          · (intro w hSw; (try dsimp only at hSw); go_simp; try with_reducible rfl)
          try simp only [Act.put, List.setIfInBounds_toArray, List.set_cons_zero, List.set_cons_succ]
          refine wpAnyH_take (i := 13) (oi := { dst := some 18, op := Op.fieldAddr 23 (Operand.tmp 3) 1, type := 0, pos := "law.go:90", after := #[{ on := 12, ground := Ground.guard }], guard := some (12, true) }) (v := ?_) rfl (by kernel_rfl) (by kernel_rfl) (by kernel_rfl) (fun _ _ _ h => h) (Or.inl ⟨by rfl, ?_⟩) (by assumption) ?_
          rotate_left
          · (intro w hSw; (try dsimp only at hSw); go_simp; try with_reducible rfl)
          try simp only [Act.put, List.setIfInBounds_toArray, List.set_cons_zero, List.set_cons_succ]
          refine wpAnyH_take (i := 14) (oi := { dst := some 19, op := Op.load 2 (Operand.tmp 18), type := 2, pos := "law.go:90", after := #[{ on := 13, ground := Ground.data }, { on := 12, ground := Ground.guard }], guard := some (12, true) }) (v := ?_) rfl (by kernel_rfl) (by kernel_rfl) (by kernel_rfl) (fun _ _ _ h => h) (Or.inl ⟨by rfl, ?_⟩) (by assumption) ?_
          rotate_left
          · (intro w hSw; (try dsimp only at hSw); go_simp; try with_reducible rfl)
          try simp only [Act.put, List.setIfInBounds_toArray, List.set_cons_zero, List.set_cons_succ]
          refine wpAnyH_take (i := 15) (oi := { dst := some 20, op := Op.load 23 (Operand.tmp 2), type := 23, pos := "law.go:90", after := #[{ on := 12, ground := Ground.guard }], guard := some (12, true) }) (v := ?_) rfl (by kernel_rfl) (by kernel_rfl) (by kernel_rfl) (fun _ _ _ h => h) (Or.inl ⟨by rfl, ?_⟩) (by assumption) ?_
          rotate_left
          · (intro w hSw; (try dsimp only at hSw); go_simp; try with_reducible rfl)
          try simp only [Act.put, List.setIfInBounds_toArray, List.set_cons_zero, List.set_cons_succ]
          refine wpAnyH_ready (rs := [16]) (by kernel_rfl) (by simp) (AllReadyH.cons (o := { dst := some 21, op := Op.call { callee := Callee.value (Operand.func 23), args := #[Operand.tmp 20], argTypes := #[23] }, type := 2, pos := "law.go:90", after := #[{ on := 15, ground := Ground.data }, { on := 12, ground := Ground.chain }, { on := 12, ground := Ground.guard }], guard := some (12, true) }) rfl (fun K hK => ?_) AllReadyH.nil)
          go_simp
          refine (HEA.out _).mono ?_
          rintro e w3 ⟨rfl, hb3⟩
          dsimp only
          have hB3 := below_step hHeld hb3
          clear hb3
          refine hK.out _ _ (by first | assumption | exact below_drew (by assumption)) (fun hHeld => ?_)
          clear hK K
          try simp only [Act.put, List.setIfInBounds_toArray, List.set_cons_zero, List.set_cons_succ]
          refine wpAnyH_take (i := 17) (oi := { dst := some 22, op := Op.binOp BinOp.lss 2 (Operand.tmp 19) (Operand.tmp 21) 2, type := 4, pos := "law.go:90", after := #[{ on := 14, ground := Ground.data }, { on := 16, ground := Ground.data }, { on := 12, ground := Ground.guard }], guard := some (12, true) }) (v := ?_) rfl (by kernel_rfl) (by kernel_rfl) (by kernel_rfl) (fun _ _ _ h => h) (Or.inl ⟨by rfl, ?_⟩) (by assumption) ?_
          rotate_left
          · (intro w hSw; (try dsimp only at hSw); go_simp; try with_reducible rfl)
          try simp only [Act.put, List.setIfInBounds_toArray, List.set_cons_zero, List.set_cons_succ]
          refine wpAnyH_take (i := 18) (oi := { dst := some 23, op := Op.pick (Operand.tmp 17) (Operand.tmp 22) (Operand.const (Value.bool false)), type := 4, pos := "law.go:90", after := #[{ on := 12, ground := Ground.data }, { on := 17, ground := Ground.data }], guard := none }) (v := ?_) rfl (by kernel_rfl) (by kernel_rfl) (by kernel_rfl) (fun _ _ _ h => h) (Or.inl ⟨by rfl, ?_⟩) (by assumption) ?_
          rotate_left
          · (intro w hSw; (try dsimp only at hSw); go_simp; try with_reducible rfl)
          try simp only [Act.put, List.setIfInBounds_toArray, List.set_cons_zero, List.set_cons_succ]
          refine wpAnyH_take (i := 19) (oi := { dst := some 24, op := Op.move (Operand.tmp 23), type := 4, pos := "law.go:90", after := #[{ on := 18, ground := Ground.data }, { on := 16, ground := Ground.chain }], guard := none }) (v := ?_) rfl (by kernel_rfl) (by kernel_rfl) (by kernel_rfl) (fun _ _ _ h => h) (Or.inl ⟨by rfl, ?_⟩) (by assumption) ?_
          rotate_left
          · (intro w hSw; (try dsimp only at hSw); go_simp; try with_reducible rfl)
          try simp only [Act.put, List.setIfInBounds_toArray, List.set_cons_zero, List.set_cons_succ]
          refine wpAnyH_take (i := 20) (oi := { dst := some 25, op := Op.fieldAddr 23 (Operand.tmp 2) 3, type := 0, pos := "law.go:90", after := #[{ on := 19, ground := Ground.guard }], guard := some (19, true) }) (v := ?_) rfl (by kernel_rfl) (by kernel_rfl) (by kernel_rfl) (fun _ _ _ h => h) (Or.inl ⟨by rfl, ?_⟩) (by assumption) ?_
          rotate_left
          · (intro w hSw; (try dsimp only at hSw); go_simp; try with_reducible rfl)
          try simp only [Act.put, List.setIfInBounds_toArray, List.set_cons_zero, List.set_cons_succ]
          refine wpAnyH_take (i := 21) (oi := { dst := some 26, op := Op.load 4 (Operand.tmp 25), type := 4, pos := "law.go:90", after := #[{ on := 20, ground := Ground.data }, { on := 19, ground := Ground.guard }], guard := some (19, true) }) (v := ?_) rfl (by kernel_rfl) (by kernel_rfl) (by kernel_rfl) (fun _ _ _ h => h) (Or.inl ⟨by rfl, ?_⟩) (by assumption) ?_
          rotate_left
          · (intro w hSw; (try dsimp only at hSw); go_simp; try with_reducible rfl)
          try simp only [Act.put, List.setIfInBounds_toArray, List.set_cons_zero, List.set_cons_succ]
          refine wpAnyH_take (i := 22) (oi := { dst := some 27, op := Op.move (Operand.tmp 26), type := 4, pos := "law.go:90", after := #[{ on := 21, ground := Ground.data }, { on := 19, ground := Ground.chain }, { on := 19, ground := Ground.guard }], guard := some (19, true) }) (v := ?_) rfl (by kernel_rfl) (by kernel_rfl) (by kernel_rfl) (fun _ _ _ h => h) (Or.inl ⟨by rfl, ?_⟩) (by assumption) ?_
          rotate_left
          · (intro w hSw; (try dsimp only at hSw); go_simp; try with_reducible rfl)
          try simp only [Act.put, List.setIfInBounds_toArray, List.set_cons_zero, List.set_cons_succ]
          refine wpAnyH_take (i := 23) (oi := { dst := some 28, op := Op.fieldAddr 23 (Operand.tmp 3) 3, type := 0, pos := "law.go:90", after := #[{ on := 22, ground := Ground.guard }], guard := some (22, false) }) rfl (by kernel_rfl) (by kernel_rfl) (by kernel_rfl) (fun _ _ _ h => h) (Or.inr ⟨by rfl, rfl⟩) (by assumption) ?_
          try simp only [Act.put, List.setIfInBounds_toArray, List.set_cons_zero, List.set_cons_succ]
          refine wpAnyH_take (i := 24) (oi := { dst := some 29, op := Op.load 4 (Operand.tmp 28), type := 4, pos := "law.go:90", after := #[{ on := 23, ground := Ground.data }, { on := 22, ground := Ground.guard }], guard := some (22, false) }) rfl (by kernel_rfl) (by kernel_rfl) (by kernel_rfl) (fun _ _ _ h => h) (Or.inr ⟨by rfl, rfl⟩) (by assumption) ?_
          try simp only [Act.put, List.setIfInBounds_toArray, List.set_cons_zero, List.set_cons_succ]
          refine wpAnyH_take (i := 25) (oi := { dst := some 30, op := Op.pick (Operand.tmp 27) (Operand.const (Value.bool true)) (Operand.tmp 29), type := 4, pos := "law.go:90", after := #[{ on := 22, ground := Ground.data }, { on := 24, ground := Ground.data }, { on := 19, ground := Ground.guard }], guard := some (19, true) }) (v := ?_) rfl (by kernel_rfl) (by kernel_rfl) (by kernel_rfl) (fun _ _ _ h => h) (Or.inl ⟨by rfl, ?_⟩) (by assumption) ?_
          rotate_left
          · (intro w hSw; (try dsimp only at hSw); go_simp; try with_reducible rfl)
          try simp only [Act.put, List.setIfInBounds_toArray, List.set_cons_zero, List.set_cons_succ]
          refine wpAnyH_take (i := 26) (oi := { dst := some 31, op := Op.pick (Operand.tmp 24) (Operand.tmp 30) (Operand.const (Value.bool false)), type := 4, pos := "law.go:90", after := #[{ on := 19, ground := Ground.data }, { on := 25, ground := Ground.data }], guard := none }) (v := ?_) rfl (by kernel_rfl) (by kernel_rfl) (by kernel_rfl) (fun _ _ _ h => h) (Or.inl ⟨by rfl, ?_⟩) (by assumption) ?_
          rotate_left
          · (intro w hSw; (try dsimp only at hSw); go_simp; try with_reducible rfl)
          try simp only [Act.put, List.setIfInBounds_toArray, List.set_cons_zero, List.set_cons_succ]
          refine wpAnyH_take (i := 27) (oi := { dst := some 4, op := Op.assign (Operand.tmp 31), type := 4, pos := "law.go:90", after := _, guard := none }) (v := ?_) rfl (by kernel_rfl) (by kernel_rfl) (by kernel_rfl) (fun _ _ _ h => h) (Or.inl ⟨by rfl, ?_⟩) (by assumption) ?_
          rotate_left
          · (intro w hSw; (try dsimp only at hSw); go_simp; try with_reducible rfl)
          try simp only [Act.put, List.setIfInBounds_toArray, List.set_cons_zero, List.set_cons_succ]
          refine wpAnyH_done (by kernel_rfl) ?_ _
          go_wp2
          go_ret
          exact ⟨rfl, below_back HW.out (by first | assumption | exact below_drew (by assumption))⟩
      · have d3 : decide (b1 < ea) = false := decide_eq_false h3
        rw [d3, Bool.false_and] at hR1
        subst hR1
        clear h3
        refine wp_region_held_drew (S := (fun w' => Below W.heap.size W w')) (by kernel_rfl) (by first | assumption | exact below_drew (by assumption)) (fun hHeld => ?_)
        refine wpAnyH_take (i := 0) (oi := { dst := some 5, op := Op.fieldAddr 23 (Operand.tmp 2) 0, type := 0, pos := "law.go:90", after := #[], guard := none }) (v := ?_) rfl (by kernel_rfl) (by kernel_rfl) (by kernel_rfl) (fun _ _ _ h => h) (Or.inl ⟨by rfl, ?_⟩) (by assumption) ?_
        rotate_left
        · (intro w hSw; (try dsimp only at hSw); go_simp; try with_reducible rfl)
        try simp only [Act.put, List.setIfInBounds_toArray, List.set_cons_zero, List.set_cons_succ]
        refine wpAnyH_take (i := 1) (oi := { dst := some 6, op := Op.load 3 (Operand.tmp 5), type := 3, pos := "law.go:90", after := #[{ on := 0, ground := Ground.data }], guard := none }) (v := ?_) rfl (by kernel_rfl) (by kernel_rfl) (by kernel_rfl) (fun _ _ _ h => h) (Or.inl ⟨by rfl, ?_⟩) (by assumption) ?_
        rotate_left
        · (intro w hSw; (try dsimp only at hSw); go_simp; try with_reducible rfl)
        try simp only [Act.put, List.setIfInBounds_toArray, List.set_cons_zero, List.set_cons_succ]
        refine wpAnyH_take (i := 2) (oi := { dst := some 7, op := Op.fieldAddr 23 (Operand.tmp 3) 0, type := 0, pos := "law.go:90", after := #[], guard := none }) (v := ?_) rfl (by kernel_rfl) (by kernel_rfl) (by kernel_rfl) (fun _ _ _ h => h) (Or.inl ⟨by rfl, ?_⟩) (by assumption) ?_
        rotate_left
        · (intro w hSw; (try dsimp only at hSw); go_simp; try with_reducible rfl)
        try simp only [Act.put, List.setIfInBounds_toArray, List.set_cons_zero, List.set_cons_succ]
        refine wpAnyH_take (i := 3) (oi := { dst := some 8, op := Op.load 3 (Operand.tmp 7), type := 3, pos := "law.go:90", after := #[{ on := 2, ground := Ground.data }], guard := none }) (v := ?_) rfl (by kernel_rfl) (by kernel_rfl) (by kernel_rfl) (fun _ _ _ h => h) (Or.inl ⟨by rfl, ?_⟩) (by assumption) ?_
        rotate_left
        · (intro w hSw; (try dsimp only at hSw); go_simp; try with_reducible rfl)
        try simp only [Act.put, List.setIfInBounds_toArray, List.set_cons_zero, List.set_cons_succ]
        refine wpAnyH_take (i := 4) (oi := { dst := some 9, op := Op.binOp BinOp.neq 3 (Operand.tmp 6) (Operand.tmp 8) 3, type := 4, pos := "law.go:90", after := #[{ on := 1, ground := Ground.data }, { on := 3, ground := Ground.data }], guard := none }) (v := ?_) rfl (by kernel_rfl) (by kernel_rfl) (by kernel_rfl) (fun _ _ _ h => h) (Or.inl ⟨by rfl, ?_⟩) (by assumption) ?_
        rotate_left
        · (intro w hSw; (try dsimp only at hSw); go_simp; try with_reducible rfl)
        try simp only [Act.put, List.setIfInBounds_toArray, List.set_cons_zero, List.set_cons_succ]
        refine wpAnyH_take (i := 5) (oi := { dst := some 10, op := Op.move (Operand.tmp 9), type := 4, pos := "law.go:90", after := #[{ on := 4, ground := Ground.data }], guard := none }) (v := ?_) rfl (by kernel_rfl) (by kernel_rfl) (by kernel_rfl) (fun _ _ _ h => h) (Or.inl ⟨by rfl, ?_⟩) (by assumption) ?_
        rotate_left
        · (intro w hSw; (try dsimp only at hSw); go_simp; try with_reducible rfl)
        try simp only [Act.put, List.setIfInBounds_toArray, List.set_cons_zero, List.set_cons_succ]
        refine wpAnyH_take (i := 6) (oi := { dst := some 11, op := Op.fieldAddr 23 (Operand.tmp 2) 1, type := 0, pos := "law.go:90", after := #[{ on := 5, ground := Ground.guard }], guard := some (5, true) }) (v := ?_) rfl (by kernel_rfl) (by kernel_rfl) (by kernel_rfl) (fun _ _ _ h => h) (Or.inl ⟨by rfl, ?_⟩) (by assumption) ?_
        rotate_left
        · (intro w hSw; (try dsimp only at hSw); go_simp; try with_reducible rfl)
        try simp only [Act.put, List.setIfInBounds_toArray, List.set_cons_zero, List.set_cons_succ]
        refine wpAnyH_take (i := 7) (oi := { dst := some 12, op := Op.load 2 (Operand.tmp 11), type := 2, pos := "law.go:90", after := #[{ on := 6, ground := Ground.data }, { on := 5, ground := Ground.guard }], guard := some (5, true) }) (v := ?_) rfl (by kernel_rfl) (by kernel_rfl) (by kernel_rfl) (fun _ _ _ h => h) (Or.inl ⟨by rfl, ?_⟩) (by assumption) ?_
        rotate_left
        · (intro w hSw; (try dsimp only at hSw); go_simp; try with_reducible rfl)
        try simp only [Act.put, List.setIfInBounds_toArray, List.set_cons_zero, List.set_cons_succ]
        refine wpAnyH_take (i := 8) (oi := { dst := some 13, op := Op.load 23 (Operand.tmp 3), type := 23, pos := "law.go:90", after := #[{ on := 5, ground := Ground.guard }], guard := some (5, true) }) (v := ?_) rfl (by kernel_rfl) (by kernel_rfl) (by kernel_rfl) (fun _ _ _ h => h) (Or.inl ⟨by rfl, ?_⟩) (by assumption) ?_
        rotate_left
        · (intro w hSw; (try dsimp only at hSw); go_simp; try with_reducible rfl)
        try simp only [Act.put, List.setIfInBounds_toArray, List.set_cons_zero, List.set_cons_succ]
        refine wpAnyH_ready (rs := [9]) (by kernel_rfl) (by simp) (AllReadyH.cons (o := { dst := some 14, op := Op.call { callee := Callee.value (Operand.func 23), args := #[Operand.tmp 13], argTypes := #[23] }, type := 2, pos := "law.go:90", after := #[{ on := 8, ground := Ground.data }, { on := 5, ground := Ground.chain }, { on := 5, ground := Ground.guard }], guard := some (5, true) }) rfl (fun K hK => ?_) AllReadyH.nil)
        go_simp
        refine (HEB.out _).mono ?_
        rintro e w2 ⟨rfl, hb2⟩
        dsimp only
        have hB2 := below_step hHeld hb2
        clear hb2
        refine hK.out _ _ (by first | assumption | exact below_drew (by assumption)) (fun hHeld => ?_)
        clear hK K
        try simp only [Act.put, List.setIfInBounds_toArray, List.set_cons_zero, List.set_cons_succ]
        refine wpAnyH_take (i := 10) (oi := { dst := some 15, op := Op.binOp BinOp.lss 2 (Operand.tmp 12) (Operand.tmp 14) 2, type := 4, pos := "law.go:90", after := #[{ on := 7, ground := Ground.data }, { on := 9, ground := Ground.data }, { on := 5, ground := Ground.guard }], guard := some (5, true) }) (v := ?_) rfl (by kernel_rfl) (by kernel_rfl) (by kernel_rfl) (fun _ _ _ h => h) (Or.inl ⟨by rfl, ?_⟩) (by assumption) ?_
        rotate_left
        · (intro w hSw; (try dsimp only at hSw); go_simp; try with_reducible rfl)
        try simp only [Act.put, List.setIfInBounds_toArray, List.set_cons_zero, List.set_cons_succ]
        refine wpAnyH_take (i := 11) (oi := { dst := some 16, op := Op.pick (Operand.tmp 10) (Operand.tmp 15) (Operand.const (Value.bool false)), type := 4, pos := "law.go:90", after := #[{ on := 5, ground := Ground.data }, { on := 10, ground := Ground.data }], guard := none }) (v := ?_) rfl (by kernel_rfl) (by kernel_rfl) (by kernel_rfl) (fun _ _ _ h => h) (Or.inl ⟨by rfl, ?_⟩) (by assumption) ?_
        rotate_left
        · (intro w hSw; (try dsimp only at hSw); go_simp; try with_reducible rfl)
        try simp only [Act.put, List.setIfInBounds_toArray, List.set_cons_zero, List.set_cons_succ]
        refine wpAnyH_take (i := 12) (oi := { dst := some 17, op := Op.move (Operand.tmp 16), type := 4, pos := "law.go:90", after := #[{ on := 11, ground := Ground.data }, { on := 9, ground := Ground.chain }], guard := none }) (v := ?_) rfl (by kernel_rfl) (by kernel_rfl) (by kernel_rfl) (fun _ _ _ h => h) (Or.inl ⟨by rfl, ?_⟩) (by assumption) ?_
        rotate_left
        · (intro w hSw; (try dsimp only at hSw); go_simp; try with_reducible rfl)
        try simp only [Act.put, List.setIfInBounds_toArray, List.set_cons_zero, List.set_cons_succ]
        refine wpAnyH_take (i := 13) (oi := { dst := some 18, op := Op.fieldAddr 23 (Operand.tmp 3) 1, type := 0, pos := "law.go:90", after := #[{ on := 12, ground := Ground.guard }], guard := some (12, true) }) (v := ?_) rfl (by kernel_rfl) (by kernel_rfl) (by kernel_rfl) (fun _ _ _ h => h) (Or.inl ⟨by rfl, ?_⟩) (by assumption) ?_
        rotate_left
        · (intro w hSw; (try dsimp only at hSw); go_simp; try with_reducible rfl)
        try simp only [Act.put, List.setIfInBounds_toArray, List.set_cons_zero, List.set_cons_succ]
        refine wpAnyH_take (i := 14) (oi := { dst := some 19, op := Op.load 2 (Operand.tmp 18), type := 2, pos := "law.go:90", after := #[{ on := 13, ground := Ground.data }, { on := 12, ground := Ground.guard }], guard := some (12, true) }) (v := ?_) rfl (by kernel_rfl) (by kernel_rfl) (by kernel_rfl) (fun _ _ _ h => h) (Or.inl ⟨by rfl, ?_⟩) (by assumption) ?_
        rotate_left
        · (intro w hSw; (try dsimp only at hSw); go_simp; try with_reducible rfl)
        try simp only [Act.put, List.setIfInBounds_toArray, List.set_cons_zero, List.set_cons_succ]
        refine wpAnyH_take (i := 15) (oi := { dst := some 20, op := Op.load 23 (Operand.tmp 2), type := 23, pos := "law.go:90", after := #[{ on := 12, ground := Ground.guard }], guard := some (12, true) }) (v := ?_) rfl (by kernel_rfl) (by kernel_rfl) (by kernel_rfl) (fun _ _ _ h => h) (Or.inl ⟨by rfl, ?_⟩) (by assumption) ?_
        rotate_left
        · (intro w hSw; (try dsimp only at hSw); go_simp; try with_reducible rfl)
        try simp only [Act.put, List.setIfInBounds_toArray, List.set_cons_zero, List.set_cons_succ]
        refine wpAnyH_ready (rs := [16]) (by kernel_rfl) (by simp) (AllReadyH.cons (o := { dst := some 21, op := Op.call { callee := Callee.value (Operand.func 23), args := #[Operand.tmp 20], argTypes := #[23] }, type := 2, pos := "law.go:90", after := #[{ on := 15, ground := Ground.data }, { on := 12, ground := Ground.chain }, { on := 12, ground := Ground.guard }], guard := some (12, true) }) rfl (fun K hK => ?_) AllReadyH.nil)
        go_simp
        refine (HEA.out _).mono ?_
        rintro e w3 ⟨rfl, hb3⟩
        dsimp only
        have hB3 := below_step hHeld hb3
        clear hb3
        refine hK.out _ _ (by first | assumption | exact below_drew (by assumption)) (fun hHeld => ?_)
        clear hK K
        try simp only [Act.put, List.setIfInBounds_toArray, List.set_cons_zero, List.set_cons_succ]
        refine wpAnyH_take (i := 17) (oi := { dst := some 22, op := Op.binOp BinOp.lss 2 (Operand.tmp 19) (Operand.tmp 21) 2, type := 4, pos := "law.go:90", after := #[{ on := 14, ground := Ground.data }, { on := 16, ground := Ground.data }, { on := 12, ground := Ground.guard }], guard := some (12, true) }) (v := ?_) rfl (by kernel_rfl) (by kernel_rfl) (by kernel_rfl) (fun _ _ _ h => h) (Or.inl ⟨by rfl, ?_⟩) (by assumption) ?_
        rotate_left
        · (intro w hSw; (try dsimp only at hSw); go_simp; try with_reducible rfl)
        try simp only [Act.put, List.setIfInBounds_toArray, List.set_cons_zero, List.set_cons_succ]
        refine wpAnyH_take (i := 18) (oi := { dst := some 23, op := Op.pick (Operand.tmp 17) (Operand.tmp 22) (Operand.const (Value.bool false)), type := 4, pos := "law.go:90", after := #[{ on := 12, ground := Ground.data }, { on := 17, ground := Ground.data }], guard := none }) (v := ?_) rfl (by kernel_rfl) (by kernel_rfl) (by kernel_rfl) (fun _ _ _ h => h) (Or.inl ⟨by rfl, ?_⟩) (by assumption) ?_
        rotate_left
        · (intro w hSw; (try dsimp only at hSw); go_simp; try with_reducible rfl)
        try simp only [Act.put, List.setIfInBounds_toArray, List.set_cons_zero, List.set_cons_succ]
        refine wpAnyH_take (i := 19) (oi := { dst := some 24, op := Op.move (Operand.tmp 23), type := 4, pos := "law.go:90", after := #[{ on := 18, ground := Ground.data }, { on := 16, ground := Ground.chain }], guard := none }) (v := ?_) rfl (by kernel_rfl) (by kernel_rfl) (by kernel_rfl) (fun _ _ _ h => h) (Or.inl ⟨by rfl, ?_⟩) (by assumption) ?_
        rotate_left
        · (intro w hSw; (try dsimp only at hSw); go_simp; try with_reducible rfl)
        try simp only [Act.put, List.setIfInBounds_toArray, List.set_cons_zero, List.set_cons_succ]
        refine wpAnyH_take (i := 20) (oi := { dst := some 25, op := Op.fieldAddr 23 (Operand.tmp 2) 3, type := 0, pos := "law.go:90", after := #[{ on := 19, ground := Ground.guard }], guard := some (19, true) }) rfl (by kernel_rfl) (by kernel_rfl) (by kernel_rfl) (fun _ _ _ h => h) (Or.inr ⟨by rfl, rfl⟩) (by assumption) ?_
        try simp only [Act.put, List.setIfInBounds_toArray, List.set_cons_zero, List.set_cons_succ]
        refine wpAnyH_take (i := 21) (oi := { dst := some 26, op := Op.load 4 (Operand.tmp 25), type := 4, pos := "law.go:90", after := #[{ on := 20, ground := Ground.data }, { on := 19, ground := Ground.guard }], guard := some (19, true) }) rfl (by kernel_rfl) (by kernel_rfl) (by kernel_rfl) (fun _ _ _ h => h) (Or.inr ⟨by rfl, rfl⟩) (by assumption) ?_
        try simp only [Act.put, List.setIfInBounds_toArray, List.set_cons_zero, List.set_cons_succ]
        refine wpAnyH_take (i := 22) (oi := { dst := some 27, op := Op.move (Operand.tmp 26), type := 4, pos := "law.go:90", after := #[{ on := 21, ground := Ground.data }, { on := 19, ground := Ground.chain }, { on := 19, ground := Ground.guard }], guard := some (19, true) }) rfl (by kernel_rfl) (by kernel_rfl) (by kernel_rfl) (fun _ _ _ h => h) (Or.inr ⟨by rfl, rfl⟩) (by assumption) ?_
        try simp only [Act.put, List.setIfInBounds_toArray, List.set_cons_zero, List.set_cons_succ]
        refine wpAnyH_take (i := 23) (oi := { dst := some 28, op := Op.fieldAddr 23 (Operand.tmp 3) 3, type := 0, pos := "law.go:90", after := #[{ on := 22, ground := Ground.guard }], guard := some (22, false) }) rfl (by kernel_rfl) (by kernel_rfl) (by kernel_rfl) (fun _ _ _ h => h) (Or.inr ⟨by rfl, rfl⟩) (by assumption) ?_
        try simp only [Act.put, List.setIfInBounds_toArray, List.set_cons_zero, List.set_cons_succ]
        refine wpAnyH_take (i := 24) (oi := { dst := some 29, op := Op.load 4 (Operand.tmp 28), type := 4, pos := "law.go:90", after := #[{ on := 23, ground := Ground.data }, { on := 22, ground := Ground.guard }], guard := some (22, false) }) rfl (by kernel_rfl) (by kernel_rfl) (by kernel_rfl) (fun _ _ _ h => h) (Or.inr ⟨by rfl, rfl⟩) (by assumption) ?_
        try simp only [Act.put, List.setIfInBounds_toArray, List.set_cons_zero, List.set_cons_succ]
        refine wpAnyH_take (i := 25) (oi := { dst := some 30, op := Op.pick (Operand.tmp 27) (Operand.const (Value.bool true)) (Operand.tmp 29), type := 4, pos := "law.go:90", after := #[{ on := 22, ground := Ground.data }, { on := 24, ground := Ground.data }, { on := 19, ground := Ground.guard }], guard := some (19, true) }) rfl (by kernel_rfl) (by kernel_rfl) (by kernel_rfl) (fun _ _ _ h => h) (Or.inr ⟨by rfl, rfl⟩) (by assumption) ?_
        try simp only [Act.put, List.setIfInBounds_toArray, List.set_cons_zero, List.set_cons_succ]
        refine wpAnyH_take (i := 26) (oi := { dst := some 31, op := Op.pick (Operand.tmp 24) (Operand.tmp 30) (Operand.const (Value.bool false)), type := 4, pos := "law.go:90", after := #[{ on := 19, ground := Ground.data }, { on := 25, ground := Ground.data }], guard := none }) (v := ?_) rfl (by kernel_rfl) (by kernel_rfl) (by kernel_rfl) (fun _ _ _ h => h) (Or.inl ⟨by rfl, ?_⟩) (by assumption) ?_
        rotate_left
        · (intro w hSw; (try dsimp only at hSw); go_simp; try with_reducible rfl)
        try simp only [Act.put, List.setIfInBounds_toArray, List.set_cons_zero, List.set_cons_succ]
        refine wpAnyH_take (i := 27) (oi := { dst := some 4, op := Op.assign (Operand.tmp 31), type := 4, pos := "law.go:90", after := _, guard := none }) (v := ?_) rfl (by kernel_rfl) (by kernel_rfl) (by kernel_rfl) (fun _ _ _ h => h) (Or.inl ⟨by rfl, ?_⟩) (by assumption) ?_
        rotate_left
        · (intro w hSw; (try dsimp only at hSw); go_simp; try with_reducible rfl)
        try simp only [Act.put, List.setIfInBounds_toArray, List.set_cons_zero, List.set_cons_succ]
        refine wpAnyH_done (by kernel_rfl) ?_ _
        go_wp2
        go_ret
        exact ⟨rfl, below_back HW.out (by first | assumption | exact below_drew (by assumption))⟩
    · have d2 : decide (a1 < eb) = false := decide_eq_false h2
      rw [d2, Bool.false_and] at hR1
      subst hR1
      clear h2
      refine wp_region_held_drew (S := (fun w' => Below W.heap.size W w')) (by kernel_rfl) (by first | assumption | exact below_drew (by assumption)) (fun hHeld => ?_)
      refine wpAnyH_take (i := 0) (oi := { dst := some 5, op := Op.fieldAddr 23 (Operand.tmp 2) 0, type := 0, pos := "law.go:90", after := #[], guard := none }) (v := ?_) rfl (by kernel_rfl) (by kernel_rfl) (by kernel_rfl) (fun _ _ _ h => h) (Or.inl ⟨by rfl, ?_⟩) (by assumption) ?_
      rotate_left
      · (intro w hSw; (try dsimp only at hSw); go_simp; try with_reducible rfl)
      try simp only [Act.put, List.setIfInBounds_toArray, List.set_cons_zero, List.set_cons_succ]
      refine wpAnyH_take (i := 1) (oi := { dst := some 6, op := Op.load 3 (Operand.tmp 5), type := 3, pos := "law.go:90", after := #[{ on := 0, ground := Ground.data }], guard := none }) (v := ?_) rfl (by kernel_rfl) (by kernel_rfl) (by kernel_rfl) (fun _ _ _ h => h) (Or.inl ⟨by rfl, ?_⟩) (by assumption) ?_
      rotate_left
      · (intro w hSw; (try dsimp only at hSw); go_simp; try with_reducible rfl)
      try simp only [Act.put, List.setIfInBounds_toArray, List.set_cons_zero, List.set_cons_succ]
      refine wpAnyH_take (i := 2) (oi := { dst := some 7, op := Op.fieldAddr 23 (Operand.tmp 3) 0, type := 0, pos := "law.go:90", after := #[], guard := none }) (v := ?_) rfl (by kernel_rfl) (by kernel_rfl) (by kernel_rfl) (fun _ _ _ h => h) (Or.inl ⟨by rfl, ?_⟩) (by assumption) ?_
      rotate_left
      · (intro w hSw; (try dsimp only at hSw); go_simp; try with_reducible rfl)
      try simp only [Act.put, List.setIfInBounds_toArray, List.set_cons_zero, List.set_cons_succ]
      refine wpAnyH_take (i := 3) (oi := { dst := some 8, op := Op.load 3 (Operand.tmp 7), type := 3, pos := "law.go:90", after := #[{ on := 2, ground := Ground.data }], guard := none }) (v := ?_) rfl (by kernel_rfl) (by kernel_rfl) (by kernel_rfl) (fun _ _ _ h => h) (Or.inl ⟨by rfl, ?_⟩) (by assumption) ?_
      rotate_left
      · (intro w hSw; (try dsimp only at hSw); go_simp; try with_reducible rfl)
      try simp only [Act.put, List.setIfInBounds_toArray, List.set_cons_zero, List.set_cons_succ]
      refine wpAnyH_take (i := 4) (oi := { dst := some 9, op := Op.binOp BinOp.neq 3 (Operand.tmp 6) (Operand.tmp 8) 3, type := 4, pos := "law.go:90", after := #[{ on := 1, ground := Ground.data }, { on := 3, ground := Ground.data }], guard := none }) (v := ?_) rfl (by kernel_rfl) (by kernel_rfl) (by kernel_rfl) (fun _ _ _ h => h) (Or.inl ⟨by rfl, ?_⟩) (by assumption) ?_
      rotate_left
      · (intro w hSw; (try dsimp only at hSw); go_simp; try with_reducible rfl)
      try simp only [Act.put, List.setIfInBounds_toArray, List.set_cons_zero, List.set_cons_succ]
      refine wpAnyH_take (i := 5) (oi := { dst := some 10, op := Op.move (Operand.tmp 9), type := 4, pos := "law.go:90", after := #[{ on := 4, ground := Ground.data }], guard := none }) (v := ?_) rfl (by kernel_rfl) (by kernel_rfl) (by kernel_rfl) (fun _ _ _ h => h) (Or.inl ⟨by rfl, ?_⟩) (by assumption) ?_
      rotate_left
      · (intro w hSw; (try dsimp only at hSw); go_simp; try with_reducible rfl)
      try simp only [Act.put, List.setIfInBounds_toArray, List.set_cons_zero, List.set_cons_succ]
      refine wpAnyH_take (i := 6) (oi := { dst := some 11, op := Op.fieldAddr 23 (Operand.tmp 2) 1, type := 0, pos := "law.go:90", after := #[{ on := 5, ground := Ground.guard }], guard := some (5, true) }) (v := ?_) rfl (by kernel_rfl) (by kernel_rfl) (by kernel_rfl) (fun _ _ _ h => h) (Or.inl ⟨by rfl, ?_⟩) (by assumption) ?_
      rotate_left
      · (intro w hSw; (try dsimp only at hSw); go_simp; try with_reducible rfl)
      try simp only [Act.put, List.setIfInBounds_toArray, List.set_cons_zero, List.set_cons_succ]
      refine wpAnyH_take (i := 7) (oi := { dst := some 12, op := Op.load 2 (Operand.tmp 11), type := 2, pos := "law.go:90", after := #[{ on := 6, ground := Ground.data }, { on := 5, ground := Ground.guard }], guard := some (5, true) }) (v := ?_) rfl (by kernel_rfl) (by kernel_rfl) (by kernel_rfl) (fun _ _ _ h => h) (Or.inl ⟨by rfl, ?_⟩) (by assumption) ?_
      rotate_left
      · (intro w hSw; (try dsimp only at hSw); go_simp; try with_reducible rfl)
      try simp only [Act.put, List.setIfInBounds_toArray, List.set_cons_zero, List.set_cons_succ]
      refine wpAnyH_take (i := 8) (oi := { dst := some 13, op := Op.load 23 (Operand.tmp 3), type := 23, pos := "law.go:90", after := #[{ on := 5, ground := Ground.guard }], guard := some (5, true) }) (v := ?_) rfl (by kernel_rfl) (by kernel_rfl) (by kernel_rfl) (fun _ _ _ h => h) (Or.inl ⟨by rfl, ?_⟩) (by assumption) ?_
      rotate_left
      · (intro w hSw; (try dsimp only at hSw); go_simp; try with_reducible rfl)
      try simp only [Act.put, List.setIfInBounds_toArray, List.set_cons_zero, List.set_cons_succ]
      refine wpAnyH_ready (rs := [9]) (by kernel_rfl) (by simp) (AllReadyH.cons (o := { dst := some 14, op := Op.call { callee := Callee.value (Operand.func 23), args := #[Operand.tmp 13], argTypes := #[23] }, type := 2, pos := "law.go:90", after := #[{ on := 8, ground := Ground.data }, { on := 5, ground := Ground.chain }, { on := 5, ground := Ground.guard }], guard := some (5, true) }) rfl (fun K hK => ?_) AllReadyH.nil)
      go_simp
      refine (HEB.out _).mono ?_
      rintro e w2 ⟨rfl, hb2⟩
      dsimp only
      have hB2 := below_step hHeld hb2
      clear hb2
      refine hK.out _ _ (by first | assumption | exact below_drew (by assumption)) (fun hHeld => ?_)
      clear hK K
      try simp only [Act.put, List.setIfInBounds_toArray, List.set_cons_zero, List.set_cons_succ]
      refine wpAnyH_take (i := 10) (oi := { dst := some 15, op := Op.binOp BinOp.lss 2 (Operand.tmp 12) (Operand.tmp 14) 2, type := 4, pos := "law.go:90", after := #[{ on := 7, ground := Ground.data }, { on := 9, ground := Ground.data }, { on := 5, ground := Ground.guard }], guard := some (5, true) }) (v := ?_) rfl (by kernel_rfl) (by kernel_rfl) (by kernel_rfl) (fun _ _ _ h => h) (Or.inl ⟨by rfl, ?_⟩) (by assumption) ?_
      rotate_left
      · (intro w hSw; (try dsimp only at hSw); go_simp; try with_reducible rfl)
      try simp only [Act.put, List.setIfInBounds_toArray, List.set_cons_zero, List.set_cons_succ]
      refine wpAnyH_take (i := 11) (oi := { dst := some 16, op := Op.pick (Operand.tmp 10) (Operand.tmp 15) (Operand.const (Value.bool false)), type := 4, pos := "law.go:90", after := #[{ on := 5, ground := Ground.data }, { on := 10, ground := Ground.data }], guard := none }) (v := ?_) rfl (by kernel_rfl) (by kernel_rfl) (by kernel_rfl) (fun _ _ _ h => h) (Or.inl ⟨by rfl, ?_⟩) (by assumption) ?_
      rotate_left
      · (intro w hSw; (try dsimp only at hSw); go_simp; try with_reducible rfl)
      try simp only [Act.put, List.setIfInBounds_toArray, List.set_cons_zero, List.set_cons_succ]
      refine wpAnyH_take (i := 12) (oi := { dst := some 17, op := Op.move (Operand.tmp 16), type := 4, pos := "law.go:90", after := #[{ on := 11, ground := Ground.data }, { on := 9, ground := Ground.chain }], guard := none }) (v := ?_) rfl (by kernel_rfl) (by kernel_rfl) (by kernel_rfl) (fun _ _ _ h => h) (Or.inl ⟨by rfl, ?_⟩) (by assumption) ?_
      rotate_left
      · (intro w hSw; (try dsimp only at hSw); go_simp; try with_reducible rfl)
      try simp only [Act.put, List.setIfInBounds_toArray, List.set_cons_zero, List.set_cons_succ]
      refine wpAnyH_take (i := 13) (oi := { dst := some 18, op := Op.fieldAddr 23 (Operand.tmp 3) 1, type := 0, pos := "law.go:90", after := #[{ on := 12, ground := Ground.guard }], guard := some (12, true) }) rfl (by kernel_rfl) (by kernel_rfl) (by kernel_rfl) (fun _ _ _ h => h) (Or.inr ⟨by rfl, rfl⟩) (by assumption) ?_
      try simp only [Act.put, List.setIfInBounds_toArray, List.set_cons_zero, List.set_cons_succ]
      refine wpAnyH_take (i := 14) (oi := { dst := some 19, op := Op.load 2 (Operand.tmp 18), type := 2, pos := "law.go:90", after := #[{ on := 13, ground := Ground.data }, { on := 12, ground := Ground.guard }], guard := some (12, true) }) rfl (by kernel_rfl) (by kernel_rfl) (by kernel_rfl) (fun _ _ _ h => h) (Or.inr ⟨by rfl, rfl⟩) (by assumption) ?_
      try simp only [Act.put, List.setIfInBounds_toArray, List.set_cons_zero, List.set_cons_succ]
      refine wpAnyH_take (i := 15) (oi := { dst := some 20, op := Op.load 23 (Operand.tmp 2), type := 23, pos := "law.go:90", after := #[{ on := 12, ground := Ground.guard }], guard := some (12, true) }) rfl (by kernel_rfl) (by kernel_rfl) (by kernel_rfl) (fun _ _ _ h => h) (Or.inr ⟨by rfl, rfl⟩) (by assumption) ?_
      try simp only [Act.put, List.setIfInBounds_toArray, List.set_cons_zero, List.set_cons_succ]
      refine wpAnyH_take (i := 16) (oi := { dst := some 21, op := Op.call { callee := Callee.value (Operand.func 23), args := #[Operand.tmp 20], argTypes := #[23] }, type := 2, pos := "law.go:90", after := #[{ on := 15, ground := Ground.data }, { on := 12, ground := Ground.chain }, { on := 12, ground := Ground.guard }], guard := some (12, true) }) rfl (by kernel_rfl) (by kernel_rfl) (by kernel_rfl) (fun _ _ _ h => h) (Or.inr ⟨by rfl, rfl⟩) (by assumption) ?_
      try simp only [Act.put, List.setIfInBounds_toArray, List.set_cons_zero, List.set_cons_succ]
      refine wpAnyH_take (i := 17) (oi := { dst := some 22, op := Op.binOp BinOp.lss 2 (Operand.tmp 19) (Operand.tmp 21) 2, type := 4, pos := "law.go:90", after := #[{ on := 14, ground := Ground.data }, { on := 16, ground := Ground.data }, { on := 12, ground := Ground.guard }], guard := some (12, true) }) rfl (by kernel_rfl) (by kernel_rfl) (by kernel_rfl) (fun _ _ _ h => h) (Or.inr ⟨by rfl, rfl⟩) (by assumption) ?_
      try simp only [Act.put, List.setIfInBounds_toArray, List.set_cons_zero, List.set_cons_succ]
      refine wpAnyH_take (i := 18) (oi := { dst := some 23, op := Op.pick (Operand.tmp 17) (Operand.tmp 22) (Operand.const (Value.bool false)), type := 4, pos := "law.go:90", after := #[{ on := 12, ground := Ground.data }, { on := 17, ground := Ground.data }], guard := none }) (v := ?_) rfl (by kernel_rfl) (by kernel_rfl) (by kernel_rfl) (fun _ _ _ h => h) (Or.inl ⟨by rfl, ?_⟩) (by assumption) ?_
      rotate_left
      · (intro w hSw; (try dsimp only at hSw); go_simp; try with_reducible rfl)
      try simp only [Act.put, List.setIfInBounds_toArray, List.set_cons_zero, List.set_cons_succ]
      refine wpAnyH_take (i := 19) (oi := { dst := some 24, op := Op.move (Operand.tmp 23), type := 4, pos := "law.go:90", after := #[{ on := 18, ground := Ground.data }, { on := 16, ground := Ground.chain }], guard := none }) (v := ?_) rfl (by kernel_rfl) (by kernel_rfl) (by kernel_rfl) (fun _ _ _ h => h) (Or.inl ⟨by rfl, ?_⟩) (by assumption) ?_
      rotate_left
      · (intro w hSw; (try dsimp only at hSw); go_simp; try with_reducible rfl)
      try simp only [Act.put, List.setIfInBounds_toArray, List.set_cons_zero, List.set_cons_succ]
      refine wpAnyH_take (i := 20) (oi := { dst := some 25, op := Op.fieldAddr 23 (Operand.tmp 2) 3, type := 0, pos := "law.go:90", after := #[{ on := 19, ground := Ground.guard }], guard := some (19, true) }) rfl (by kernel_rfl) (by kernel_rfl) (by kernel_rfl) (fun _ _ _ h => h) (Or.inr ⟨by rfl, rfl⟩) (by assumption) ?_
      try simp only [Act.put, List.setIfInBounds_toArray, List.set_cons_zero, List.set_cons_succ]
      refine wpAnyH_take (i := 21) (oi := { dst := some 26, op := Op.load 4 (Operand.tmp 25), type := 4, pos := "law.go:90", after := #[{ on := 20, ground := Ground.data }, { on := 19, ground := Ground.guard }], guard := some (19, true) }) rfl (by kernel_rfl) (by kernel_rfl) (by kernel_rfl) (fun _ _ _ h => h) (Or.inr ⟨by rfl, rfl⟩) (by assumption) ?_
      try simp only [Act.put, List.setIfInBounds_toArray, List.set_cons_zero, List.set_cons_succ]
      refine wpAnyH_take (i := 22) (oi := { dst := some 27, op := Op.move (Operand.tmp 26), type := 4, pos := "law.go:90", after := #[{ on := 21, ground := Ground.data }, { on := 19, ground := Ground.chain }, { on := 19, ground := Ground.guard }], guard := some (19, true) }) rfl (by kernel_rfl) (by kernel_rfl) (by kernel_rfl) (fun _ _ _ h => h) (Or.inr ⟨by rfl, rfl⟩) (by assumption) ?_
      try simp only [Act.put, List.setIfInBounds_toArray, List.set_cons_zero, List.set_cons_succ]
      refine wpAnyH_take (i := 23) (oi := { dst := some 28, op := Op.fieldAddr 23 (Operand.tmp 3) 3, type := 0, pos := "law.go:90", after := #[{ on := 22, ground := Ground.guard }], guard := some (22, false) }) rfl (by kernel_rfl) (by kernel_rfl) (by kernel_rfl) (fun _ _ _ h => h) (Or.inr ⟨by rfl, rfl⟩) (by assumption) ?_
      try simp only [Act.put, List.setIfInBounds_toArray, List.set_cons_zero, List.set_cons_succ]
      refine wpAnyH_take (i := 24) (oi := { dst := some 29, op := Op.load 4 (Operand.tmp 28), type := 4, pos := "law.go:90", after := #[{ on := 23, ground := Ground.data }, { on := 22, ground := Ground.guard }], guard := some (22, false) }) rfl (by kernel_rfl) (by kernel_rfl) (by kernel_rfl) (fun _ _ _ h => h) (Or.inr ⟨by rfl, rfl⟩) (by assumption) ?_
      try simp only [Act.put, List.setIfInBounds_toArray, List.set_cons_zero, List.set_cons_succ]
      refine wpAnyH_take (i := 25) (oi := { dst := some 30, op := Op.pick (Operand.tmp 27) (Operand.const (Value.bool true)) (Operand.tmp 29), type := 4, pos := "law.go:90", after := #[{ on := 22, ground := Ground.data }, { on := 24, ground := Ground.data }, { on := 19, ground := Ground.guard }], guard := some (19, true) }) rfl (by kernel_rfl) (by kernel_rfl) (by kernel_rfl) (fun _ _ _ h => h) (Or.inr ⟨by rfl, rfl⟩) (by assumption) ?_
      try simp only [Act.put, List.setIfInBounds_toArray, List.set_cons_zero, List.set_cons_succ]
      refine wpAnyH_take (i := 26) (oi := { dst := some 31, op := Op.pick (Operand.tmp 24) (Operand.tmp 30) (Operand.const (Value.bool false)), type := 4, pos := "law.go:90", after := #[{ on := 19, ground := Ground.data }, { on := 25, ground := Ground.data }], guard := none }) (v := ?_) rfl (by kernel_rfl) (by kernel_rfl) (by kernel_rfl) (fun _ _ _ h => h) (Or.inl ⟨by rfl, ?_⟩) (by assumption) ?_
      rotate_left
      · (intro w hSw; (try dsimp only at hSw); go_simp; try with_reducible rfl)
      try simp only [Act.put, List.setIfInBounds_toArray, List.set_cons_zero, List.set_cons_succ]
      refine wpAnyH_take (i := 27) (oi := { dst := some 4, op := Op.assign (Operand.tmp 31), type := 4, pos := "law.go:90", after := _, guard := none }) (v := ?_) rfl (by kernel_rfl) (by kernel_rfl) (by kernel_rfl) (fun _ _ _ h => h) (Or.inl ⟨by rfl, ?_⟩) (by assumption) ?_
      rotate_left
      · (intro w hSw; (try dsimp only at hSw); go_simp; try with_reducible rfl)
      try simp only [Act.put, List.setIfInBounds_toArray, List.set_cons_zero, List.set_cons_succ]
      refine wpAnyH_done (by kernel_rfl) ?_ _
      go_wp2
      go_ret
      exact ⟨rfl, below_back HW.out (by first | assumption | exact below_drew (by assumption))⟩
end
section
set_option linter.unusedVariables false
set_option linter.unusedSimpArgs false
open Go.RowKit Go.Maps Go.Sort Go.Lib Go.Shelf Go.Proofs.YtoolflmaaooplaaW.PrintWords Go.Proofs.YtoolflmaaooplaaW.PrintLast Go.Proofs.YtoolflmaaooplaaW.PrintMore FLib
attribute [local go_sem] below_alloc_T below_drew_T below_drewN_T

def hitJ (x g : Lk) : Bool := (g.own == x.own) && (decide (g.st < endJ x.st x.len) && decide (x.st < endJ g.st g.len))
set_option maxRecDepth 100000 in
set_option maxHeartbeats 1000000 in
theorem hit_any (x g : Lk) (hx : NearL x) (hg : NearL g) (b : Nat) (w : World) (hc : w.heap[b]? = some (.cells x.cells.toArray 23 (0, 0))) :
    Calls Try.prog 22 #[lkV g, .pointer (some ⟨b, 0, none⟩)] w fun e w' => e = .returned (.bool (hitJ x g)) ∧ Below w.heap.size w w' := by
  have HEA := Lib.hid (fun w => endj_any g.own g.st g.len g.ex hg w)
  have HEB := Lib.hid (fun w => endj_any x.own x.st x.len x.ex hx w)
  clear hx hg
  obtain ⟨a0, a1, a2, a3⟩ := g
  obtain ⟨b0, b1, b2, b3⟩ := x
  simp only [hitJ, lkV, Lk.cells] at HEA HEB hc ⊢
  generalize endJ a1 a2 = ea at HEA ⊢
  generalize endJ b1 b2 = eb at HEB ⊢
  obtain ⟨OA, hOA⟩ : ∃ O, Obj.cells #[.int .i64 a0, .int .i64 a1, .int .i64 a2, .bool a3] 23 (0, 0) = O := ⟨_, rfl⟩
  have HO := Lib.hid hOA
  have HC := Lib.hid hc
  clear hOA hc
  obtain ⟨R, hR⟩ : ∃ R, ((a0 == b0) && (decide (a1 < eb) && decide (b1 < ea))) = R := ⟨_, rfl⟩
  rw [hR]
  have HR := Lib.hid hR
  clear hR
  go_enter Try.func22, Try.ntmps22
  go_wp2
  rw [HO.out]
  refine abs_w (fun W => Below w.heap.size w W ∧ W.heap[w.heap.size]? = some OA ∧ W.heap[b]? = some (.cells #[.int .i64 b0, .int .i64 b1, .int .i64 b2, .bool b3] 23 (0, 0))) ⟨below_alloc (Below.refl _ _) _, blk_new _ _, blk_alloc HC.out _⟩ ?_
  rintro W ⟨hbW, hA, hB⟩
  rw [← HO.out] at hA
  have x0 := later_cell (v := .int .i64 a0) (blk_cell hA 0)
  have x1 := later_cell (v := .int .i64 a1) (blk_cell hA 1)
  have x2 := later_cell (v := .int .i64 a2) (blk_cell hA 2)
  have x3 := later_cell (v := .bool a3) (blk_cell hA 3)
  have y0 := later_cell (v := .int .i64 b0) (blk_cell hB 0)
  have y1 := later_cell (v := .int .i64 b1) (blk_cell hB 1)
  have y2 := later_cell (v := .int .i64 b2) (blk_cell hB 2)
  have y3 := later_cell (v := .bool b3) (blk_cell hB 3)
  have hs0 : Below W.heap.size W W := Below.refl _ _
  have HW := Lib.hid hbW
  clear hA hB hbW
  by_cases h1 : a0 = b0
  · have d1 : (a0 == b0) = true := by simpa using h1
    have hR1 : (decide (a1 < eb) && decide (b1 < ea)) = R := by rw [← HR.out]; simp [d1]
    clear HR h1
    by_cases h2 : a1 < eb
    · have d2 : decide (a1 < eb) = true := decide_eq_true h2
      rw [d2, Bool.true_and] at hR1
      subst hR1
      clear h2
      refine wp_region_held_drew (S := (fun w' => Below W.heap.size W w')) (by kernel_rfl) (by first | assumption | exact below_drew (by assumption)) (fun hHeld => ?_)
      refine wpAnyH_take (i := 0) (oi := { dst := some 4, op := Op.fieldAddr 23 (Operand.tmp 2) 0, type := 0, pos := "law.go:168", after := #[], guard := none }) (v := ?_) rfl (by kernel_rfl) (by kernel_rfl) (by kernel_rfl) (fun _ _ _ h => h) (Or.inl ⟨by rfl, ?_⟩) (by assumption) ?_
      rotate_left
      · (intro w hSw; (try dsimp only at hSw); go_simp; try with_reducible rfl)
      try simp only [Act.put, List.setIfInBounds_toArray, List.set_cons_zero, List.set_cons_succ]
      refine wpAnyH_take (i := 1) (oi := { dst := some 5, op := Op.load 3 (Operand.tmp 4), type := 3, pos := "law.go:168", after := #[{ on := 0, ground := Ground.data }], guard := none }) (v := ?_) rfl (by kernel_rfl) (by kernel_rfl) (by kernel_rfl) (fun _ _ _ h => h) (Or.inl ⟨by rfl, ?_⟩) (by assumption) ?_
      rotate_left
      · (intro w hSw; (try dsimp only at hSw); go_simp; try with_reducible rfl)
      try simp only [Act.put, List.setIfInBounds_toArray, List.set_cons_zero, List.set_cons_succ]
      refine wpAnyH_take (i := 2) (oi := { dst := some 6, op := Op.fieldAddr 23 (Operand.tmp 1) 0, type := 0, pos := "law.go:168", after := #[], guard := none }) (v := ?_) rfl (by kernel_rfl) (by kernel_rfl) (by kernel_rfl) (fun _ _ _ h => h) (Or.inl ⟨by rfl, ?_⟩) (by assumption) ?_
      rotate_left
      · (intro w hSw; (try dsimp only at hSw); go_simp; try with_reducible rfl)
      try simp only [Act.put, List.setIfInBounds_toArray, List.set_cons_zero, List.set_cons_succ]
      refine wpAnyH_take (i := 3) (oi := { dst := some 7, op := Op.load 3 (Operand.tmp 6), type := 3, pos := "law.go:168", after := #[{ on := 2, ground := Ground.data }], guard := none }) (v := ?_) rfl (by kernel_rfl) (by kernel_rfl) (by kernel_rfl) (fun _ _ _ h => h) (Or.inl ⟨by rfl, ?_⟩) (by assumption) ?_
      rotate_left
      · (intro w hSw; (try dsimp only at hSw); go_simp; try with_reducible rfl)
      try simp only [Act.put, List.setIfInBounds_toArray, List.set_cons_zero, List.set_cons_succ]
      refine wpAnyH_take (i := 4) (oi := { dst := some 8, op := Op.binOp BinOp.eql 3 (Operand.tmp 5) (Operand.tmp 7) 3, type := 4, pos := "law.go:168", after := #[{ on := 1, ground := Ground.data }, { on := 3, ground := Ground.data }], guard := none }) (v := ?_) rfl (by kernel_rfl) (by kernel_rfl) (by kernel_rfl) (fun _ _ _ h => h) (Or.inl ⟨by rfl, ?_⟩) (by assumption) ?_
      rotate_left
      · (intro w hSw; (try dsimp only at hSw); go_simp; try with_reducible rfl)
      try simp only [Act.put, List.setIfInBounds_toArray, List.set_cons_zero, List.set_cons_succ]
      refine wpAnyH_take (i := 5) (oi := { dst := some 9, op := Op.move (Operand.tmp 8), type := 4, pos := "law.go:168", after := #[{ on := 4, ground := Ground.data }], guard := none }) (v := ?_) rfl (by kernel_rfl) (by kernel_rfl) (by kernel_rfl) (fun _ _ _ h => h) (Or.inl ⟨by rfl, ?_⟩) (by assumption) ?_
      rotate_left
      · (intro w hSw; (try dsimp only at hSw); go_simp; try with_reducible rfl)
      try simp only [Act.put, List.setIfInBounds_toArray, List.set_cons_zero, List.set_cons_succ]
      refine wpAnyH_take (i := 6) (oi := { dst := some 10, op := Op.fieldAddr 23 (Operand.tmp 2) 1, type := 0, pos := "law.go:168", after := #[{ on := 5, ground := Ground.guard }], guard := some (5, true) }) (v := ?_) rfl (by kernel_rfl) (by kernel_rfl) (by kernel_rfl) (fun _ _ _ h => h) (Or.inl ⟨by rfl, ?_⟩) (by assumption) ?_
      rotate_left
      · (intro w hSw; (try dsimp only at hSw); go_simp; try with_reducible rfl)
      try simp only [Act.put, List.setIfInBounds_toArray, List.set_cons_zero, List.set_cons_succ]
      refine wpAnyH_take (i := 7) (oi := { dst := some 11, op := Op.load 2 (Operand.tmp 10), type := 2, pos := "law.go:168", after := #[{ on := 6, ground := Ground.data }, { on := 5, ground := Ground.guard }], guard := some (5, true) }) (v := ?_) rfl (by kernel_rfl) (by kernel_rfl) (by kernel_rfl) (fun _ _ _ h => h) (Or.inl ⟨by rfl, ?_⟩) (by assumption) ?_
      rotate_left
      · (intro w hSw; (try dsimp only at hSw); go_simp; try with_reducible rfl)
      try simp only [Act.put, List.setIfInBounds_toArray, List.set_cons_zero, List.set_cons_succ]
      refine wpAnyH_take (i := 8) (oi := { dst := some 12, op := Op.load 23 (Operand.tmp 1), type := 23, pos := "law.go:168", after := #[{ on := 5, ground := Ground.guard }], guard := some (5, true) }) (v := ?_) rfl (by kernel_rfl) (by kernel_rfl) (by kernel_rfl) (fun _ _ _ h => h) (Or.inl ⟨by rfl, ?_⟩) (by assumption) ?_
      rotate_left
      · (intro w hSw; (try dsimp only at hSw); go_simp; try with_reducible rfl)
      try simp only [Act.put, List.setIfInBounds_toArray, List.set_cons_zero, List.set_cons_succ]
      refine wpAnyH_ready (rs := [9]) (by kernel_rfl) (by simp) (AllReadyH.cons (o := { dst := some 13, op := Op.call { callee := Callee.value (Operand.func 23), args := #[Operand.tmp 12], argTypes := #[23] }, type := 2, pos := "law.go:168", after := #[{ on := 8, ground := Ground.data }, { on := 5, ground := Ground.chain }, { on := 5, ground := Ground.guard }], guard := some (5, true) }) rfl (fun K hK => ?_) AllReadyH.nil)
      go_simp
      refine (HEB.out _).mono ?_
      rintro e w2 ⟨rfl, hb2⟩
      dsimp only
      have hB2 := below_step hHeld hb2
      clear hb2
      refine hK.out _ _ (by first | assumption | exact below_drew (by assumption)) (fun hHeld => ?_)
      clear hK K
      try simp only [Act.put, List.setIfInBounds_toArray, List.set_cons_zero, List.set_cons_succ]
      refine wpAnyH_take (i := 10) (oi := { dst := some 14, op := Op.binOp BinOp.lss 2 (Operand.tmp 11) (Operand.tmp 13) 2, type := 4, pos := "law.go:168", after := #[{ on := 7, ground := Ground.data }, { on := 9, ground := Ground.data }, { on := 5, ground := Ground.guard }], guard := some (5, true) }) (v := ?_) rfl (by kernel_rfl) (by kernel_rfl) (by kernel_rfl) (fun _ _ _ h => h) (Or.inl ⟨by rfl, ?_⟩) (by assumption) ?_
      rotate_left
      · (intro w hSw; (try dsimp only at hSw); go_simp; try with_reducible rfl)
      try simp only [Act.put, List.setIfInBounds_toArray, List.set_cons_zero, List.set_cons_succ]
      refine wpAnyH_take (i := 11) (oi := { dst := some 15, op := Op.pick (Operand.tmp 9) (Operand.tmp 14) (Operand.const (Value.bool false)), type := 4, pos := "law.go:168", after := #[{ on := 5, ground := Ground.data }, { on := 10, ground := Ground.data }], guard := none }) (v := ?_) rfl (by kernel_rfl) (by kernel_rfl) (by kernel_rfl) (fun _ _ _ h => h) (Or.inl ⟨by rfl, ?_⟩) (by assumption) ?_
      rotate_left
      · (intro w hSw; (try dsimp only at hSw); go_simp; try with_reducible rfl)
      try simp only [Act.put, List.setIfInBounds_toArray, List.set_cons_zero, List.set_cons_succ]
      refine wpAnyH_take (i := 12) (oi := { dst := some 16, op := Op.move (Operand.tmp 15), type := 4, pos := "law.go:168", after := #[{ on := 11, ground := Ground.data }, { on := 9, ground := Ground.chain }], guard := none }) (v := ?_) rfl (by kernel_rfl) (by kernel_rfl) (by kernel_rfl) (fun _ _ _ h => h) (Or.inl ⟨by rfl, ?_⟩) (by assumption) ?_
      rotate_left
      · (intro w hSw; (try dsimp only at hSw); go_simp; try with_reducible rfl)
      try simp only [Act.put, List.setIfInBounds_toArray, List.set_cons_zero, List.set_cons_succ]
      refine wpAnyH_take (i := 13) (oi := { dst := some 17, op := Op.fieldAddr 23 (Operand.tmp 1) 1, type := 0, pos := "law.go:168", after := #[{ on := 12, ground := Ground.guard }], guard := some (12, true) }) (v := ?_) rfl (by kernel_rfl) (by kernel_rfl) (by kernel_rfl) (fun _ _ _ h => h) (Or.inl ⟨by rfl, ?_⟩) (by assumption) ?_
      rotate_left
      · (intro w hSw; (try dsimp only at hSw); go_simp; try with_reducible rfl)
      try simp only [Act.put, List.setIfInBounds_toArray, List.set_cons_zero, List.set_cons_succ]
      refine wpAnyH_take (i := 14) (oi := { dst := some 18, op := Op.load 2 (Operand.tmp 17), type := 2, pos := "law.go:168", after := #[{ on := 13, ground := Ground.data }, { on := 12, ground := Ground.guard }], guard := some (12, true) }) (v := ?_) rfl (by kernel_rfl) (by kernel_rfl) (by kernel_rfl) (fun _ _ _ h => h) (Or.inl ⟨by rfl, ?_⟩) (by assumption) ?_
      rotate_left
      · (intro w hSw; (try dsimp only at hSw); go_simp; try with_reducible rfl)
      try simp only [Act.put, List.setIfInBounds_toArray, List.set_cons_zero, List.set_cons_succ]
      refine wpAnyH_take (i := 15) (oi := { dst := some 19, op := Op.load 23 (Operand.tmp 2), type := 23, pos := "law.go:168", after := #[{ on := 12, ground := Ground.guard }], guard := some (12, true) }) (v := ?_) rfl (by kernel_rfl) (by kernel_rfl) (by kernel_rfl) (fun _ _ _ h => h) (Or.inl ⟨by rfl, ?_⟩) (by assumption) ?_
      rotate_left
      · (intro w hSw; (try dsimp only at hSw); go_simp; try with_reducible rfl)
      try simp only [Act.put, List.setIfInBounds_toArray, List.set_cons_zero, List.set_cons_succ]
      refine wpAnyH_ready (rs := [16]) (by kernel_rfl) (by simp) (AllReadyH.cons (o := { dst := some 20, op := Op.call { callee := Callee.value (Operand.func 23), args := #[Operand.tmp 19], argTypes := #[23] }, type := 2, pos := "law.go:168", after := #[{ on := 15, ground := Ground.data }, { on := 12, ground := Ground.chain }, { on := 12, ground := Ground.guard }], guard := some (12, true) }) rfl (fun K hK => ?_) AllReadyH.nil)
      go_simp
      refine (HEA.out _).mono ?_
      rintro e w3 ⟨rfl, hb3⟩
      dsimp only
      have hB3 := below_step hHeld hb3
      clear hb3
      refine hK.out _ _ (by first | assumption | exact below_drew (by assumption)) (fun hHeld => ?_)
      clear hK K
      try simp only [Act.put, List.setIfInBounds_toArray, List.set_cons_zero, List.set_cons_succ]
      refine wpAnyH_take (i := 17) (oi := { dst := some 21, op := Op.binOp BinOp.lss 2 (Operand.tmp 18) (Operand.tmp 20) 2, type := 4, pos := "law.go:168", after := #[{ on := 14, ground := Ground.data }, { on := 16, ground := Ground.data }, { on := 12, ground := Ground.guard }], guard := some (12, true) }) (v := ?_) rfl (by kernel_rfl) (by kernel_rfl) (by kernel_rfl) (fun _ _ _ h => h) (Or.inl ⟨by rfl, ?_⟩) (by assumption) ?_
      rotate_left
      · (intro w hSw; (try dsimp only at hSw); go_simp; try with_reducible rfl)
      try simp only [Act.put, List.setIfInBounds_toArray, List.set_cons_zero, List.set_cons_succ]
      refine wpAnyH_take (i := 18) (oi := { dst := some 22, op := Op.pick (Operand.tmp 16) (Operand.tmp 21) (Operand.const (Value.bool false)), type := 4, pos := "law.go:168", after := #[{ on := 12, ground := Ground.data }, { on := 17, ground := Ground.data }], guard := none }) (v := ?_) rfl (by kernel_rfl) (by kernel_rfl) (by kernel_rfl) (fun _ _ _ h => h) (Or.inl ⟨by rfl, ?_⟩) (by assumption) ?_
      rotate_left
      · (intro w hSw; (try dsimp only at hSw); go_simp; try with_reducible rfl)
      try simp only [Act.put, List.setIfInBounds_toArray, List.set_cons_zero, List.set_cons_succ]
      refine wpAnyH_take (i := 19) (oi := { dst := some 3, op := Op.assign (Operand.tmp 22), type := 4, pos := "law.go:168", after := #[{ on := 18, ground := Ground.data }, { on := 16, ground := Ground.chain }, { on := 0, ground := Ground.phase }, { on := 1, ground := Ground.phase }, { on := 2, ground := Ground.phase }, { on := 3, ground := Ground.phase }, { on := 4, ground := Ground.phase }, { on := 5, ground := Ground.phase }, { on := 6, ground := Ground.phase }, { on := 7, ground := Ground.phase }, { on := 8, ground := Ground.phase }, { on := 9, ground := Ground.phase }, { on := 10, ground := Ground.phase }, { on := 11, ground := Ground.phase }, { on := 12, ground := Ground.phase }, { on := 13, ground := Ground.phase }, { on := 14, ground := Ground.phase }, { on := 15, ground := Ground.phase }, { on := 16, ground := Ground.phase }, { on := 17, ground := Ground.phase }, { on := 18, ground := Ground.phase }], guard := none }) (v := ?_) rfl (by kernel_rfl) (by kernel_rfl) (by kernel_rfl) (fun _ _ _ h => h) (Or.inl ⟨by rfl, ?_⟩) (by assumption) ?_
      rotate_left
      · (intro w hSw; (try dsimp only at hSw); go_simp; try with_reducible rfl)
      try simp only [Act.put, List.setIfInBounds_toArray, List.set_cons_zero, List.set_cons_succ]
      refine wpAnyH_done (by kernel_rfl) ?_ _
      go_wp2
      go_ret
      exact ⟨rfl, below_back HW.out (by first | assumption | exact below_drew (by assumption))⟩
    · have d2 : decide (a1 < eb) = false := decide_eq_false h2
      rw [d2, Bool.false_and] at hR1
      subst hR1
      clear h2
      refine wp_region_held_drew (S := (fun w' => Below W.heap.size W w')) (by kernel_rfl) (by first | assumption | exact below_drew (by assumption)) (fun hHeld => ?_)
      refine wpAnyH_take (i := 0) (oi := { dst := some 4, op := Op.fieldAddr 23 (Operand.tmp 2) 0, type := 0, pos := "law.go:168", after := #[], guard := none }) (v := ?_) rfl (by kernel_rfl) (by kernel_rfl) (by kernel_rfl) (fun _ _ _ h => h) (Or.inl ⟨by rfl, ?_⟩) (by assumption) ?_
      rotate_left
      · (intro w hSw; (try dsimp only at hSw); go_simp; try with_reducible rfl)
      try simp only [Act.put, List.setIfInBounds_toArray, List.set_cons_zero, List.set_cons_succ]
      refine wpAnyH_take (i := 1) (oi := { dst := some 5, op := Op.load 3 (Operand.tmp 4), type := 3, pos := "law.go:168", after := #[{ on := 0, ground := Ground.data }], guard := none }) (v := ?_) rfl (by kernel_rfl) (by kernel_rfl) (by kernel_rfl) (fun _ _ _ h => h) (Or.inl ⟨by rfl, ?_⟩) (by assumption) ?_
      rotate_left
      · (intro w hSw; (try dsimp only at hSw); go_simp; try with_reducible rfl)
      try simp only [Act.put, List.setIfInBounds_toArray, List.set_cons_zero, List.set_cons_succ]
      refine wpAnyH_take (i := 2) (oi := { dst := some 6, op := Op.fieldAddr 23 (Operand.tmp 1) 0, type := 0, pos := "law.go:168", after := #[], guard := none }) (v := ?_) rfl (by kernel_rfl) (by kernel_rfl) (by kernel_rfl) (fun _ _ _ h => h) (Or.inl ⟨by rfl, ?_⟩) (by assumption) ?_
      rotate_left
      · (intro w hSw; (try dsimp only at hSw); go_simp; try with_reducible rfl)
      try simp only [Act.put, List.setIfInBounds_toArray, List.set_cons_zero, List.set_cons_succ]
      refine wpAnyH_take (i := 3) (oi := { dst := some 7, op := Op.load 3 (Operand.tmp 6), type := 3, pos := "law.go:168", after := #[{ on := 2, ground := Ground.data }], guard := none }) (v := ?_) rfl (by kernel_rfl) (by kernel_rfl) (by kernel_rfl) (fun _ _ _ h => h) (Or.inl ⟨by rfl, ?_⟩) (by assumption) ?_
      rotate_left
      · (intro w hSw; (try dsimp only at hSw); go_simp; try with_reducible rfl)
      try simp only [Act.put, List.setIfInBounds_toArray, List.set_cons_zero, List.set_cons_succ]
      refine wpAnyH_take (i := 4) (oi := { dst := some 8, op := Op.binOp BinOp.eql 3 (Operand.tmp 5) (Operand.tmp 7) 3, type := 4, pos := "law.go:168", after := #[{ on := 1, ground := Ground.data }, { on := 3, ground := Ground.data }], guard := none }) (v := ?_) rfl (by kernel_rfl) (by kernel_rfl) (by kernel_rfl) (fun _ _ _ h => h) (Or.inl ⟨by rfl, ?_⟩) (by assumption) ?_
      rotate_left
      · (intro w hSw; (try dsimp only at hSw); go_simp; try with_reducible rfl)
      try simp only [Act.put, List.setIfInBounds_toArray, List.set_cons_zero, List.set_cons_succ]
      refine wpAnyH_take (i := 5) (oi := { dst := some 9, op := Op.move (Operand.tmp 8), type := 4, pos := "law.go:168", after := #[{ on := 4, ground := Ground.data }], guard := none }) (v := ?_) rfl (by kernel_rfl) (by kernel_rfl) (by kernel_rfl) (fun _ _ _ h => h) (Or.inl ⟨by rfl, ?_⟩) (by assumption) ?_
      rotate_left
      · (intro w hSw; (try dsimp only at hSw); go_simp; try with_reducible rfl)
      try simp only [Act.put, List.setIfInBounds_toArray, List.set_cons_zero, List.set_cons_succ]
      refine wpAnyH_take (i := 6) (oi := { dst := some 10, op := Op.fieldAddr 23 (Operand.tmp 2) 1, type := 0, pos := "law.go:168", after := #[{ on := 5, ground := Ground.guard }], guard := some (5, true) }) (v := ?_) rfl (by kernel_rfl) (by kernel_rfl) (by kernel_rfl) (fun _ _ _ h => h) (Or.inl ⟨by rfl, ?_⟩) (by assumption) ?_
      rotate_left
      · (intro w hSw; (try dsimp only at hSw); go_simp; try with_reducible rfl)
      try simp only [Act.put, List.setIfInBounds_toArray, List.set_cons_zero, List.set_cons_succ]
      refine wpAnyH_take (i := 7) (oi := { dst := some 11, op := Op.load 2 (Operand.tmp 10), type := 2, pos := "law.go:168", after := #[{ on := 6, ground := Ground.data }, { on := 5, ground := Ground.guard }], guard := some (5, true) }) (v := ?_) rfl (by kernel_rfl) (by kernel_rfl) (by kernel_rfl) (fun _ _ _ h => h) (Or.inl ⟨by rfl, ?_⟩) (by assumption) ?_
      rotate_left
      · (intro w hSw; (try dsimp only at hSw); go_simp; try with_reducible rfl)
      try simp only [Act.put, List.setIfInBounds_toArray, List.set_cons_zero, List.set_cons_succ]
      refine wpAnyH_take (i := 8) (oi := { dst := some 12, op := Op.load 23 (Operand.tmp 1), type := 23, pos := "law.go:168", after := #[{ on := 5, ground := Ground.guard }], guard := some (5, true) }) (v := ?_) rfl (by kernel_rfl) (by kernel_rfl) (by kernel_rfl) (fun _ _ _ h => h) (Or.inl ⟨by rfl, ?_⟩) (by assumption) ?_
      rotate_left
      · (intro w hSw; (try dsimp only at hSw); go_simp; try with_reducible rfl)
      try simp only [Act.put, List.setIfInBounds_toArray, List.set_cons_zero, List.set_cons_succ]
      refine wpAnyH_ready (rs := [9]) (by kernel_rfl) (by simp) (AllReadyH.cons (o := { dst := some 13, op := Op.call { callee := Callee.value (Operand.func 23), args := #[Operand.tmp 12], argTypes := #[23] }, type := 2, pos := "law.go:168", after := #[{ on := 8, ground := Ground.data }, { on := 5, ground := Ground.chain }, { on := 5, ground := Ground.guard }], guard := some (5, true) }) rfl (fun K hK => ?_) AllReadyH.nil)
      go_simp
      refine (HEB.out _).mono ?_
      rintro e w2 ⟨rfl, hb2⟩
      dsimp only
      have hB2 := below_step hHeld hb2
      clear hb2
      refine hK.out _ _ (by first | assumption | exact below_drew (by assumption)) (fun hHeld => ?_)
      clear hK K
      try simp only [Act.put, List.setIfInBounds_toArray, List.set_cons_zero, List.set_cons_succ]
      refine wpAnyH_take (i := 10) (oi := { dst := some 14, op := Op.binOp BinOp.lss 2 (Operand.tmp 11) (Operand.tmp 13) 2, type := 4, pos := "law.go:168", after := #[{ on := 7, ground := Ground.data }, { on := 9, ground := Ground.data }, { on := 5, ground := Ground.guard }], guard := some (5, true) }) (v := ?_) rfl (by kernel_rfl) (by kernel_rfl) (by kernel_rfl) (fun _ _ _ h => h) (Or.inl ⟨by rfl, ?_⟩) (by assumption) ?_
      rotate_left
      · (intro w hSw; (try dsimp only at hSw); go_simp; try with_reducible rfl)
      try simp only [Act.put, List.setIfInBounds_toArray, List.set_cons_zero, List.set_cons_succ]
      refine wpAnyH_take (i := 11) (oi := { dst := some 15, op := Op.pick (Operand.tmp 9) (Operand.tmp 14) (Operand.const (Value.bool false)), type := 4, pos := "law.go:168", after := #[{ on := 5, ground := Ground.data }, { on := 10, ground := Ground.data }], guard := none }) (v := ?_) rfl (by kernel_rfl) (by kernel_rfl) (by kernel_rfl) (fun _ _ _ h => h) (Or.inl ⟨by rfl, ?_⟩) (by assumption) ?_
      rotate_left
      · (intro w hSw; (try dsimp only at hSw); go_simp; try with_reducible rfl)
      try simp only [Act.put, List.setIfInBounds_toArray, List.set_cons_zero, List.set_cons_succ]
      refine wpAnyH_take (i := 12) (oi := { dst := some 16, op := Op.move (Operand.tmp 15), type := 4, pos := "law.go:168", after := #[{ on := 11, ground := Ground.data }, { on := 9, ground := Ground.chain }], guard := none }) (v := ?_) rfl (by kernel_rfl) (by kernel_rfl) (by kernel_rfl) (fun _ _ _ h => h) (Or.inl ⟨by rfl, ?_⟩) (by assumption) ?_
      rotate_left
      · (intro w hSw; (try dsimp only at hSw); go_simp; try with_reducible rfl)
      try simp only [Act.put, List.setIfInBounds_toArray, List.set_cons_zero, List.set_cons_succ]
      refine wpAnyH_take (i := 13) (oi := { dst := some 17, op := Op.fieldAddr 23 (Operand.tmp 1) 1, type := 0, pos := "law.go:168", after := #[{ on := 12, ground := Ground.guard }], guard := some (12, true) }) rfl (by kernel_rfl) (by kernel_rfl) (by kernel_rfl) (fun _ _ _ h => h) (Or.inr ⟨by rfl, rfl⟩) (by assumption) ?_
      try simp only [Act.put, List.setIfInBounds_toArray, List.set_cons_zero, List.set_cons_succ]
      refine wpAnyH_take (i := 14) (oi := { dst := some 18, op := Op.load 2 (Operand.tmp 17), type := 2, pos := "law.go:168", after := #[{ on := 13, ground := Ground.data }, { on := 12, ground := Ground.guard }], guard := some (12, true) }) rfl (by kernel_rfl) (by kernel_rfl) (by kernel_rfl) (fun _ _ _ h => h) (Or.inr ⟨by rfl, rfl⟩) (by assumption) ?_
      try simp only [Act.put, List.setIfInBounds_toArray, List.set_cons_zero, List.set_cons_succ]
      refine wpAnyH_take (i := 15) (oi := { dst := some 19, op := Op.load 23 (Operand.tmp 2), type := 23, pos := "law.go:168", after := #[{ on := 12, ground := Ground.guard }], guard := some (12, true) }) rfl (by kernel_rfl) (by kernel_rfl) (by kernel_rfl) (fun _ _ _ h => h) (Or.inr ⟨by rfl, rfl⟩) (by assumption) ?_
      try simp only [Act.put, List.setIfInBounds_toArray, List.set_cons_zero, List.set_cons_succ]
      refine wpAnyH_take (i := 16) (oi := { dst := some 20, op := Op.call { callee := Callee.value (Operand.func 23), args := #[Operand.tmp 19], argTypes := #[23] }, type := 2, pos := "law.go:168", after := #[{ on := 15, ground := Ground.data }, { on := 12, ground := Ground.chain }, { on := 12, ground := Ground.guard }], guard := some (12, true) }) rfl (by kernel_rfl) (by kernel_rfl) (by kernel_rfl) (fun _ _ _ h => h) (Or.inr ⟨by rfl, rfl⟩) (by assumption) ?_
      try simp only [Act.put, List.setIfInBounds_toArray, List.set_cons_zero, List.set_cons_succ]
      refine wpAnyH_take (i := 17) (oi := { dst := some 21, op := Op.binOp BinOp.lss 2 (Operand.tmp 18) (Operand.tmp 20) 2, type := 4, pos := "law.go:168", after := #[{ on := 14, ground := Ground.data }, { on := 16, ground := Ground.data }, { on := 12, ground := Ground.guard }], guard := some (12, true) }) rfl (by kernel_rfl) (by kernel_rfl) (by kernel_rfl) (fun _ _ _ h => h) (Or.inr ⟨by rfl, rfl⟩) (by assumption) ?_
      try simp only [Act.put, List.setIfInBounds_toArray, List.set_cons_zero, List.set_cons_succ]
      refine wpAnyH_take (i := 18) (oi := { dst := some 22, op := Op.pick (Operand.tmp 16) (Operand.tmp 21) (Operand.const (Value.bool false)), type := 4, pos := "law.go:168", after := #[{ on := 12, ground := Ground.data }, { on := 17, ground := Ground.data }], guard := none }) (v := ?_) rfl (by kernel_rfl) (by kernel_rfl) (by kernel_rfl) (fun _ _ _ h => h) (Or.inl ⟨by rfl, ?_⟩) (by assumption) ?_
      rotate_left
      · (intro w hSw; (try dsimp only at hSw); go_simp; try with_reducible rfl)
      try simp only [Act.put, List.setIfInBounds_toArray, List.set_cons_zero, List.set_cons_succ]
      refine wpAnyH_take (i := 19) (oi := { dst := some 3, op := Op.assign (Operand.tmp 22), type := 4, pos := "law.go:168", after := #[{ on := 18, ground := Ground.data }, { on := 16, ground := Ground.chain }, { on := 0, ground := Ground.phase }, { on := 1, ground := Ground.phase }, { on := 2, ground := Ground.phase }, { on := 3, ground := Ground.phase }, { on := 4, ground := Ground.phase }, { on := 5, ground := Ground.phase }, { on := 6, ground := Ground.phase }, { on := 7, ground := Ground.phase }, { on := 8, ground := Ground.phase }, { on := 9, ground := Ground.phase }, { on := 10, ground := Ground.phase }, { on := 11, ground := Ground.phase }, { on := 12, ground := Ground.phase }, { on := 13, ground := Ground.phase }, { on := 14, ground := Ground.phase }, { on := 15, ground := Ground.phase }, { on := 16, ground := Ground.phase }, { on := 17, ground := Ground.phase }, { on := 18, ground := Ground.phase }], guard := none }) (v := ?_) rfl (by kernel_rfl) (by kernel_rfl) (by kernel_rfl) (fun _ _ _ h => h) (Or.inl ⟨by rfl, ?_⟩) (by assumption) ?_
      rotate_left
      · (intro w hSw; (try dsimp only at hSw); go_simp; try with_reducible rfl)
      try simp only [Act.put, List.setIfInBounds_toArray, List.set_cons_zero, List.set_cons_succ]
      refine wpAnyH_done (by kernel_rfl) ?_ _
      go_wp2
      go_ret
      exact ⟨rfl, below_back HW.out (by first | assumption | exact below_drew (by assumption))⟩
  · have d1 : (a0 == b0) = false := by simpa using h1
    have hR : false = R := by rw [← HR.out]; simp [d1]
    subst hR
    clear h1 HR
    go_quiet (fail)
    go_wp2
    go_ret
    exact ⟨rfl, HW.out.trans (pw_below_drewN (Below.refl _ _) _)⟩
theorem own_any (x g : Lk) (b : Nat) (w : World) (hc : w.cell? ⟨b, 0, none⟩ = some (.int .i64 x.own)) :
    Calls Try.prog 21 #[lkV g, .pointer (some ⟨b, 0, none⟩)] w fun e w' => e = .returned (.bool (g.own == x.own)) ∧ Below w.heap.size w w' := by
  obtain ⟨a0, a1, a2, a3⟩ := g
  obtain ⟨b0, b1, b2, b3⟩ := x
  simp only [lkV] at hc ⊢
  have c0 : ∀ o : Obj, (w.alloc o).cell? ⟨b, 0, none⟩ = some (.int .i64 b0) := fun o => pw_cell_below (below_alloc (Below.refl w.heap.size w) o) hc
  go_enter Try.func21, Try.ntmps21
  go_wp2
  go_ret
  exact ⟨rfl, below_alloc (Below.refl _ _) _⟩
/-- The place of the first lock that meets the closure. -/
def idxP (f : Lk → Bool) (Q : List Lk) : Int := if Q.any f then (Q.findIdx f : Int) else -1
set_option maxRecDepth 100000 in
set_option maxHeartbeats 1000000 in
theorem indexp_any (f : Lk → Bool) (fn : Nat) (lb : Array Value) (hen : ∀ args w, (callFunc fn args).run Try.prog w = .ok (.enter fn args) w) (base : Nat) (v : Value) (Q : List Lk) (hq : Q.length ≤ 100000) (w : World) (h : w.ownsRow base 23 4 v Q.length (lflat Q))
    (hf : ∀ x ∈ Q, ∀ W, Below w.heap.size w W → Calls Try.prog fn (#[lkV x] ++ lb) W fun e w' => e = .returned (.bool (f x)) ∧ Below W.heap.size W w') :
    Calls Try.prog 46 #[v, .func (.func fn) #[] lb] w fun e w' => (∃ i, e = .returned (.int .i64 i) ∧ decide (0 ≤ i) = Q.any f) ∧ Below w.heap.size w w' := by
  have HR := Lib.hid h
  have HL := Lib.hid hq
  have HF := Lib.hid hf
  rcases row_form h with ⟨rfl, hz⟩ | ⟨g, c, rfl⟩
  · have hE := Lib.hid (show Q = [] by cases Q with | nil => rfl | cons a l => cases hz)
    clear h hq hz hf
    go_enter Try.func46, Try.ntmps46
    go_wp2
    refine wp_loop_rounds 1 ?_
    rw [rounds_succ]
    go_wp2
    go_ret
    exact ⟨⟨-1, rfl, by rw [hE.out]; rfl⟩, Below.refl _ _⟩
  · clear h hq hf
    go_enter Try.func46, Try.ntmps46
    go_wp2
    go_loopw [8] (fun t wr => ∃ k : Nat, k ≤ Q.length ∧ t = .int .i64 k ∧ Hid (∀ y ∈ Q.take k, f y = false) ∧ Hid (Below w.heap.size w wr)) (fun t _ => Q.length - (RowKit.intOf t).toNat)
    case atStart => exact ⟨0, Nat.zero_le _, rfl, Lib.hid (by simp), Lib.hid (Below.refl _ _)⟩
    case round =>
      obtain ⟨k, hk, rfl, hI, hBw⟩ := hrel
      have hlr : (Q.length : Int) ≤ 100000 := by have := HL.out; omega
      by_cases hlt : k < Q.length
      · obtain ⟨x, hx⟩ : ∃ x, Q[k]? = some x := ⟨_, List.getElem?_eq_getElem hlt⟩
        obtain ⟨p0, p1, p2, p3⟩ := row_lk (pw_own_below HR.out hBw.out) hx
        have HC := Lib.hid (HF.out x (List.mem_of_getElem? hx) wr hBw.out)
        have hk0 : (0 : Int) ≤ (k : Int) := by omega
        have hk1 : (k : Int) < (Q.length : Int) := by omega
        have HKL := Lib.hid hlt
        have HX := Lib.hid hx
        simp only [lkV] at HC
        clear hx hlt
        cases hfx : f x
        · rw [hfx] at HC
          have HFX := Lib.hid hfx
          clear hfx
          go_wp2_with (go_at_fn fn; refine HC.out.mono ?_; rintro e w3 ⟨rfl, hb3⟩; have HB3 := Lib.hid (below_step hBw.out hb3); clear hb3)
          go_roundw
          case rel => exact ⟨k + 1, by have := HKL.out; omega, by go_num, Lib.hid (fun y hy => by
            rw [List.take_add_one, HX.out] at hy
            rcases List.mem_append.1 hy with hy | hy
            · exact hI.out y hy
            · have : y = x := by simpa using hy
              rw [this]; exact HFX.out), HB3⟩
          case measure => have := HKL.out; simp [RowKit.intOf]; omega
        · rw [hfx] at HC
          have HFX := Lib.hid hfx
          clear hfx
          go_wp2_with (go_at_fn fn; refine HC.out.mono ?_; rintro e w3 ⟨rfl, hb3⟩; have HB3 := Lib.hid (below_step hBw.out hb3); clear hb3)
          go_ret
          refine ⟨⟨(k : Int), rfl, ?_⟩, HB3.out⟩
          rw [show Q.any f = true from List.any_eq_true.2 ⟨x, List.mem_of_getElem? HX.out, HFX.out⟩]
          exact decide_eq_true (by omega)
      · obtain rfl : k = Q.length := by omega
        have hE := Lib.hid (show Q.any f = false by
          rw [List.any_eq_false]; intro y hy; have := hI.out; rw [List.take_length] at this; rw [this y hy]; simp)
        clear hlt
        go_wp2
        go_ret
        exact ⟨⟨-1, rfl, by rw [hE.out]; rfl⟩, hBw.out⟩
theorem cont_any (f : Lk → Bool) (fn : Nat) (lb : Array Value) (hen : ∀ args w, (callFunc fn args).run Try.prog w = .ok (.enter fn args) w) (base : Nat) (v : Value) (Q : List Lk) (hq : Q.length ≤ 100000) (w : World) (h : w.ownsRow base 23 4 v Q.length (lflat Q))
    (hf : ∀ x ∈ Q, ∀ W, Below w.heap.size w W → Calls Try.prog fn (#[lkV x] ++ lb) W fun e w' => e = .returned (.bool (f x)) ∧ Below W.heap.size W w') :
    Calls Try.prog 19 #[v, .func (.func fn) #[] lb] w fun e w' => e = .returned (.bool (Q.any f)) ∧ Below w.heap.size w w' := by
  have HI := Lib.hid (indexp_any f fn lb hen base v Q hq w h hf)
  clear h hf hq hen
  go_enter Try.func19, Try.ntmps19
  go_wp2_with fail
  refine HI.out.mono ?_
  rintro e w1 ⟨⟨i, rfl, hi⟩, hb⟩
  have HB := Lib.hid (And.intro hi hb)
  clear hi hb
  go_wp2
  go_ret
  exact ⟨by rw [← HB.out.1]; rfl, HB.out.2⟩
end
section
set_option linter.unusedVariables false
set_option linter.unusedSimpArgs false
open Go.RowKit Go.Maps Go.Sort Go.Lib Go.Shelf Go.Proofs.YtoolflmaaooplaaW.PrintWords Go.Proofs.YtoolflmaaooplaaW.PrintLast Go.Proofs.YtoolflmaaooplaaW.PrintMore FLib
attribute [local go_sem] below_alloc_T below_drew_T below_drewN_T

/-- What the acts leave. -/
def plT (L : List (Int × Lk)) : Tb := (playF (mod8 L)).1
def plQ (L : List (Int × Lk)) : List Lk := (playF (mod8 L)).2
theorem play_all {w : World} {a : Option Addr} {len : Nat} {L : List (Int × Lk)} (h : Opens2.ActRow w a len L) (hl : len ≤ 60) : GI (2 * len) (plT L) (plQ L) := by
  have h2 := play_gi h hl len (Nat.le_refl _)
  rw [List.take_of_length_le (by rw [mod8_len, h.1]; exact Nat.le_refl _)] at h2
  exact h2
set_option maxRecDepth 100000 in
set_option maxHeartbeats 1000000 in
theorem played_any (a : Option Addr) (len cap : Nat) (L : List (Int × Lk)) (hlen : len ≤ 60) (w : World) (h : Opens2.ActRow w a len L) :
    Calls Try.prog 17 #[.slice a len cap] w fun e w' => ∃ p mb, e = .returned (.pointer (some ⟨p, 0, none⟩)) ∧ PT w w' p mb w'.heap.size (plT L) (plQ L) ∧ Below w.heap.size w w' := by
    have HH := Lib.hid h
    have HG := Lib.hid (fun k hk => play_gi h hlen k hk)
    have HL := Lib.hid hlen
    have HF := Lib.hid (show (mod8 L).take len = mod8 L from List.take_of_length_le (by rw [mod8_len, h.1]; exact Nat.le_refl _))
    clear h hlen
    go_enter Try.func17, Try.ntmps17
    go_wp2_with fail
    refine (new_c (W0 := w) (Nat.le_refl _)).mono ?_
    rintro e w2 ⟨p, mb, rfl, hP2, hb2⟩
    go_wp2_with fail
    refine (rnew_c (W0 := w) hb2.size).mono ?_
    rintro e w3 ⟨q, rfl, hR3, hb3⟩
    have H3 := Lib.hid (And.intro ((hP2.below hb3).up' hb3.size) (And.intro hR3 (below_back hb2 hb3)))
    clear hP2 hb2 hR3 hb3
    go_wp2
    go_loopw [11] (fun t wr => ∃ k : Nat, k ≤ len ∧ t = .int .i64 k ∧ Hid (PT w wr p mb wr.heap.size (playF ((mod8 L).take k)).1 (playF ((mod8 L).take k)).2) ∧ Hid (RTt w wr q wr.heap.size (flatP (playF ((mod8 L).take k)).1) (playF ((mod8 L).take k)).2) ∧ Hid (Below w.heap.size w wr)) (fun t _ => len - (RowKit.intOf t).toNat)
    case atStart => exact ⟨0, Nat.zero_le _, rfl, Lib.hid H3.out.1, Lib.hid H3.out.2.1, Lib.hid H3.out.2.2⟩
    case round =>
      obtain ⟨k, hk, rfl, hP, hR, hB⟩ := hrel
      have hlr : (len : Int) ≤ 60 := by have := HL.out; omega
      by_cases hlt : k < len
      · obtain ⟨x, hx⟩ : ∃ x, L[k]? = some x := ⟨_, List.getElem?_eq_getElem (by rw [HH.out.1]; exact hlt)⟩
        obtain ⟨hkd, hwf, A, hA, d0, dj⟩ := HH.out.2.2 k x hx
        subst hA
        have c0 := pw_cell_below hB.out d0
        have c1 := pw_cell_below hB.out (dj 1 (.int .i64 x.2.own) (by omega) rfl)
        have c2 := pw_cell_below hB.out (dj 2 (.int .i64 x.2.st) (by omega) rfl)
        have c3 := pw_cell_below hB.out (dj 3 (.int .i64 x.2.len) (by omega) rfl)
        have c4 := pw_cell_below hB.out (dj 4 (.bool x.2.ex) (by omega) rfl)
        have hk0 : (0 : Int) ≤ (k : Int) := by omega
        have hk1 : (k : Int) < (len : Int) := by omega
        have hb5 := below_alloc (Below.refl wr.heap.size wr) (.cells (actC x.1 x.2).toArray 53)
        have HDO := Lib.hid (do_any w p mb q wr.heap.size (2 * k) _ _ (HG.out k hk) (by omega) x.1 hkd x.2 hwf (wr.alloc (.cells (actC x.1 x.2).toArray 53)) (below_alloc hB.out _) (by simp) (hP.out.below hb5) (hR.out.below hb5))
        have HX := Lib.hid (And.intro hlt (playF_snoc (mod8_at hx)))
        simp only [actC, actV] at HDO
        clear hx hkd hwf d0 dj hb5 hlt hP hR
        go_wp2_with fail
        refine HDO.out.mono ?_
        rintro e w5 ⟨rfl, hP5, hR5, hB5⟩
        have H5 := Lib.hid (And.intro hP5 (And.intro hR5 hB5))
        clear hP5 hR5 hB5 c0 c1 c2 c3 c4
        go_wp2
        go_roundw
        case rel => exact ⟨k + 1, by have := HX.out.1; omega, by go_num, Lib.hid (by rw [HX.out.2]; exact H5.out.1), Lib.hid (by rw [HX.out.2]; exact H5.out.2.1), Lib.hid H5.out.2.2⟩
        case measure => have := HX.out.1; simp [RowKit.intOf]; omega
      · obtain rfl : k = len := by omega
        rw [HF.out] at hP
        clear hlt
        go_wp2
        go_ret
        exact ⟨p, mb, rfl, hP.out, hB.out⟩
end
section
set_option linter.unusedVariables false
set_option linter.unusedSimpArgs false
open Go.RowKit Go.Maps Go.Sort Go.Lib Go.Shelf Go.Proofs.YtoolflmaaooplaaW.PrintWords Go.Proofs.YtoolflmaaooplaaW.PrintLast Go.Proofs.YtoolflmaaooplaaW.PrintMore FLib

theorem okl_all {o s n : Int} (h : okL o s n = true) : 0 ≤ o ∧ 0 ≤ s ∧ s ≤ 16384 ∧ 0 ≤ n ∧ n ≤ 16384 := by
  unfold okL at h
  simpa using h
theorem endj_ok {o s n : Int} (h : okL o s n = true) : endJ s n = hh (endI s n) := by
  have := okl_all h
  unfold endJ hh endI
  by_cases hn : n = 0
  · rw [if_pos hn, if_pos hn, if_pos rfl]
  · rw [if_neg hn, if_neg hn, if_neg (by omega)]
theorem near_ok {x : Lk} (h : okL x.own x.st x.len = true) : NearL x := by
  have := okl_all h
  unfold NearL
  omega
def SpFit (s : Sp) : Prop := FitS s ∧ 0 ≤ s.lo ∧ s.lo < s.hi ∧ s.hi ≤ 1152921504606846976
theorem TInv.spfit {T : Tb} (h : TInv T) {z : Int × List Sp} (hz : z ∈ T) {s : Sp} (hs : s ∈ z.2) : SpFit s := ⟨h.fit z hz s hs, (h.ok.sp z hz).each s hs⟩
theorem near_lock {o : Int} {s : Sp} (h : SpFit s) : NearL (lockI s o) := by
  have h1 := h.1.1
  have h2 := h.1.2
  have h3 := h.2
  unfold FitH at h2
  unfold NearL lockI
  dsimp only
  split <;> omega
theorem endj_lock {o : Int} {s : Sp} (h : SpFit s) : endJ (lockI s o).st (lockI s o).len = hh s.hi := by
  have h1 := h.1.1
  have h2 := h.1.2
  have h3 := h.2
  unfold FitH at h2
  unfold endJ lockI hh
  dsimp only
  by_cases hf : s.hi = 1152921504606846976
  · rw [if_pos hf, if_pos rfl, if_pos hf]
  · rw [if_neg hf, if_neg (by omega), if_neg hf]
    omega
theorem conf_J {x : Lk} (hx : okL x.own x.st x.len = true) {o : Int} {s : Sp} (h : SpFit s) : confJ x (lockI s o) = confB o x s := by
  have hf := fit_span hx
  unfold confJ confB overI
  rw [endj_lock h, endj_ok hx]
  have e1 : decide (x.st < hh s.hi) = decide ((spanI x).lo < s.hi) := by rw [decide_eq_decide]; exact hh_lt hf.1 h.1.2
  have e2 : decide ((lockI s o).st < hh (endI x.st x.len)) = decide (s.lo < (spanI x).hi) := by rw [decide_eq_decide]; exact hh_lt h.1.1 hf.2
  rw [e1, e2]
  have e3 : (x.own != (lockI s o).own) = (o != x.own) := by
    show (x.own != o) = (o != x.own)
    rw [Bool.eq_iff_iff]; simp only [bne_iff_ne]; exact ne_comm
  rw [e3]
  show ((o != x.own) && (decide ((spanI x).lo < s.hi) && (decide (s.lo < (spanI x).hi) && (x.ex || s.ex)))) = _
  cases decide ((spanI x).lo < s.hi) <;> cases decide (s.lo < (spanI x).hi) <;> cases x.ex <;> cases s.ex <;> rfl
theorem confJ_comm (a b : Lk) : confJ a b = confJ b a := by
  unfold confJ
  have e3 : (a.own != b.own) = (b.own != a.own) := by rw [Bool.eq_iff_iff]; simp only [bne_iff_ne]; exact ne_comm
  rw [e3]
  cases decide (a.st < endJ b.st b.len) <;> cases decide (b.st < endJ a.st a.len) <;> cases a.ex <;> cases b.ex <;> rfl
theorem mem_gran {T : Tb} {y : Lk} : y ∈ tGran T ↔ ∃ z ∈ T, ∃ s ∈ z.2, y = lockI s z.1 := by
  unfold tGran
  rw [List.mem_flatMap]
  constructor
  · rintro ⟨z, hz, hy⟩
    obtain ⟨s, hs, rfl⟩ := List.mem_map.1 hy
    exact ⟨z, hz, s, hs, rfl⟩
  · rintro ⟨z, hz, s, hs, rfl⟩
    exact ⟨z, hz, List.mem_map.2 ⟨s, hs, rfl⟩⟩
theorem mem_conf {T : Tb} {x y : Lk} : y ∈ tConf T x ↔ ∃ z ∈ T, ∃ s ∈ z.2, confB z.1 x s = true ∧ y = lockI s z.1 := by
  unfold tConf
  rw [List.mem_flatMap]
  constructor
  · rintro ⟨z, hz, hy⟩
    obtain ⟨s, hs, rfl⟩ := List.mem_map.1 hy
    obtain ⟨h1, h2⟩ := List.mem_filter.1 hs
    exact ⟨z, hz, s, h1, h2, rfl⟩
  · rintro ⟨z, hz, s, hs, h2, rfl⟩
    exact ⟨z, hz, List.mem_map.2 ⟨s, List.mem_filter.2 ⟨hs, h2⟩, rfl⟩⟩
/-- The granted locks that conflict, by the law's own test. -/
theorem conf_gran {T : Tb} (h : TInv T) {x y : Lk} (hx : okL x.own x.st x.len = true) : y ∈ tConf T x ↔ y ∈ tGran T ∧ confJ x y = true := by
  rw [mem_conf, mem_gran]
  constructor
  · rintro ⟨z, hz, s, hs, hc, rfl⟩
    exact ⟨⟨z, hz, s, hs, rfl⟩, by rw [conf_J hx (h.spfit hz hs)]; exact hc⟩
  · rintro ⟨⟨z, hz, s, hs, rfl⟩, hc⟩
    exact ⟨z, hz, s, hs, by rw [← conf_J hx (h.spfit hz hs)]; exact hc, rfl⟩
theorem near_gran {T : Tb} (h : TInv T) {y : Lk} (hy : y ∈ tGran T) : NearL y := by
  obtain ⟨z, hz, s, hs, rfl⟩ := mem_gran.1 hy
  exact near_lock (h.spfit hz hs)
theorem grB_of {B : Nat} {T : Tb} {Q : List Lk} (h : GI B T Q) (hB : B ≤ 180) {l : Lk} (hw : (Lit.int .i64 l.own).wf = true) (hl : okL l.own l.st l.len = true) (h3 : (tConf T l).isEmpty = true) : grB T l = true := by
  have hsz := h.size
  have hg := grT_ok h.inv.ok hl hw (by omega)
  have hlen : (rwithP (flatP T) (rofI l)).length = tAll (grT T l) := by
    have h1 := grT_flat h.inv hl
    unfold rgrT at h1
    rw [h1, flatP_len]
  unfold grB
  rw [h3]
  have := with_len h.inv hl
  simp only [Bool.true_and, decide_eq_true_eq]
  omega
/-- Test and Set beside each other. -/
theorem tests_cases {B : Nat} {T : Tb} {Q : List Lk} (h : GI B T Q) (hB : B ≤ 180) (x : Lk) (hw : (Lit.int .i64 x.own).wf = true) (hn : Q.any (fun y => y.own == x.own) = false) :
    (testV T x = .tuple #[lkV ⟨0, 0, 0, false⟩, .bool false, .int .i64 34] ∧ (setF T Q x false).1.1 = false ∧ (setF T Q x false).1.2.2 = 34) ∨
    (testV T x = .tuple #[lkV ⟨0, 0, 0, false⟩, .bool false, .int .i64 0] ∧ (setF T Q x false).1.1 = true ∧ (setF T Q x false).1.2.2 = 0) ∨
    (∃ y, testV T x = .tuple #[lkV y, .bool true, .int .i64 0] ∧ (setF T Q x false).1.1 = false ∧ (setF T Q x false).1.2.2 = 2 ∧ NearL x ∧ NearL y ∧ confJ x y = true) := by
  unfold testV setF
  by_cases hx : okL x.own x.st x.len = true
  · rw [if_pos hx, if_neg (by rw [hx]; simp)]
    have hf : ¬ fdI Q x.own < Q.length := fun hf => by
      rw [List.any_eq_false] at hn
      have := List.findIdx_getElem (p := fun l : Lk => l.own == x.own) (xs := Q) (w := hf)
      exact hn _ (List.getElem_mem _) this
    rw [if_neg hf]
    by_cases h3 : (tConf T x).isEmpty = true
    · rw [if_pos h3, if_pos (grB_of h hB hw hx h3)]
      rw [List.isEmpty_iff.1 h3]
      exact .inr (.inl ⟨rfl, rfl, rfl⟩)
    · rw [if_neg h3, if_pos rfl]
      obtain ⟨y, l, hy⟩ : ∃ y l, tConf T x = y :: l := by
        cases hc : tConf T x with
        | nil => rw [hc] at h3; simp at h3
        | cons y l => exact ⟨y, l, rfl⟩
      have hm := (conf_gran h.inv hx (y := y)).1 (by rw [hy]; exact List.mem_cons_self ..)
      rw [hy]
      exact .inr (.inr ⟨y, rfl, rfl, rfl, near_ok hx, near_gran h.inv hm.1, hm.2⟩)
  · rw [if_neg hx, if_pos (by simpa using hx)]
    exact .inl ⟨rfl, rfl, rfl⟩
theorem act_below {w w' : World} {a : Option Addr} {len : Nat} {L : List (Int × Lk)} (h : Opens2.ActRow w a len L) (hb : Below w.heap.size w w') : Opens2.ActRow w' a len L := by
  refine ⟨h.1, h.2.1, fun i x hx => ?_⟩
  obtain ⟨h1, h2, A, hA, h3, h4⟩ := h.2.2 i x hx
  exact ⟨h1, h2, A, hA, pw_cell_below hb h3, fun j u hj hu => pw_cell_below hb (h4 j u hj hu)⟩
end
section
set_option linter.unusedVariables false
set_option linter.unusedSimpArgs false
open Go.RowKit Go.Maps Go.Sort Go.Lib Go.Shelf Go.Proofs.YtoolflmaaooplaaW.PrintWords Go.Proofs.YtoolflmaaooplaaW.PrintLast Go.Proofs.YtoolflmaaooplaaW.PrintMore FLib
attribute [local go_sem] below_alloc_T below_drew_T below_drewN_T

theorem enter_of (fn : Nat) (h : ∀ args w, (callFunc fn args).run Try.prog w = .ok (.enter fn args) w) : ∀ args w, (callFunc fn args).run Try.prog w = .ok (.enter fn args) w := h
theorem any_hid {Q : List Lk} {f : Lk → Bool} {b : Bool} (h : Q.any f = b) : Q.any f = b := h
set_option maxRecDepth 100000 in
set_option maxHeartbeats 1000000 in
theorem tests_law (a : Option Addr) (len cap : Nat) (L : List (Int × Lk)) (x : Lk) (hw : (Lit.int .i64 x.own).wf = true) (w : World) (h : Opens2.ActRow w a len L) :
    Calls Try.prog 5 #[.slice a len cap, lkV x] w fun e w' => e = .returned (.bool true) ∧ Below w.heap.size w w' := by
  have HAW := Lib.hid awake_any
  have HH := Lib.hid h
  have HWF := Lib.hid hw
  clear h hw
  obtain ⟨x0, x1, x2, x3⟩ := x
  simp only [lkV]
  by_cases hlen : 60 < len
  · have hd : decide ((60 : Int) < (len : Int)) = true := decide_eq_true (by omega)
    clear hlen
    go_enter Try.func5, Try.ntmps5
    go_wp2_with fail
    refine (HAW.out _).mono ?_
    rintro e w1 ⟨rfl, hb1⟩
    have H1 := Lib.hid (below_back (below_alloc (Below.refl w.heap.size w) _) hb1)
    clear hb1
    go_wp2
    go_ret
    exact ⟨rfl, H1.out⟩
  · have hd : decide ((60 : Int) < (len : Int)) = false := decide_eq_false (by omega)
    have HL := Lib.hid hlen
    clear hlen
    go_enter Try.func5, Try.ntmps5
    go_wp2_with fail
    refine (HAW.out _).mono ?_
    rintro e w1 ⟨rfl, hb1⟩
    have hx1 : w1.heap[w.heap.size]? = some (.cells #[.int .i64 x0, .int .i64 x1, .int .i64 x2, .bool x3] 23 (0, 0)) := blk_below (blk_new _ _) hb1
    have hbw1 := below_back (below_alloc (Below.refl w.heap.size w) _) hb1
    have HP := Lib.hid (played_any a len cap L (by have := HL.out; omega) w1 (act_below HH.out hbw1))
    have H1 := Lib.hid (And.intro hx1 hbw1)
    clear hb1 hx1 hbw1
    go_wp2_with fail
    refine HP.out.mono ?_
    rintro e w2 ⟨p, mb, rfl, hP2, hb2⟩
    have HGI := Lib.hid (play_all HH.out (by have := HL.out; omega))
    generalize plT L = T at HGI hP2
    generalize plQ L = Q at HGI hP2
    have HX2 := Lib.hid (blk_below H1.out.1 hb2)
    have H2 := Lib.hid (And.intro hP2 (And.intro hb2 (below_back H1.out.2 hb2)))
    clear hP2 hb2
    go_wp2_with fail
    refine (waiting_c HGI.out (by have := HL.out; omega) H2.out.1).mono ?_
    rintro e w3 ⟨u3, rfl, hr3, hb3⟩
    have H3 := Lib.hid (And.intro hr3 (And.intro ((H2.out.1.below hb3).up' hb3.size) (And.intro (below_back H2.out.2.1 hb3) (below_back H2.out.2.2 hb3))))
    have HX3 := Lib.hid (blk_below HX2.out hb3)
    clear hr3 hb3
    have HC3 := Lib.hid (cont_any (fun y => y.own == x0) 21 #[.pointer (some ⟨w.heap.size, 0, none⟩)] (fun _ _ => by kernel_rfl) _ u3 Q (by have := HGI.out.size; have := HL.out; omega) w3 H3.out.1 (fun y _ W hb => own_any ⟨x0, x1, x2, x3⟩ y w.heap.size W (blk_cell (blk_below HX3.out hb) 0)))
    go_wp2_with fail
    refine HC3.out.mono ?_
    rintro e w4 ⟨rfl, hb4⟩
    have H4 := Lib.hid (And.intro ((H3.out.2.1.below hb4).up' hb4.size) (And.intro (below_back H3.out.2.2.1 hb4) (below_back H3.out.2.2.2 hb4)))
    have hx4 := blk_below HX3.out hb4
    clear hb4
    cases hq : Q.any (fun y => y.own == x0)
    · have HTC := Lib.hid (tests_cases HGI.out (by have := HL.out; omega) ⟨x0, x1, x2, x3⟩ HWF.out hq)
      have c0 := later_cell (v := .int .i64 x0) (blk_cell hx4 0)
      have c1 := later_cell (v := .int .i64 x1) (blk_cell hx4 1)
      have c2 := later_cell (v := .int .i64 x2) (blk_cell hx4 2)
      have c3 := later_cell (v := .bool x3) (blk_cell hx4 3)
      have hs4 : Below w4.heap.size w4 w4 := Below.refl _ _
      have HX4 := Lib.hid hx4
      have HT := Lib.hid (test_c HGI.out ⟨x0, x1, x2, x3⟩ H4.out.1)
      simp only [lkV] at HT
      clear hq hx4
      go_wp2_with fail
      refine HT.out.mono ?_
      rintro e w5 ⟨rfl, hb5⟩
      have HX5 := Lib.hid (blk_below HX4.out hb5)
      have H5 := Lib.hid (And.intro ((H4.out.1.below hb5).up' hb5.size) (And.intro (below_back H4.out.2.1 hb5) (below_back H4.out.2.2 hb5)))
      clear hb5 c0 c1 c2 c3 hs4
      have hx5 := HX5.out
      rcases HTC.out with ⟨ht, hs1, hs2⟩ | ⟨ht, hs1, hs2⟩ | ⟨⟨y0, y1, y2, y3⟩, ht, hs1, hs2, hnx, hny, hcf⟩
      · have HS := Lib.hid (set_c (W0 := w1) HGI.out (by have := HL.out; omega) ⟨x0, x1, x2, x3⟩ false HWF.out (by simpa using Nat.le_succ_of_le H5.out.2.1.size) (H5.out.1.below (below_alloc (Below.refl w5.heap.size w5) (.cells #[.int .i64 0, .int .i64 0, .int .i64 0, .bool false] 23))))
        rw [hs1, hs2] at HS
        simp only [lkV, setV] at HS ht
        have x6 : ∀ o : Obj, (w5.alloc o).heap[w.heap.size]? = some (.cells #[.int .i64 x0, .int .i64 x1, .int .i64 x2, .bool x3] 23 (0, 0)) := fun o => blk_alloc hx5 o
        have c0 : ∀ o : Obj, (w5.alloc o).cell? ⟨w.heap.size, 0, none⟩ = some (.int .i64 x0) := fun o => blk_cell (x6 o) 0
        have c1 : ∀ o : Obj, (w5.alloc o).cell? ⟨w.heap.size, 1, none⟩ = some (.int .i64 x1) := fun o => blk_cell (x6 o) 1
        have c2 : ∀ o : Obj, (w5.alloc o).cell? ⟨w.heap.size, 2, none⟩ = some (.int .i64 x2) := fun o => blk_cell (x6 o) 2
        have c3 : ∀ o : Obj, (w5.alloc o).cell? ⟨w.heap.size, 3, none⟩ = some (.bool x3) := fun o => blk_cell (x6 o) 3
        rw [ht]
        clear ht hs1 hs2 hx5 x6
        go_wp2_with fail
        refine HS.out.mono ?_
        rintro e w7 ⟨u7, rfl, hr7, hP7, hm7⟩
        have hb7 := hm7.base (below_back H5.out.2.1 (below_alloc (Below.refl w5.heap.size w5) (.cells #[.int .i64 0, .int .i64 0, .int .i64 0, .bool false] 23)))
        have H7 := Lib.hid (below_back H1.out.2 hb7)
        clear hr7 hP7 hm7 hb7 c0 c1 c2 c3
        go_wp2
        go_ret
        exact ⟨rfl, H7.out⟩
      · have HS := Lib.hid (set_c (W0 := w1) HGI.out (by have := HL.out; omega) ⟨x0, x1, x2, x3⟩ false HWF.out (by simpa using Nat.le_succ_of_le H5.out.2.1.size) (H5.out.1.below (below_alloc (Below.refl w5.heap.size w5) (.cells #[.int .i64 0, .int .i64 0, .int .i64 0, .bool false] 23))))
        rw [hs1, hs2] at HS
        simp only [lkV, setV] at HS ht
        have x6 : ∀ o : Obj, (w5.alloc o).heap[w.heap.size]? = some (.cells #[.int .i64 x0, .int .i64 x1, .int .i64 x2, .bool x3] 23 (0, 0)) := fun o => blk_alloc hx5 o
        have c0 : ∀ o : Obj, (w5.alloc o).cell? ⟨w.heap.size, 0, none⟩ = some (.int .i64 x0) := fun o => blk_cell (x6 o) 0
        have c1 : ∀ o : Obj, (w5.alloc o).cell? ⟨w.heap.size, 1, none⟩ = some (.int .i64 x1) := fun o => blk_cell (x6 o) 1
        have c2 : ∀ o : Obj, (w5.alloc o).cell? ⟨w.heap.size, 2, none⟩ = some (.int .i64 x2) := fun o => blk_cell (x6 o) 2
        have c3 : ∀ o : Obj, (w5.alloc o).cell? ⟨w.heap.size, 3, none⟩ = some (.bool x3) := fun o => blk_cell (x6 o) 3
        rw [ht]
        clear ht hs1 hs2 hx5 x6
        go_wp2_with fail
        refine HS.out.mono ?_
        rintro e w7 ⟨u7, rfl, hr7, hP7, hm7⟩
        have hb7 := hm7.base (below_back H5.out.2.1 (below_alloc (Below.refl w5.heap.size w5) (.cells #[.int .i64 0, .int .i64 0, .int .i64 0, .bool false] 23)))
        have H7 := Lib.hid (below_back H1.out.2 hb7)
        clear hr7 hP7 hm7 hb7 c0 c1 c2 c3
        go_wp2
        go_ret
        exact ⟨rfl, H7.out⟩
      · have HN := Lib.hid (And.intro hnx (And.intro hny hcf))
        clear hnx hny hcf
        have HS := Lib.hid (set_c (W0 := w1) HGI.out (by have := HL.out; omega) ⟨x0, x1, x2, x3⟩ false HWF.out (by simpa using Nat.le_succ_of_le H5.out.2.1.size) (H5.out.1.below (below_alloc (Below.refl w5.heap.size w5) (.cells #[.int .i64 y0, .int .i64 y1, .int .i64 y2, .bool y3] 23))))
        rw [hs1, hs2] at HS
        simp only [lkV, setV] at HS ht
        have x6 : ∀ o : Obj, (w5.alloc o).heap[w.heap.size]? = some (.cells #[.int .i64 x0, .int .i64 x1, .int .i64 x2, .bool x3] 23 (0, 0)) := fun o => blk_alloc hx5 o
        have c0 : ∀ o : Obj, (w5.alloc o).cell? ⟨w.heap.size, 0, none⟩ = some (.int .i64 x0) := fun o => blk_cell (x6 o) 0
        have c1 : ∀ o : Obj, (w5.alloc o).cell? ⟨w.heap.size, 1, none⟩ = some (.int .i64 x1) := fun o => blk_cell (x6 o) 1
        have c2 : ∀ o : Obj, (w5.alloc o).cell? ⟨w.heap.size, 2, none⟩ = some (.int .i64 x2) := fun o => blk_cell (x6 o) 2
        have c3 : ∀ o : Obj, (w5.alloc o).cell? ⟨w.heap.size, 3, none⟩ = some (.bool x3) := fun o => blk_cell (x6 o) 3
        rw [ht]
        clear ht hs1 hs2 hx5 x6
        go_wp2_with fail
        refine HS.out.mono ?_
        rintro e w7 ⟨u7, rfl, hr7, hP7, hm7⟩
        have hb7 := hm7.base (below_back H5.out.2.1 (below_alloc (Below.refl w5.heap.size w5) (.cells #[.int .i64 y0, .int .i64 y1, .int .i64 y2, .bool y3] 23)))
        have H7 := Lib.hid (below_back H1.out.2 hb7)
        have hx7 := blk_below H1.out.1 hb7
        have hy7 := hm7.blk (blk_new _ _) (Nat.le_refl _)
        have HC := Lib.hid (conflict_any ⟨x0, x1, x2, x3⟩ ⟨y0, y1, y2, y3⟩ HN.out.1 HN.out.2.1)
        rw [HN.out.2.2] at HC
        simp only [lkV] at HC
        clear hr7 hP7 hm7 hb7 c0 c1 c2 c3
        have c0 : w7.cell? ⟨w.heap.size, 0, none⟩ = some (.int .i64 x0) := blk_cell hx7 0
        have c1 : w7.cell? ⟨w.heap.size, 1, none⟩ = some (.int .i64 x1) := blk_cell hx7 1
        have c2 : w7.cell? ⟨w.heap.size, 2, none⟩ = some (.int .i64 x2) := blk_cell hx7 2
        have c3 : w7.cell? ⟨w.heap.size, 3, none⟩ = some (.bool x3) := blk_cell hx7 3
        have d0 : w7.cell? ⟨w5.heap.size, 0, none⟩ = some (.int .i64 y0) := blk_cell hy7 0
        have d1 : w7.cell? ⟨w5.heap.size, 1, none⟩ = some (.int .i64 y1) := blk_cell hy7 1
        have d2 : w7.cell? ⟨w5.heap.size, 2, none⟩ = some (.int .i64 y2) := blk_cell hy7 2
        have d3 : w7.cell? ⟨w5.heap.size, 3, none⟩ = some (.bool y3) := blk_cell hy7 3
        clear hx7 hy7
        go_wp2_with fail
        refine (HC.out _).mono ?_
        rintro e w8 ⟨rfl, hb8⟩
        have H8 := Lib.hid (below_back H7.out hb8)
        clear hb8 c0 c1 c2 c3 d0 d1 d2 d3
        go_wp2
        go_ret
        exact ⟨rfl, H8.out⟩
    · clear hq hx4
      go_wp2
      go_ret
      exact ⟨rfl, H4.out.2.2⟩
end
end Go.Proofs.Ytoolflmaaooplaa
