/- Check of a task set. -/
import Derived.Test.YtmbfnhnemhojjaaA7
namespace Go.Proofs.Ytmbfnhnemhojjaa
set_option linter.unusedVariables false
set_option linter.unusedSimpArgs false
open Go.RowKit Go.Proofs.YtmbfnhnemhojjaaW.PrintWords Go.Proofs.YtmbfnhnemhojjaaW.PrintLast Go.Proofs.YtmbfnhnemhojjaaW.PrintMore PResponseCosts FLib
attribute [local go_sem ↓] hold_cells hold_from
attribute [local go_sem] below_alloc_T below_drew_T below_drewN_T

theorem chain (a1 a2 a3 a4 a5 a6 a7 a8 a9 : Bool) : (a1 = false) ∨ (a1 = true ∧ a2 = false) ∨ (a1 = true ∧ a2 = true ∧ a3 = false) ∨ (a1 = true ∧ a2 = true ∧ a3 = true ∧ a4 = false) ∨ (a1 = true ∧ a2 = true ∧ a3 = true ∧ a4 = true ∧ a5 = false) ∨
    (a1 = true ∧ a2 = true ∧ a3 = true ∧ a4 = true ∧ a5 = true ∧ a6 = false) ∨ (a1 = true ∧ a2 = true ∧ a3 = true ∧ a4 = true ∧ a5 = true ∧ a6 = true ∧ a7 = false) ∨ (a1 = true ∧ a2 = true ∧ a3 = true ∧ a4 = true ∧ a5 = true ∧ a6 = true ∧ a7 = true ∧ a8 = false) ∨
    (a1 = true ∧ a2 = true ∧ a3 = true ∧ a4 = true ∧ a5 = true ∧ a6 = true ∧ a7 = true ∧ a8 = true ∧ a9 = false) ∨ (a1 = true ∧ a2 = true ∧ a3 = true ∧ a4 = true ∧ a5 = true ∧ a6 = true ∧ a7 = true ∧ a8 = true ∧ a9 = true) := by
  cases a1 <;> cases a2 <;> cases a3 <;> cases a4 <;> cases a5 <;> cases a6 <;> cases a7 <;> cases a8 <;> cases a9 <;> simp
theorem rightB_eq (x : S33) : rightB x = (decide (1 ≤ x.f1) && decide (x.f1 ≤ 100000) && decide (1 ≤ x.f2) && decide (x.f2 ≤ x.f1) && decide (0 ≤ x.f3) && decide (x.f3 ≤ 99999) && decide (1 ≤ x.f4) && decide (x.f4 ≤ 1000) && decide (0 ≤ x.f5) && decide (x.f5 ≤ 1000)) := rfl

set_option maxRecDepth 100000 in
set_option maxHeartbeats 1600000 in
theorem timed_eq (x : S33) (b : Bool) (hb : rightB x = b) (w : World) : Calls Try.prog 33 #[tkV x] w fun e w' => e = .returned (.bool b) ∧ Below w.heap.size w w' := by
  have HB := Lib.hid hb
  rw [rightB_eq] at HB
  clear hb
  unfold tkV
  rcases chain (decide (1 ≤ x.f1)) (decide (x.f1 ≤ 100000)) (decide (1 ≤ x.f2)) (decide (x.f2 ≤ x.f1)) (decide (0 ≤ x.f3)) (decide (x.f3 ≤ 99999)) (decide (1 ≤ x.f4)) (decide (x.f4 ≤ 1000)) (decide (0 ≤ x.f5)) with h | ⟨h1, h⟩ | ⟨h1, h2, h⟩ | ⟨h1, h2, h3, h⟩ | ⟨h1, h2, h3, h4, h⟩ | ⟨h1, h2, h3, h4, h5, h⟩ | ⟨h1, h2, h3, h4, h5, h6, h⟩ | ⟨h1, h2, h3, h4, h5, h6, h7, h⟩ | ⟨h1, h2, h3, h4, h5, h6, h7, h8, h⟩ | ⟨h1, h2, h3, h4, h5, h6, h7, h8, h⟩
  all_goals
    go_enter Try.func33, Try.ntmps33
    go_wp2
    go_ret
    refine ⟨?_, below_alloc (Below.refl _ _) _⟩
    have hb := HB.out
    simp only [*, Bool.true_and, Bool.and_true, Bool.false_and, Bool.and_false] at hb
    rw [← hb]
    rfl

def okTk (x : S33) : Bool := decide (1 ≤ x.f0) && decide (x.f0 ≤ 255) && rightB x
theorem okTk_iff {x : S33} : okTk x = true ↔ TkOk x := by
  unfold okTk rightB
  simp only [Bool.and_eq_true, decide_eq_true_eq]
  constructor
  · rintro ⟨⟨a, b⟩, ⟨⟨⟨⟨⟨⟨⟨⟨⟨c, d⟩, e⟩, f⟩, g⟩, h⟩, i⟩, j⟩, k⟩, l⟩⟩
    exact ⟨⟨a, b⟩, ⟨c, d⟩, ⟨e, f⟩, ⟨g, h⟩, ⟨i, j⟩, ⟨k, l⟩⟩
  · rintro ⟨⟨a, b⟩, ⟨c, d⟩, ⟨e, f⟩, ⟨g, h⟩, ⟨i, j⟩, ⟨k, l⟩⟩
    exact ⟨⟨a, b⟩, ⟨⟨⟨⟨⟨⟨⟨⟨⟨c, d⟩, e⟩, f⟩, g⟩, h⟩, i⟩, j⟩, k⟩, l⟩⟩

set_option maxRecDepth 100000 in
set_option maxHeartbeats 1600000 in
theorem bad_eq (x : S33) (w : World) : Calls Try.prog 32 #[tkV x] w fun e w' => e = .returned (.bool (!okTk x)) ∧ Below w.heap.size w w' := by
  obtain ⟨b, hb⟩ : ∃ b, rightB x = b := ⟨_, rfl⟩
  have HT := Lib.hid (timed_eq x b hb)
  have HO : Hid (okTk x = (decide (1 ≤ x.f0) && decide (x.f0 ≤ 255) && b)) := Lib.hid (by unfold okTk; rw [hb])
  clear hb
  unfold tkV at HT ⊢
  by_cases h1 : x.f0 < 1
  · go_enter Try.func32, Try.ntmps32
    go_wp2
    go_ret
    exact ⟨by rw [HO.out]; simp; omega, below_alloc (Below.refl _ _) _⟩
  by_cases h2 : 255 < x.f0
  · go_enter Try.func32, Try.ntmps32
    go_wp2
    go_ret
    exact ⟨by rw [HO.out]; simp; omega, below_alloc (Below.refl _ _) _⟩
  have l1 : ∀ w', Below (w.alloc (.cells #[.int .i64 x.f0, .int .i64 x.f1, .int .i64 x.f2, .int .i64 x.f3, .int .i64 x.f4, .int .i64 x.f5] 33)).heap.size (w.alloc (.cells #[.int .i64 x.f0, .int .i64 x.f1, .int .i64 x.f2, .int .i64 x.f3, .int .i64 x.f4, .int .i64 x.f5] 33)) w' → RunCells Try.prog ⟨w.heap.size, 0, none⟩ 6 w' = .ok #[.int .i64 x.f0, .int .i64 x.f1, .int .i64 x.f2, .int .i64 x.f3, .int .i64 x.f4, .int .i64 x.f5] w' := later_whole (n := 6) (blk_new w _) rfl
  have hs := l1 _ (Below.refl _ _)
  clear l1
  go_enter Try.func32, Try.ntmps32
  go_wp2_with (go_at_call 33; refine (HT.out _).mono ?_; rintro e w2 ⟨rfl, hb2⟩)
  go_ret
  exact ⟨by rw [HO.out]; simp; omega, below_then (below_alloc (Below.refl _ _) _) (by simp) hb2⟩

theorem any_take_snoc {l : List S33} {k : Nat} (h : k < l.length) (p : S33 → Bool) : (l.take (k + 1)).any p = ((l.take k).any p || p (tk l k)) := by
  rw [List.take_add_one, tk_get h, List.any_append]; simp

set_option maxRecDepth 100000 in
set_option maxHeartbeats 400000 in
theorem index_any32 (p : S33 → Bool) (hcall : ∀ x w', Calls Try.prog 32 #[tkV x] w' fun e w2 => e = .returned (.bool (p x)) ∧ Below w'.heap.size w' w2) (A : Option Addr) (c : Nat) (l : List S33) (W : World) (hC : Kd.C k33 W A l.length l) :
    Calls Try.prog 53 #[.slice A l.length c, .func (.func 32) #[] #[]] W fun e w' => ∃ i : Int, e = .returned (.int .i64 i) ∧ (0 ≤ i ↔ l.any p = true) ∧ Below W.heap.size W w' := by
  have hm := Kd.C_max hC
  have HCW := Lib.hid hC
  have HC := Lib.hid hcall
  have hlen : (l.length : Int) ≤ 9223372036854775807 := by omega
  clear hC hcall
  go_enter Try.func53, Try.ntmps53
  go_wp2
  go_loopw [8] (fun i wr => ∃ k : Nat, k ≤ l.length ∧ i = .int .i64 k ∧ Hid ((l.take k).any p = false) ∧ Below W.heap.size W wr) (fun i _ => l.length - (intOf i).toNat)
  case atStart => exact ⟨0, Nat.zero_le _, rfl, Lib.hid rfl, Below.refl _ _⟩
  case round =>
    obtain ⟨k, hk, rfl, HN, hB⟩ := hrel
    by_cases hlt : k < l.length
    · obtain ⟨ad, rfl, lk, -⟩ := tasks_at HCW.out k hlt
      have HTS := Lib.hid (any_take_snoc hlt p)
      have HMem := Lib.hid (tk_mem hlt)
      have hi0 : (0 : Int) ≤ (k : Int) := by omega
      have hi1 : (k : Int) < (l.length : Int) := by omega
      generalize tk l k = x at lk HTS HMem
      have HX := Lib.hid (HC.out x)
      cases hp : p x with
      | false =>
        rw [hp] at HX
        have HP := Lib.hid hp
        clear hp
        unfold tkV at HX
        go_wp2_with fail
        refine (HX.out _).mono ?_
        rintro e w2 ⟨rfl, hb2⟩
        go_wp2
        go_roundw
        case rel => exact ⟨k + 1, by omega, by go_num, Lib.hid (by rw [HTS.out, HN.out, HP.out]; rfl), below_step hB hb2⟩
        case measure => simp [intOf]; omega
      | true =>
        rw [hp] at HX
        have HP := Lib.hid hp
        clear hp
        unfold tkV at HX
        go_wp2_with fail
        refine (HX.out _).mono ?_
        rintro e w2 ⟨rfl, hb2⟩
        go_wp2
        go_ret
        exact ⟨(k : Int), rfl, ⟨fun _ => List.any_eq_true.2 ⟨x, HMem.out, HP.out⟩, fun _ => by omega⟩, below_step hB hb2⟩
    · obtain rfl : k = l.length := by omega
      go_wp2
      go_ret
      refine ⟨-1, rfl, ⟨fun h => by omega, fun h => ?_⟩, hB⟩
      have := HN.out
      rw [List.take_length, h] at this
      cases this

theorem contains_eq32 (p : S33 → Bool) (b : Bool) (hcall : ∀ x w', Calls Try.prog 32 #[tkV x] w' fun e w2 => e = .returned (.bool (p x)) ∧ Below w'.heap.size w' w2) (A : Option Addr) (c : Nat) (l : List S33) (hb : l.any p = b) (W : World) (hC : Kd.C k33 W A l.length l) :
    Calls Try.prog 31 #[.slice A l.length c, .func (.func 32) #[] #[]] W fun e w' => e = .returned (.bool b) ∧ Below W.heap.size W w' := by
  have HI := Lib.hid (index_any32 p hcall A c l W hC)
  have HB := Lib.hid hb
  clear hcall hC hb
  go_enter Try.func31, Try.ntmps31
  go_wp2_with fail
  refine HI.out.mono ?_
  rintro e w2 ⟨i, rfl, hi, hb2⟩
  rw [HB.out] at hi
  clear HI HB
  cases b with
  | true =>
    have h0 : 0 ≤ i := hi.2 rfl
    clear hi
    go_wp2
    go_ret
    exact ⟨rfl, hb2⟩
  | false =>
    have h0 : ¬ 0 ≤ i := fun h => by cases hi.1 h
    clear hi
    go_wp2
    go_ret
    exact ⟨by simp; omega, hb2⟩
set_option maxRecDepth 100000 in
set_option maxHeartbeats 400000 in
theorem index_any48 (p : S33 → Bool) (hcall : ∀ x w', Calls Try.prog 48 #[tkV x] w' fun e w2 => e = .returned (.bool (p x)) ∧ Below w'.heap.size w' w2) (A : Option Addr) (c : Nat) (l : List S33) (W : World) (hC : Kd.C k33 W A l.length l) :
    Calls Try.prog 53 #[.slice A l.length c, .func (.func 48) #[] #[]] W fun e w' => ∃ i : Int, e = .returned (.int .i64 i) ∧ (0 ≤ i ↔ l.any p = true) ∧ Below W.heap.size W w' := by
  have hm := Kd.C_max hC
  have HCW := Lib.hid hC
  have HC := Lib.hid hcall
  have hlen : (l.length : Int) ≤ 9223372036854775807 := by omega
  clear hC hcall
  go_enter Try.func53, Try.ntmps53
  go_wp2
  go_loopw [8] (fun i wr => ∃ k : Nat, k ≤ l.length ∧ i = .int .i64 k ∧ Hid ((l.take k).any p = false) ∧ Below W.heap.size W wr) (fun i _ => l.length - (intOf i).toNat)
  case atStart => exact ⟨0, Nat.zero_le _, rfl, Lib.hid rfl, Below.refl _ _⟩
  case round =>
    obtain ⟨k, hk, rfl, HN, hB⟩ := hrel
    by_cases hlt : k < l.length
    · obtain ⟨ad, rfl, lk, -⟩ := tasks_at HCW.out k hlt
      have HTS := Lib.hid (any_take_snoc hlt p)
      have HMem := Lib.hid (tk_mem hlt)
      have hi0 : (0 : Int) ≤ (k : Int) := by omega
      have hi1 : (k : Int) < (l.length : Int) := by omega
      generalize tk l k = x at lk HTS HMem
      have HX := Lib.hid (HC.out x)
      cases hp : p x with
      | false =>
        rw [hp] at HX
        have HP := Lib.hid hp
        clear hp
        unfold tkV at HX
        go_wp2_with fail
        refine (HX.out _).mono ?_
        rintro e w2 ⟨rfl, hb2⟩
        go_wp2
        go_roundw
        case rel => exact ⟨k + 1, by omega, by go_num, Lib.hid (by rw [HTS.out, HN.out, HP.out]; rfl), below_step hB hb2⟩
        case measure => simp [intOf]; omega
      | true =>
        rw [hp] at HX
        have HP := Lib.hid hp
        clear hp
        unfold tkV at HX
        go_wp2_with fail
        refine (HX.out _).mono ?_
        rintro e w2 ⟨rfl, hb2⟩
        go_wp2
        go_ret
        exact ⟨(k : Int), rfl, ⟨fun _ => List.any_eq_true.2 ⟨x, HMem.out, HP.out⟩, fun _ => by omega⟩, below_step hB hb2⟩
    · obtain rfl : k = l.length := by omega
      go_wp2
      go_ret
      refine ⟨-1, rfl, ⟨fun h => by omega, fun h => ?_⟩, hB⟩
      have := HN.out
      rw [List.take_length, h] at this
      cases this

theorem contains_eq48 (p : S33 → Bool) (b : Bool) (hcall : ∀ x w', Calls Try.prog 48 #[tkV x] w' fun e w2 => e = .returned (.bool (p x)) ∧ Below w'.heap.size w' w2) (A : Option Addr) (c : Nat) (l : List S33) (hb : l.any p = b) (W : World) (hC : Kd.C k33 W A l.length l) :
    Calls Try.prog 31 #[.slice A l.length c, .func (.func 48) #[] #[]] W fun e w' => e = .returned (.bool b) ∧ Below W.heap.size W w' := by
  have HI := Lib.hid (index_any48 p hcall A c l W hC)
  have HB := Lib.hid hb
  clear hcall hC hb
  go_enter Try.func31, Try.ntmps31
  go_wp2_with fail
  refine HI.out.mono ?_
  rintro e w2 ⟨i, rfl, hi, hb2⟩
  rw [HB.out] at hi
  clear HI HB
  cases b with
  | true =>
    have h0 : 0 ≤ i := hi.2 rfl
    clear hi
    go_wp2
    go_ret
    exact ⟨rfl, hb2⟩
  | false =>
    have h0 : ¬ 0 ≤ i := fun h => by cases hi.1 h
    clear hi
    go_wp2
    go_ret
    exact ⟨by simp; omega, hb2⟩
end Go.Proofs.Ytmbfnhnemhojjaa
