/- The reference: greatest, blocking, right, Check. -/
import Derived.Test.YtmbfnhnemhojjaaC1
namespace Go.Proofs.Ytmbfnhnemhojjaa
set_option linter.unusedVariables false
set_option linter.unusedSimpArgs false
open Go.RowKit Go.Proofs.YtmbfnhnemhojjaaW.PrintWords Go.Proofs.YtmbfnhnemhojjaaW.PrintLast Go.Proofs.YtmbfnhnemhojjaaW.PrintMore PResponseCosts FLib
attribute [local go_sem ↓] hold_cells hold_from
attribute [local go_sem] below_alloc_T below_drew_T below_drewN_T run_box run_box2 run_box6

def gIdx (k : Nat) : Nat := [13, 1, 6, 7, 23].getD k 0
def gAt (t : Tab) (k : Nat) : Int := (List.range k).foldl (fun n j => mx2 n (cAt t (gIdx j))) 0
theorem gAt_succ (t : Tab) (k : Nat) : gAt t (k + 1) = mx2 (gAt t k) (cAt t (gIdx k)) := by unfold gAt; rw [List.range_succ, List.foldl_append]; rfl
theorem gAt_great {t : Tab} (ht : TOk t) : gAt t 5 = greatI t := by
  have := ht.cost 13 (by omega)
  rw [gAt_succ, gAt_succ, gAt_succ, gAt_succ, gAt_succ]
  have e : mx2 (gAt t 0) (cAt t (gIdx 0)) = cAt t 13 := by
    show mx2 0 (cAt t 13) = _
    unfold mx2
    rw [if_pos (by omega)]
  rw [e]
  rfl

set_option maxRecDepth 100000 in
set_option maxHeartbeats 1000000 in
theorem rgreat_any (cs : Array Value) (t : Tab) (h : TabC cs t) (ht : TOk t) (w : World) :
    Calls Try.prog 61 #[.agg cs] w fun e w' => e = .returned (.int .i64 (greatI t)) ∧ Below w.heap.size w w' := by
  rw [← gAt_great ht]
  have HC := Lib.hid h.cost
  clear h ht
  go_enter Try.func61, Try.ntmps61
  go_wp2
  refine abs_w (fun W => W.heap[w.heap.size]? = some (.cells cs 36 (0, 0)) ∧ W.heap[w.heap.size + 1]? = some (.cells #[.int .i64 13, .int .i64 1, .int .i64 6, .int .i64 7, .int .i64 23] 3 (0, 0)) ∧ Below w.heap.size w W) ⟨blk_alloc (blk_new _ _) _, by simpa using blk_new (w.alloc (.cells cs 36)) (.cells #[.int .i64 13, .int .i64 1, .int .i64 6, .int .i64 7, .int .i64 23] 3), below_alloc (below_alloc (Below.refl _ _) _) _⟩ ?_
  rintro W ⟨hq0, hq1, hB⟩
  have HB := Lib.hid hB
  generalize w.heap.size + 1 = q1 at hq1 ⊢
  generalize w.heap.size = q at hq0 ⊢
  have HQ := Lib.hid hq0
  have HQ1 := Lib.hid hq1
  clear hq0 hq1 hB
  go_loop [3, 5] (fun n i => ∃ k : Nat, k ≤ 5 ∧ i = .int .i64 k ∧ n = .int .i64 (gAt t k)) (fun _ i => 5 - (intOf i).toNat)
  case atStart => exact ⟨0, Nat.zero_le _, rfl, rfl⟩
  case round =>
    obtain ⟨k, hk, rfl, rfl⟩ := hrel
    by_cases hlt : k < 5
    · have hg : gIdx k < 24 := by
        have : k = 0 ∨ k = 1 ∨ k = 2 ∨ k = 3 ∨ k = 4 := by omega
        rcases this with rfl | rfl | rfl | rfl | rfl <;> decide
      have hv : (#[Value.int .i64 13, .int .i64 1, .int .i64 6, .int .i64 7, .int .i64 23] : Array Value)[k]? = some (.int .i64 (gIdx k)) := by
        have : k = 0 ∨ k = 1 ∨ k = 2 ∨ k = 3 ∨ k = 4 := by omega
        rcases this with rfl | rfl | rfl | rfl | rfl <;> rfl
      have hx := (blk_cell HQ1.out k).trans hv
      have hy := (blk_cell HQ.out (2 + gIdx k)).trans (HC.out _ hg)
      have HS := Lib.hid (gAt_succ t k)
      generalize gAt t k = n at HS ⊢
      generalize gIdx k = g at hg hx hy HS
      generalize cAt t g = c at hy HS
      have hi0 : (0 : Int) ≤ (k : Int) := by omega
      have hi1 : (k : Int) < 5 := by omega
      have hg0 : (0 : Int) ≤ (g : Int) := by omega
      have hg1 : (g : Int) < 24 := by omega
      clear hv
      by_cases hc : n < c
      · go_wp2
        go_round
        case rel => exact ⟨k + 1, by omega, by go_num, by rw [HS.out]; unfold mx2; rw [if_pos hc]⟩
        case measure => simp [intOf]; omega
      · go_wp2
        go_round
        case rel => exact ⟨k + 1, by omega, by go_num, by rw [HS.out]; unfold mx2; rw [if_neg hc]⟩
        case measure => simp [intOf]; omega
    · obtain rfl : k = 5 := by omega
      go_wp2
      go_ret
      exact ⟨rfl, HB.out⟩

/-- A task's cells at an index, in every later world. -/
theorem task_cells {W : World} {A : Option Addr} {n : Nat} {l : List S33} (h : Kd.C k33 W A n l) (k : Nat) (hk : k < n) : ∃ ad, A = some ad ∧ (∀ w', Below W.heap.size W w' → RunCells Try.prog (ad.add (k * 6)) 6 w' = .ok #[.int .i64 (tk l k).f0, .int .i64 (tk l k).f1, .int .i64 (tk l k).f2, .int .i64 (tk l k).f3, .int .i64 (tk l k).f4, .int .i64 (tk l k).f5] w') ∧
    (∀ w', Below W.heap.size W w' → w'.cell? (ad.add (k * 6)) = some (.int .i64 (tk l k).f0)) ∧
    (∀ w', Below W.heap.size W w' → w'.cell? ⟨(ad.add (k * 6)).block, (ad.add (k * 6)).off + 1, none⟩ = some (.int .i64 (tk l k).f1)) ∧
    (∀ w', Below W.heap.size W w' → w'.cell? ⟨(ad.add (k * 6)).block, (ad.add (k * 6)).off + 2, none⟩ = some (.int .i64 (tk l k).f2)) ∧
    (∀ w', Below W.heap.size W w' → w'.cell? ⟨(ad.add (k * 6)).block, (ad.add (k * 6)).off + 5, none⟩ = some (.int .i64 (tk l k).f5)) := by
  obtain ⟨ad, rfl, h1, h2⟩ := tasks_at h k hk
  obtain ⟨ad', e, c0, c1, c2, c3, c4, c5⟩ := at_T33 h (k : Int) (by omega) (by omega)
  obtain rfl : ad = ad' := by simpa using e
  simp only [Int.toNat_natCast] at c1 c2 c5
  have e1 : rd_T33 l (k : Int) = tk l k := by simp [rd_T33, tk]
  rw [e1] at c1 c2 c5
  exact ⟨ad, rfl, h1, h2, later_cell c1, later_cell c2, later_cell c5⟩

set_option maxRecDepth 100000 in
set_option maxHeartbeats 1000000 in
theorem rblock_any (cs : Array Value) (t : Tab) (h : TabC cs t) (ht : TOk t) (A : Option Addr) (c : Nat) (l : List S33) (hl : ∀ x ∈ l, TkOk x) (h12 : l.length ≤ 12) (i : Nat) (hi : i < l.length) (w : World) (hC : Kd.C k33 w A l.length l) :
    Calls Try.prog 39 #[.agg cs, .slice A l.length c, .int .i64 i] w fun e w' => e = .returned (.int .i64 (blockI t l i)) ∧ Below w.heap.size w w' := by
  have hsec := h.sec
  have h6 := h.cost 6 (by omega)
  have h7 := h.cost 7 (by omega)
  obtain ⟨b6, b6'⟩ := ht.cost 6 (by omega)
  obtain ⟨b7, b7'⟩ := ht.cost 7 (by omega)
  obtain ⟨bs, bs'⟩ := ht.sec
  have HE := Lib.hid (fun x => (show critI t x = if x.f5 = 0 then 0 else cAt t 6 + x.f5 + cAt t 7 from rfl))
  have HT := Lib.hid ht
  have HL := Lib.hid hl
  have HP := Lib.hid (fun k => block_le ht (tk l i).f0 (l.take k) t.sec (fun x hx => hl x (List.mem_of_mem_take hx)))
  have HS := Lib.hid h.size
  have HC := Lib.hid hC
  clear ht hl h hC
  unfold blockI
  generalize cAt t 6 = c6 at h6 b6 b6' HE
  generalize cAt t 7 = c7 at h7 b7 b7' HE
  simp only [Nat.reduceAdd] at h6 h7
  obtain ⟨p, hp⟩ : ∃ p, (tk l i).f0 = p := ⟨_, rfl⟩
  rw [hp] at HP ⊢
  have HPE := Lib.hid hp
  have hlen : (l.length : Int) ≤ 12 := by omega
  clear hp
  have H6 := Lib.hid h6
  have H7 := Lib.hid h7
  go_enter Try.func39, Try.ntmps39
  go_wp2
  clear h6 h7 hsec
  refine abs_w (fun W => W.heap[w.heap.size]? = some (.cells cs 36 (0, 0)) ∧ Below w.heap.size w W) ⟨blk_new _ _, below_alloc (Below.refl _ _) _⟩ ?_
  rintro W ⟨hq0, hB⟩
  have HCW := Lib.hid (Kd.C_below HC.out hB)
  have HB := Lib.hid hB
  generalize w.heap.size = q at hq0 ⊢
  have k6 := later_cell ((blk_cell hq0 8).trans H6.out)
  have k7 := later_cell ((blk_cell hq0 9).trans H7.out)
  clear hq0 hB
  go_loopw [7, 8] (fun n i wr => ∃ k : Nat, k ≤ l.length ∧ i = .int .i64 k ∧ n = .int .i64 ((l.take k).foldl (blockF t p) t.sec) ∧ Below W.heap.size W wr) (fun _ i _ => l.length - (intOf i).toNat)
  case atStart => exact ⟨0, Nat.zero_le _, rfl, rfl, Below.refl _ _⟩
  case round =>
    obtain ⟨k, hk, rfl, rfl, hBr⟩ := hrel
    by_cases hlt : k < l.length
    · obtain ⟨ad, rfl, -, lk, -, -, l5⟩ := task_cells HCW.out k hlt
      obtain ⟨ad', he, -, li, -⟩ := task_cells HCW.out i hi
      obtain rfl : ad = ad' := by simpa using he
      clear he
      have hts := take_foldl (blockF t p) t.sec l k (tk l k) (tk_get hlt)
      have hx5 := (HL.out _ (tk_mem hlt)).f5
      obtain ⟨n0, n1⟩ := HP.out k
      have hlk : (l.take k).length ≤ k := List.length_take_le _ _
      have HEX := Lib.hid (HE.out (tk l k))
      rw [HPE.out] at li
      generalize (l.take k).foldl (blockF t p) t.sec = n at hts n0 n1 ⊢
      generalize tk l k = x at lk l5 hts hx5 HEX
      obtain ⟨x0, x1⟩ := hx5
      have HTS := Lib.hid hts
      have hi0 : (0 : Int) ≤ (k : Int) := by omega
      have hi1 : (k : Int) < (l.length : Int) := by omega
      have hi2 : (0 : Int) ≤ (i : Int) := by omega
      have hi3 : (i : Int) < (l.length : Int) := by omega
      clear hts
      by_cases hp : x.f0 < p
      · by_cases hz : 0 < x.f5
        · go_wp2
          go_quiet (fail)
          go_wp2
          have v1 : IntKind.i64.wrap (c6 + c7) = c6 + c7 := IntWalk.i64_in _ (by omega)
          have v2 : IntKind.i64.wrap (c6 + c7 + x.f5) = c6 + c7 + x.f5 := IntWalk.i64_in _ (by omega)
          have v3 : IntKind.i64.wrap (n + (c6 + c7 + x.f5)) = n + (c6 + c7 + x.f5) := IntWalk.i64_in _ (by omega)
          go_quiet (fail)
          clear v1 v2 v3
          go_wp2
          go_roundw
          case rel => exact ⟨k + 1, by omega, by go_num, by rw [HTS.out]; unfold blockF; rw [if_pos hp, HEX.out, if_neg (by omega)]; congr 1; omega, by first | exact pw_below_drewN hBr _ | exact pw_below_drewN (pw_below_drewN hBr _) _⟩
          case measure => simp [intOf]; omega
        · go_wp2
          go_quiet (fail)
          go_wp2
          go_roundw
          case rel => exact ⟨k + 1, by omega, by go_num, by rw [HTS.out]; unfold blockF; rw [if_pos hp, HEX.out, if_pos (by omega)]; congr 1; omega, by first | exact pw_below_drewN hBr _ | exact pw_below_drewN (pw_below_drewN hBr _) _⟩
          case measure => simp [intOf]; omega
      · have hd : decide (x.f0 < p) = false := by simpa using hp
        go_wp2
        go_quiet (fail)
        go_wp2
        go_roundw
        case rel => exact ⟨k + 1, by omega, by go_num, by rw [HTS.out]; unfold blockF; rw [if_neg (by omega)], by first | exact pw_below_drewN hBr _ | exact pw_below_drewN (pw_below_drewN hBr _) _⟩
        case measure => simp [intOf]; omega
    · obtain rfl : k = l.length := by omega
      rw [List.take_length]
      go_wp2
      go_ret
      exact ⟨rfl, below_step HB.out hBr⟩
end Go.Proofs.Ytmbfnhnemhojjaa
