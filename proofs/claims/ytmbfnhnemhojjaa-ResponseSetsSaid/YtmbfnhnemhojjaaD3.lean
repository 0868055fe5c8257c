/- The reference's table and tasks out of the program's. -/
import Derived.Test.YtmbfnhnemhojjaaD2
namespace Go.Proofs.Ytmbfnhnemhojjaa
set_option linter.unusedVariables false
set_option linter.unusedSimpArgs false
open Go.RowKit Go.Proofs.YtmbfnhnemhojjaaW.PrintWords Go.Proofs.YtmbfnhnemhojjaaW.PrintLast Go.Proofs.YtmbfnhnemhojjaaW.PrintMore PResponseCosts FLib
theorem hold_build36 (parts : Array (Nat × Value)) : Instr.build 36 parts = HeldBuild 36 parts := rfl
attribute [local go_sem ↓] hold_cells hold_from hold_store24 hold_store36 hold_build36
attribute [local go_sem] below_alloc_T below_drew_T below_drewN_T run_box run_box2 run_box6 run_boxAt run_held24 run_held36

theorem list24 {α : Type} {l : List α} (h : l.length = 24) : ∃ c0 c1 c2 c3 c4 c5 c6 c7 c8 c9 c10 c11 c12 c13 c14 c15 c16 c17 c18 c19 c20 c21 c22 c23 : α, l = [c0, c1, c2, c3, c4, c5, c6, c7, c8, c9, c10, c11, c12, c13, c14, c15, c16, c17, c18, c19, c20, c21, c22, c23] := by
  match l, h with
  | [c0, c1, c2, c3, c4, c5, c6, c7, c8, c9, c10, c11, c12, c13, c14, c15, c16, c17, c18, c19, c20, c21, c22, c23], _ => exact ⟨c0, c1, c2, c3, c4, c5, c6, c7, c8, c9, c10, c11, c12, c13, c14, c15, c16, c17, c18, c19, c20, c21, c22, c23, rfl⟩
theorem run_build36 (t : Tab) (h : t.costs.length = 24) (w : World) : (HeldBuild 36 #[(0, .int .i64 t.sec), (1, .int .i64 t.copy), (2, .agg (ints t.costs).toArray)]).run Try.prog w = .ok (.agg (tabCells t).toArray) w := by
  obtain ⟨sec, copy, costs⟩ := t
  obtain ⟨c0, c1, c2, c3, c4, c5, c6, c7, c8, c9, c10, c11, c12, c13, c14, c15, c16, c17, c18, c19, c20, c21, c22, c23, rfl⟩ := list24 h
  kernel_rfl

theorem run_held36' {W : World} {cs : Array Value} {g : Nat} (hg : g = W.heap.size) (hs : cs.size = 26) (h1 : One cs) : (HeldStore 36 ⟨g, 0, none⟩ (.agg cs)).run Try.prog (W.alloc (.cells #[.int .i64 0, .int .i64 0, .int .i64 0, .int .i64 0, .int .i64 0, .int .i64 0, .int .i64 0, .int .i64 0, .int .i64 0, .int .i64 0, .int .i64 0, .int .i64 0, .int .i64 0, .int .i64 0, .int .i64 0, .int .i64 0, .int .i64 0, .int .i64 0, .int .i64 0, .int .i64 0, .int .i64 0, .int .i64 0, .int .i64 0, .int .i64 0, .int .i64 0, .int .i64 0] 36)) = .ok () (W.alloc (.cells cs 36)) := by
  subst hg
  exact run_held36 hs h1
attribute [local go_sem] run_held36'
set_option maxRecDepth 100000 in
set_option maxHeartbeats 400000 in
theorem fromTab_any (t : Tab) (ht : t.costs.length = 24) (w : World) : Calls Try.prog 12 #[tabV t] w fun e w' => e = .returned (tabV t) ∧ Below w.heap.size w w' := by
  have HB36 := Lib.hid (run_build36 t ht)
  have HTC := Lib.hid (tabC' ht)
  have HCO := Lib.hid (fun j v h => tab_cost t j v h)
  have hlen : (ints t.costs).toArray.size = 24 := by simp [ints, ht]
  unfold tabV
  generalize (tabCells t).toArray = cs at HB36 HTC HCO ⊢
  have hsz := HTC.out.size
  have hone : One cs := HTC.out.one
  have h0 := HTC.out.sec
  have h1 := HTC.out.copy
  obtain ⟨a24, ha⟩ : ∃ a, (ints t.costs).toArray = a := ⟨_, rfl⟩
  rw [ha] at HB36 hlen
  have k22 : ∀ zs, RunCells Try.prog ⟨w.heap.size, 2, none⟩ 24 ((w.alloc (.cells cs 24)).alloc (.cells zs 36)) = .ok a24 ((w.alloc (.cells cs 24)).alloc (.cells zs 36)) := fun zs => by
    have hl := runCells_list (P := Try.prog) ((w.alloc (.cells cs 24)).alloc (.cells zs 36)) ⟨w.heap.size, 2, none⟩ a24.toList (fun j v hv => by rw [add_mk, blk_cell (blk_alloc (blk_new w (.cells cs 24)) (.cells zs 36))]; exact HCO.out j v (by rw [← ha] at hv; simpa using hv))
    rw [Array.length_toList, hlen] at hl
    simpa using hl
  have hb := HB36.out
  have g0 : cs[0]'(by omega) = .int .i64 t.sec := by rw [Array.getElem?_eq_getElem (by omega)] at h0; exact Option.some.inj h0
  have g1 : cs[1]'(by omega) = .int .i64 t.copy := by rw [Array.getElem?_eq_getElem (by omega)] at h1; exact Option.some.inj h1
  clear ha
  clear ht hlen
  go_enter Try.func12, Try.ntmps12
  go_wp2
  have hrr := run_boxAt (P := Try.prog) (w := w.alloc (.cells cs 24)) (cs := cs) (ty := 36) (n := 26) (g := w.heap.size + 1) (by simp) hsz
  refine bodyPost_ret (v := .agg cs) (by simp [results, Try.results12, go_sem, hrr]) rfl ?_
  exact ⟨rfl, below_alloc (below_alloc (Below.refl _ _) _) _⟩

set_option maxRecDepth 100000 in
set_option maxHeartbeats 400000 in
theorem fromTasks_any (A : Option Addr) (c : Nat) (l : List S33) (h20 : l.length ≤ 20) (w : World) (hC : Kd.C k33 w A l.length l) :
    Calls Try.prog 13 #[.slice A l.length c] w fun e w' => ∃ v, e = .returned v ∧ Kd.R k33 43 w' w.heap.size (fun _ => True) v l ∧ Below w.heap.size w w' := by
  have HC := Lib.hid hC
  have hlen : (l.length : Int) ≤ 20 := by omega
  clear hC
  go_enter Try.func13, Try.ntmps13
  go_wp2
  go_loopw [3, 4] (fun r i wr => ∃ k : Nat, k ≤ l.length ∧ i = .int .i64 k ∧ Hid (Kd.R k33 43 wr w.heap.size (fun _ => True) r (l.take k)) ∧ Below w.heap.size w wr) (fun _ i _ => l.length - (intOf i).toNat)
  case atStart => exact ⟨0, Nat.zero_le _, rfl, Lib.hid (Kd.R_nil _ _ _ _ _), Below.refl _ _⟩
  case round =>
    obtain ⟨k, hk, rfl, HR, hBr⟩ := hrel
    by_cases hlt : k < l.length
    · obtain ⟨ad, rfl, lk, -⟩ := tasks_at HC.out k hlt
      have hi0 : (0 : Int) ≤ (k : Int) := by omega
      have hi1 : (k : Int) < (l.length : Int) := by omega
      have HTS : Hid (l.take (k + 1) = l.take k ++ [tk l k]) := Lib.hid (by rw [List.take_add_one, tk_get hlt]; rfl)
      have HLK : Hid ((l.take k).length = k) := Lib.hid (by rw [List.length_take]; omega)
      generalize tk l k = x at lk HTS
      go_wp2_with (at_builtin; refine Kd.R_append k33 (w0 := w) (W := wr) w.heap.size rfl (.tmp 11) (.tmp 16) 38 43 _ 48 rfl Try.underlying38 info43 rfl (by decide) (by decide) _ (l.take k) x (tkCells x) (fun _ => True) (fun _ => False) rfl rfl (k33_mkM _ _ _ x) (fun _ h => h.elim) (fun _ _ => trivial) HR.out hBr hBr.size (by rw [HLK.out]; omega) ?_; intro v1 w1 hR1 hB1 _ _)
      have HR1 := Lib.hid hR1
      rw [← HTS.out] at HR1
      clear hR1
      go_roundw
      case rel => exact ⟨k + 1, by omega, by go_num, HR1, hB1⟩
      case measure => simp [intOf]; omega
    · obtain rfl : k = l.length := by omega
      go_wp2
      go_ret
      exact ⟨_, rfl, by have := HR.out; rwa [List.take_length] at this, hBr⟩
end Go.Proofs.Ytmbfnhnemhojjaa
