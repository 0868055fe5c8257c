/- Check of events that are all zero. -/
import Derived.Test.YtepceelkfbjamaaG1
import Derived.BigQuiet
namespace Go.Proofs.Ytepceelkfbjamaa
open Go.RowKit Go.Proofs.YtepceelkfbjamaaW.PrintWords Go.Proofs.YtepceelkfbjamaaW.PrintLast Go.Proofs.YtepceelkfbjamaaW.PrintMore PTraceFilters FLib

set_option maxRecDepth 100000 in
set_option maxHeartbeats 1600000 in
theorem shaped_zero (q : Nat) (A B : Option Addr) (c d : Nat) (w : World) (hq : q < w.heap.size) (h0 : w.cell? ⟨q, 0, none⟩ = some (.slice A 1 c)) (h1 : w.cell? ⟨q, 1, none⟩ = some (.slice B 1 d)) :
    Calls Try.prog 60 #[.pointer (some ⟨q, 0, none⟩), evV z47] w fun e w' => e = .returned (.bool true) ∧ Below w.heap.size w w' := by
  unfold evV z47
  go_enter Try.func60, Try.ntmps60
  go_wp2_with (first | (go_at_call 35; refine (isKind_eq _ true rfl _).mono ?_; rintro e w' ⟨rfl, rfl⟩) | fail)
  go_quiet (fail)
  go_wp2
  go_quiet (fail)
  go_wp2
  go_ret
  exact ⟨rfl, pw_below_drewN (below_alloc (Below.refl _ _) _) _⟩

set_option maxRecDepth 100000 in
set_option maxHeartbeats 3200000 in
theorem violates_zero (q : Nat) (s : St) (base : Nat) (w : World) (hCK : CK 115 base w q s) (hr : s.runs = [-1]) (hb : s.blk = [false]) (he : s.ended = [false]) (ht : s.time = 0) :
    Calls Try.prog 47 #[.pointer (some ⟨q, 0, none⟩), evV z47] w fun e w' => e = .returned (.int .i64 4) ∧ Below w.heap.size w w' := by
  obtain ⟨v, gb, ge, hqq, -, -, -, -, -, -, hR⟩ := hCK.ex
  rw [hr] at hR
  rw [hb, he, ht] at hqq
  obtain ⟨A, c, rfl, -, hC⟩ := Kd.R_reads hR
  obtain ⟨ad, cs, hA, -, hK, hcs⟩ := Kd.C_get hC 0 0 (by omega) (by simp)
  subst hA
  have f0 : w.cell? ⟨q, 0, none⟩ = some (.slice (some ad) 1 c) := blk_cell hqq 0
  have f1 : w.cell? ⟨q, 1, none⟩ = some (.slice (some ⟨gb, 0, none⟩) 1 1) := blk_cell hqq 1
  have f3 : w.cell? ⟨q, 3, none⟩ = some (.int .i64 0) := blk_cell hqq 3
  have hq : q < w.heap.size := blk_lt hqq
  have hK2 : cs = [.int .i64 (-1)] := hK
  subst hK2
  have fa0 := hcs 0 _ rfl
  have fa : w.cell? ad = some (.int .i64 (-1)) := by
    have e0 : ad.add 0 = ad := by unfold Addr.add; simp
    simpa [e0] using fa0
  clear fa0 hcs hK hR hC hqq hr hb he ht hCK
  have hua : evV z47 = .agg #[.int .i64 0, .int .i64 0, .int .i64 0, .int .i64 0, .int .i64 0, .int .i64 0] := rfl
  rw [hua]
  go_enter Try.func47, Try.ntmps47
  go_wp2
  go_quiet (fail)
  go_wp2_with fail
  have hbx : Below w.heap.size w (((w.alloc (.cells #[.pointer (some ⟨q, 0, none⟩)] 95)).alloc (.cells #[.int .i64 0, .int .i64 0, .int .i64 0, .int .i64 0, .int .i64 0, .int .i64 0] 47)).drewN nq) := pw_below_drewN (below_alloc (below_alloc (Below.refl _ _) _) _) _
  have k0 : (((w.alloc (.cells #[.pointer (some ⟨q, 0, none⟩)] 95)).alloc (.cells #[.int .i64 0, .int .i64 0, .int .i64 0, .int .i64 0, .int .i64 0, .int .i64 0] 47)).drewN nq).heap[w.heap.size]? = some (.cells #[.pointer (some ⟨q, 0, none⟩)] 95 (0, 0)) := blk_below (blk_alloc (blk_new w _) _) (pw_below_drewN (Below.refl _ _) nq)
  have k1 : (((w.alloc (.cells #[.pointer (some ⟨q, 0, none⟩)] 95)).alloc (.cells #[.int .i64 0, .int .i64 0, .int .i64 0, .int .i64 0, .int .i64 0, .int .i64 0] 47)).drewN nq).heap[w.heap.size + 1]? = some (.cells #[.int .i64 0, .int .i64 0, .int .i64 0, .int .i64 0, .int .i64 0, .int .i64 0] 47 (0, 0)) := by
    have := blk_new (w.alloc (.cells #[.pointer (some ⟨q, 0, none⟩)] 95)) (.cells #[.int .i64 0, .int .i64 0, .int .i64 0, .int .i64 0, .int .i64 0, .int .i64 0] 47)
    rw [show (w.alloc (.cells #[.pointer (some ⟨q, 0, none⟩)] 95)).heap.size = w.heap.size + 1 by simp] at this
    exact blk_below this (pw_below_drewN (Below.refl _ _) nq)
  generalize (((w.alloc (.cells #[.pointer (some ⟨q, 0, none⟩)] 95)).alloc (.cells #[.int .i64 0, .int .i64 0, .int .i64 0, .int .i64 0, .int .i64 0, .int .i64 0] 47)).drewN nq) = W1 at hbx k0 k1 ⊢
  refine (shaped_zero q _ _ _ _ W1 (Nat.lt_of_lt_of_le hq hbx.size) (pw_cell_below hbx f0) (pw_cell_below hbx f1)).mono ?_
  rintro e W2 ⟨rfl, hb2⟩
  have hbb := below_then hbx hbx.size hb2
  have m0 := blk_below k0 hb2
  have m1 := blk_below k1 hb2
  have g0 := pw_cell_below hbb f0
  have g1 := pw_cell_below hbb f1
  have g3 := pw_cell_below hbb f3
  have ga := pw_cell_below hbb fa
  have n0 : W2.cell? ⟨w.heap.size, 0, none⟩ = some (.pointer (some ⟨q, 0, none⟩)) := blk_cell m0 0
  have x0 : W2.cell? ⟨w.heap.size + 1, 0, none⟩ = some (.int .i64 0) := blk_cell m1 0
  have x1 : W2.cell? ⟨w.heap.size + 1, 1, none⟩ = some (.int .i64 0) := blk_cell m1 1
  have x2 : W2.cell? ⟨w.heap.size + 1, 2, none⟩ = some (.int .i64 0) := blk_cell m1 2
  have x3 : W2.cell? ⟨w.heap.size + 1, 3, none⟩ = some (.int .i64 0) := blk_cell m1 3
  have x4 : W2.cell? ⟨w.heap.size + 1, 4, none⟩ = some (.int .i64 0) := blk_cell m1 4
  have HBB := Lib.hid hbb
  clear m0 m1 hb2 hbb k0 k1 hbx f0 f1 f3 fa hua hq
  go_wp2
  go_quiet (fail)
  go_wp2
  go_quiet (fail)
  go_wp2
  go_ret
  refine ⟨rfl, ?_⟩
  exact pw_below_drewN (pw_below_drewN HBB.out _) _
end Go.Proofs.Ytepceelkfbjamaa
