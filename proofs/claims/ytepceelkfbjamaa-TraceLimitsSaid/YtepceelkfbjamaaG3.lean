/- Check of events that are all zero: the call. -/
import Derived.Test.YtepceelkfbjamaaG2
namespace Go.Proofs.Ytepceelkfbjamaa
open Go.RowKit Go.Proofs.YtepceelkfbjamaaW.PrintWords Go.Proofs.YtepceelkfbjamaaW.PrintLast Go.Proofs.YtepceelkfbjamaaW.PrintMore PTraceFilters FLib

theorem CK.below {T base q : Nat} {w w' : World} {s : St} (h : CK T base w q s) (hb : Below w.heap.size w w') : CK T base w' q s := by
  obtain ⟨v, gb, ge, h1, h2, h3, h4, h5, h6, h7, h8⟩ := h.ex
  exact ⟨v, gb, ge, blk_below h1 hb, blk_below h2 hb, blk_below h3 hb, h4, h5, h6, h7, Kd.R_below h8 hb⟩
set_option maxRecDepth 100000 in
set_option maxHeartbeats 1600000 in
theorem check_long (A : Option Addr) (n c : Nat) (w : World) (h : 20000 < (n : Int)) :
    Calls Try.prog 29 #[.slice A n c, .int .i64 1, .int .i64 1] w fun e w' => e = .returned (.tuple #[.int .i64 0, .int .i64 0, .int .i64 18]) ∧ w = w' := by
  go_enter Try.func29, Try.ntmps29
  go_wp2
  go_ret3
  exact ⟨rfl, rfl⟩

set_option maxRecDepth 100000 in
set_option maxHeartbeats 3200000 in
theorem check_zero (A : Option Addr) (n c : Nat) (l : List S47) (w : World) (hC : Kd.C k47 w A n l) (hz : l.head? = some z47) (h : (n : Int) ≤ 20000) :
    Calls Try.prog 29 #[.slice A n c, .int .i64 1, .int .i64 1] w fun e w' => e = .returned (.tuple #[.int .i64 0, .int .i64 4, .int .i64 0]) ∧ Below w.heap.size w w' := by
  obtain rfl := Kd.C_len hC
  obtain ⟨l', rfl⟩ : ∃ l', l = z47 :: l' := by
    cases l with
    | nil => cases hz
    | cons x l' => simp at hz; exact ⟨l', by rw [hz]⟩
  have HC := Lib.hid hC
  have hlen : (z47 :: l').length = l'.length + 1 := rfl
  rw [hlen] at h ⊢
  have hcast : ((l'.length + 1 : Nat) : Int) = (l'.length : Int) + 1 := by omega
  have hpos : (0 : Int) < ((l'.length + 1 : Nat) : Int) := by omega
  generalize hN : l'.length + 1 = N at h hpos hC HC hlen ⊢
  clear hC hz hcast hlen
  have HN := Lib.hid hN
  clear hN
  go_enter Try.func29, Try.ntmps29
  go_wp2_with fail
  refine (newChecker_any 1 1 (by omega) (by omega) _).mono ?_
  rintro e w1 ⟨q, rfl, hCK, hb1⟩
  have HCK := Lib.hid hCK
  have HB1 := Lib.hid hb1
  clear hCK hb1
  go_wp2_with fail
  refine wp_loop_rounds 1 ?_
  rw [rounds_succ]
  have hCn := Kd.C_below HC.out HB1.out
  rw [show (z47 :: l').length = N from HN.out] at hCn
  obtain ⟨ad, rfl, c0, c1, c2, c3, c4, c5⟩ := at_T47 hCn 0 (by omega) (by omega)
  have hr0 : rd_T47 (z47 :: l') 0 = z47 := rfl
  have ha0 : ad.add ((0 : Int).toNat * 6) = ad := by unfold Addr.add; simp
  rw [hr0, ha0] at c0 c1 c2 c3 c4 c5
  clear hCn hr0 ha0
  simp only [z47] at c0 c1 c2 c3 c4 c5
  go_wp2_with fail
  refine (violates_zero q _ _ _ (HCK.out.below (below_alloc (Below.refl _ _) _)) rfl rfl rfl rfl).mono ?_
  rintro e w3 ⟨rfl, hb3⟩
  have HB3 := Lib.hid (below_then (below_alloc HB1.out (.cells #[.int .i64 0, .int .i64 0, .int .i64 0, .int .i64 0, .int .i64 0, .int .i64 0] 47)) (below_alloc HB1.out _).size hb3)
  clear hb3 c0 c1 c2 c3 c4 c5
  go_wp2
  go_ret3
  exact ⟨rfl, HB3.out⟩
end Go.Proofs.Ytepceelkfbjamaa
