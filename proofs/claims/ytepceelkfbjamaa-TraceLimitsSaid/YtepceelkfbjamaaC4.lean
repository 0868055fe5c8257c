/- The reference's bytes and Encode. -/
import Derived.Test.YtepceelkfbjamaaC3
namespace Go.Proofs.Ytepceelkfbjamaa
open Go.RowKit Go.Proofs.YtepceelkfbjamaaW.PrintWords Go.Proofs.YtepceelkfbjamaaW.PrintLast Go.Proofs.YtepceelkfbjamaaW.PrintMore PTraceFilters FLib

theorem div_step (v : Int) (k : Nat) : v / 256 ^ k / 256 = v / 256 ^ (k + 1) := by
  have hp : (0 : Int) < 256 ^ k := Int.pow_pos (by omega)
  rw [Int.ediv_ediv, if_neg (by omega), Int.sub_zero, Int.pow_succ]
theorem div_range (v : Int) (k : Nat) (h0 : 0 ≤ v) (h1 : v ≤ 18446744073709551615) : 0 ≤ v / 256 ^ k ∧ v / 256 ^ k ≤ 18446744073709551615 := by
  have hp : (0 : Int) < 256 ^ k := Int.pow_pos (by omega)
  exact ⟨Int.ediv_nonneg h0 (by omega), Int.le_trans (Int.ediv_le_self _ h0) h1⟩

set_option maxRecDepth 100000 in
set_option maxHeartbeats 1600000 in
theorem bytes_any (v : Int) (n : Nat) (hn : n ≤ 8) (w : World) :
    Calls Try.prog 42 #[.int .i64 v, .int .i64 n] w fun e w' => ∃ r, e = .returned r ∧ Kd.R (Kd.int .u8) 5 w' w.heap.size (fun _ => True) r (le n (v % 18446744073709551616)) ∧ Below w.heap.size w w' := by
  have hn8 : (n : Int) ≤ 8 := by omega
  have hv : IntKind.u64.wrap v = v % 18446744073709551616 := by rw [IntKind.wrap_u64]
  obtain ⟨V, hV⟩ : ∃ V, v % 18446744073709551616 = V := ⟨_, rfl⟩
  rw [hV] at hv ⊢
  have hV0 : 0 ≤ V := by omega
  have hV1 : V ≤ 18446744073709551615 := by omega
  clear hV
  go_enter Try.func42, Try.ntmps42
  go_wp2
  clear hv
  go_loopw [5, 6, 7] (fun r u i wr => ∃ k : Nat, k ≤ n ∧ i = .int .i64 k ∧ (∃ U : Int, U = V / 256 ^ k ∧ u = .int .u64 U) ∧ Hid (Kd.R (Kd.int .u8) 5 wr w.heap.size (fun _ => True) r (le k V)) ∧ Hid (Below w.heap.size w wr)) (fun _ _ i _ => n - (intOf i).toNat)
  case atStart => exact ⟨0, Nat.zero_le _, rfl, ⟨V, by simp, rfl⟩, Kd.R_nil _ _ _ _ _, Below.refl _ _⟩
  case round =>
    obtain ⟨k, hk, rfl, ⟨U, hU, rfl⟩, HR, HB⟩ := hrel
    obtain ⟨hU0, hU1⟩ := div_range V k hV0 hV1
    rw [← hU] at hU0 hU1
    have HU := Lib.hid hU
    clear hU
    by_cases hlt : k < n
    · have hi1 : (k : Int) < (n : Int) := by omega
      have hl : (le k V).length = k := le_length _ _
      have HL := Lib.hid hl
      clear hl
      go_wp2_with (at_builtin; refine Kd.R_append (Kd.int .u8) (w0 := w) (W := wr) w.heap.size rfl (.tmp 15) (.tmp 19) 23 5 _ 1 rfl Try.underlying23 info5 rfl (by decide) (by decide) _ (le k V) (U % 256) [.int .u8 (U % 256)] (fun _ => True) (fun _ => False) rfl rfl rfl (fun _ h => h.elim) (fun _ _ => trivial) HR.out HB.out HB.out.size (by rw [HL.out]; omega) ?_; intro v1 w1 hR1 hB1 _ _)
      have HR1 : Hid (Kd.R (Kd.int .u8) 5 w1 w.heap.size (fun _ => True) v1 (le (k + 1) V)) := Lib.hid (by rw [le_succ]; unfold byteAt; rw [← HU.out]; exact hR1)
      have HB1 := Lib.hid hB1
      have HU1 : Hid (U / 256 = V / 256 ^ (k + 1)) := Lib.hid (by rw [HU.out]; exact div_step V k)
      clear hR1 hB1 HR HB
      go_wp2
      go_roundw
      case rel => exact ⟨k + 1, by omega, by go_num, ⟨U / 256, HU1.out, rfl⟩, HR1, HB1⟩
      case measure => simp [intOf]; omega
    · obtain rfl : k = n := by omega
      go_wp2
      go_ret
      exact ⟨_, rfl, HR.out, HB.out⟩
end Go.Proofs.Ytepceelkfbjamaa
