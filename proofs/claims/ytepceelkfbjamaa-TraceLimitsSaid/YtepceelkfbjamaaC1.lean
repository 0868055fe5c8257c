/- put of the codec: a number's bytes are written into a part of an array. -/
import Derived.Test.YtepceelkfbjamaaC0
namespace Go.Proofs.Ytepceelkfbjamaa
open Go.RowKit Go.Proofs.YtepceelkfbjamaaW.PrintWords Go.Proofs.YtepceelkfbjamaaW.PrintLast Go.Proofs.YtepceelkfbjamaaW.PrintMore PTraceFilters FLib

def U8 (w : World) (q T : Nat) (bs : List Int) : Prop := w.heap[q]? = some (.cells (u8s bs).toArray T (0, 0))
theorem U8.cell {w : World} {q T : Nat} {bs : List Int} (h : U8 w q T bs) (i : Nat) (hi : i < bs.length) : w.cell? ⟨q, i, none⟩ = some (.int .u8 (bs.getD i 0)) := by
  rw [blk_cell h]; simp [u8s, List.getD, hi]
theorem U8.set {w : World} {q T : Nat} {bs : List Int} (h : U8 w q T bs) (i : Nat) (x : Int) : U8 (w.setCell ⟨q, i, none⟩ (.int .u8 x)) q T (bs.set i x) := by
  have := blk_set h i (.int .u8 x)
  unfold U8
  rw [this]
  simp [u8s, List.setIfInBounds_toArray, List.map_set]

set_option maxRecDepth 100000 in
set_option maxHeartbeats 1600000 in
theorem put8 (q T o n c : Nat) (bs : List Int) (v : Int) (w : World) (h : U8 w q T bs) (ho : o + n ≤ bs.length) (hn : n ≤ 8) (h0 : 0 ≤ v) (h1 : v < 2 ^ 64) :
    Calls Try.prog 40 #[.slice (some ⟨q, o, none⟩) n c, .int .u64 v] w fun e w' => e = .returned (.tuple #[]) ∧ U8 w' q T (splice bs o (le n v)) ∧ Keeps w w' (fun k => k = q) := by
  have HQ := Lib.hid h
  have hn8 : (n : Int) ≤ 8 := by omega
  have h1' : v ≤ 18446744073709551615 := by simp at h1; omega
  clear h h1
  go_enter Try.func40, Try.ntmps40
  go_wp2
  go_loopw [7] (fun i wr => ∃ k : Nat, k ≤ n ∧ i = .int .i64 k ∧ Hid (U8 wr q T (splice bs o (le k v))) ∧ Hid (Keeps w wr (fun k => k = q))) (fun i _ => n - (intOf i).toNat)
  case atStart => exact ⟨0, Nat.zero_le _, rfl, by rw [show le 0 v = [] from rfl, splice_nil]; exact HQ, Keeps.refl _ _⟩
  case round =>
    obtain ⟨k, hk, rfl, HU, HK⟩ := hrel
    by_cases hlt : k < n
    · have hl : (splice bs o (le k v)).length = bs.length := splice_len _ _ _ (by rw [le_length]; omega)
      have c0 := HU.out.cell (o + k) (by omega)
      have f0 : wr.frozen? ⟨q, o + k, none⟩ = false := blk_frozen HU.out _
      generalize (splice bs o (le k v)).getD (o + k) 0 = old at c0
      have hk8 : (k : Int) ≤ 7 := by omega
      have hi0 : (0 : Int) ≤ (k : Int) := by omega
      have hi1 : (k : Int) < (n : Int) := by omega
      clear hl
      go_wp2
      go_roundw
      case rel =>
        refine ⟨k + 1, by omega, by go_num, ?_, Lib.hid (HK.out.set _ _ (.inl rfl))⟩
        rw [shr_byte, le_succ, ← splice_set _ _ _ _ (by rw [le_length]; omega), le_length]
        exact Lib.hid (HU.out.set (o + k) _)
      case measure => simp [intOf]; omega
    · obtain rfl : k = n := by omega
      go_wp2
      go_end0
      exact ⟨rfl, HU.out, HK.out⟩
end Go.Proofs.Ytepceelkfbjamaa
