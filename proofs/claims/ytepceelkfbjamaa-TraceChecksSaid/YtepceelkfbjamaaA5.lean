/- The chapter's first example is met. -/
import Derived.Test.YtepceelkfbjamaaA4
namespace Go.Proofs.Ytepceelkfbjamaa
open Go.RowKit Go.Proofs.YtepceelkfbjamaaW.PrintWords Go.Proofs.YtepceelkfbjamaaW.PrintLast Go.Proofs.YtepceelkfbjamaaW.PrintMore PTraceFilters FLib

theorem newRing_at (n : Nat) (base : Nat) (w : World) (hb : base ≤ w.heap.size) (h1 : 1 ≤ n) (h2 : n ≤ 10000) :
    RingAt (w.alloc (.cells #[.slice none 0 0, .int .i64 0, .int .i64 n, .int .i64 0] 82)) w.heap.size base (.slice none 0 0) n ⟨[], 0, 0⟩ :=
  ⟨⟨blk_new _ _, Kd.R_nil _ _ _ _ _, hb, by simp; omega⟩, h1, h2, Nat.zero_le _, fun _ => rfl, fun h => by simp at h; omega⟩

theorem newRing_bad (n : Int) (w : World) (h : n < 1 ∨ 10000 < n) :
    Calls Try.prog 11 #[.int .i64 n] w fun e w' => e = .returned (.tuple #[.pointer none, .int .i64 34]) ∧ w' = w := by
  rcases h with h | h
  · go_enter Try.func11, Try.ntmps11
    go_wp2
    go_ret2
    exact ⟨rfl, rfl⟩
  · have h1 : ¬ n < 1 := by omega
    go_enter Try.func11, Try.ntmps11
    go_wp2
    go_ret2
    exact ⟨rfl, rfl⟩

theorem put_nil (A : Option Addr) (n c : Nat) (w : World) : Calls Try.prog 13 #[.pointer none, .slice A n c] w fun e w' => e = .returned (.int .i64 35) ∧ w' = w := by
  go_enter Try.func13, Try.ntmps13
  go_wp2
  go_ret
  exact ⟨rfl, rfl⟩
theorem events_nil (w : World) : Calls Try.prog 17 #[.pointer none] w fun e w' => e = .returned (.slice none 0 0) ∧ w' = w := by
  go_enter Try.func17, Try.ntmps17
  go_wp2
  go_ret
  exact ⟨rfl, rfl⟩
theorem lost_nil (w : World) : Calls Try.prog 19 #[.pointer none] w fun e w' => e = .returned (.int .i64 0) ∧ w' = w := by
  go_enter Try.func19, Try.ntmps19
  go_wp2
  go_ret
  exact ⟨rfl, rfl⟩

def ev1 : S47 := ⟨1, 0, 0, 0, 0, 0⟩
def ev2 : S47 := ⟨2, 0, 0, 0, 0, 0⟩
theorem lit2 (W : World) (q : Nat) (h : W.heap[q]? = some (.cells #[.int .i64 1, .int .i64 0, .int .i64 0, .int .i64 0, .int .i64 0, .int .i64 0, .int .i64 2, .int .i64 0, .int .i64 0, .int .i64 0, .int .i64 0, .int .i64 0] 47 (0, 0))) :
    Kd.C k47 W (some ⟨q, 0, none⟩) 2 [ev1, ev2] := by
  refine ⟨rfl, by decide, fun _ => ⟨_, rfl, fun j p hj => ?_⟩⟩
  match j, hj with
  | 0, hj =>
    obtain rfl : ev1 = p := by simpa using hj
    refine ⟨evCells ev1, rfl, k47_mk W ev1, fun j u hu => ?_⟩
    have hl : j < 6 := by have := (List.getElem?_eq_some_iff.1 hu).1; simpa [evCells] using this
    rw [add_plain, blk_cell h]
    match j, hl with
    | 0, _ | 1, _ | 2, _ | 3, _ | 4, _ | 5, _ => simpa [evCells, ev1] using hu
  | 1, hj =>
    obtain rfl : ev2 = p := by simpa using hj
    refine ⟨evCells ev2, rfl, k47_mk W ev2, fun j u hu => ?_⟩
    have hl : j < 6 := by have := (List.getElem?_eq_some_iff.1 hu).1; simpa [evCells] using this
    rw [add_plain, blk_cell h]
    match j, hl with
    | 0, _ | 1, _ | 2, _ | 3, _ | 4, _ | 5, _ => simpa [evCells, ev2, show k47.sz = 6 from rfl] using hu
  | j + 2, hj => simp at hj

set_option maxRecDepth 100000 in
set_option maxHeartbeats 1600000 in
theorem awake_any (w : World) : Calls Try.prog 10 #[] w fun e w' => e = .returned (.bool true) ∧ Below w.heap.size w w' := by
  go_enter Try.func10, Try.ntmps10
  go_wp2_with fail
  refine (newRing_ok 1 _ (by omega) (by omega)).mono ?_
  rintro e w1 ⟨rfl, rfl⟩
  have hr := newRing_at 1 w.heap.size w (Nat.le_refl _) (by omega) (by omega)
  go_wp2_with fail
  have hb := below_alloc (Below.refl (w.alloc (.cells #[.slice none 0 0, .int .i64 0, .int .i64 1, .int .i64 0] 82)).heap.size (w.alloc (.cells #[.slice none 0 0, .int .i64 0, .int .i64 1, .int .i64 0] 82)))
    (.cells #[.int .i64 1, .int .i64 0, .int .i64 0, .int .i64 0, .int .i64 0, .int .i64 0, .int .i64 2, .int .i64 0, .int .i64 0, .int .i64 0, .int .i64 0, .int .i64 0] 47)
  have hlit := blk_new (w.alloc (.cells #[.slice none 0 0, .int .i64 0, .int .i64 1, .int .i64 0] 82)) (.cells #[.int .i64 1, .int .i64 0, .int .i64 0, .int .i64 0, .int .i64 0, .int .i64 0, .int .i64 2, .int .i64 0, .int .i64 0, .int .i64 0, .int .i64 0, .int .i64 0] 47)
  refine (putAll w.heap.size w.heap.size (.slice none 0 0) 1 ⟨[], 0, 0⟩ (some ⟨w.heap.size + 1, 0, none⟩) 2 [ev1, ev2] _ (hr.below hb) (by simp) (fun W hk => lit2 W _ (hk.blk (by simpa using hlit) (by rintro (h | h) <;> simp [Value.ownBlock] at h)))).mono ?_
  rintro e w2 ⟨rfl, v2, hr2, hk2, -⟩
  have hB2 := ((Keeps.of_below (below_alloc (below_alloc (Below.refl w.heap.size w) _) _) (fun k => w.heap.size ≤ k)).trans hk2 (by
    rintro i (h | h)
    · exact .inl (by omega)
    · simp [Value.ownBlock] at h)).below (Nat.le_refl _) (fun _ h => h)
  have hr3 : RingAt w2 w.heap.size w.heap.size v2 1 ⟨[ev2], 0, 1⟩ := hr2
  have HR := Lib.hid hr3
  have HB := Lib.hid hB2
  clear hr2 hk2 hB2 hr hb hlit hr3
  go_wp2_with fail
  refine (events_any _ _ _ _ _ _ HR.out).mono ?_
  rintro e w3 ⟨v3, rfl, hR3, hB3⟩
  have hR4 : Kd.R k47 47 w3 w2.heap.size (fun _ => True) v3 [ev2] := hR3
  obtain ⟨gg, c, rfl, -⟩ := Kd.R_form hR4 (by simp)
  obtain ⟨cs, hcs, hM, hcc, hfr⟩ := Kd.R_elem hR4 z47 (0 : Int) (by omega) (by simp)
  obtain rfl := k47_openM hM
  have c0 := hcc 0 _ rfl
  simp at c0
  have HR3 := Lib.hid (HR.out.below hB3)
  have HB3 := Lib.hid (below_then HB.out HB.out.size hB3)
  clear hR3 hB3 hR4 hcs hM hcc hfr HR HB
  go_wp2_with (go_at_call 19; refine (lost_any _ _ _ _ _ _ HR3.out).mono ?_; rintro e w4 ⟨rfl, rfl⟩)
  go_ret
  exact ⟨rfl, HB3.out⟩
end Go.Proofs.Ytepceelkfbjamaa
