/- TraceLimits: the walk of the law. -/
import Derived.Test.YtepceelkfbjamaaG3
namespace Go.Proofs.Ytepceelkfbjamaa
open Go.RowKit Go.Proofs.YtepceelkfbjamaaW.PrintWords Go.Proofs.YtepceelkfbjamaaW.PrintLast Go.Proofs.YtepceelkfbjamaaW.PrintMore PTraceFilters FLib

theorem dec_zero (b : List Int) (hb : b = List.replicate 800000 0) : Dec b 0 0 (evs b 20000) := by
  have hlen : b.length = 800000 := by rw [hb, List.length_replicate]
  refine .all 20000 (by omega) (fun j hj => ?_) (by omega)
  have : recAt b j = List.replicate 40 0 := by
    unfold recAt
    rw [hb, List.drop_replicate, List.take_replicate, show min 40 (800000 - 40 * j) = 40 by omega]
  rw [this]
  decide +kernel
theorem u8_zero (w : World) (base : Nat) : (Kd.int .u8).M w base (fun _ => False) 0 (Value.int .u8 0).cells.toList := rfl


set_option maxRecDepth 100000 in
set_option maxHeartbeats 600000 in
theorem limits_in (cap : Int) (w : World) :
    Calls Try.prog 8 #[.bool false, .int .i64 cap] w fun e w' => e = .returned (.bool true) ∧ Below w.heap.size w w' := by
  go_enter Try.func8, Try.ntmps8
  go_wp2_with (first
    | (at_make; refine Kd.R_make k47 (w0 := w) w.heap.size 47 rfl rfl 22 (.tmp 20) (.tmp 20) rfl 20000 rfl rfl Try.underlying22 _ 48 info47 rfl (by decide) (by decide) z47 (ok := fun _ => True) (ev_zero _ _) (fun _ h => h.elim) trivial (by omega) (by decide) (Below.refl _ _) (Nat.le_refl _) ?_; intro v1 w1 hR1 hb1 _ _
       generalize hl : List.replicate (20000 : Int).toNat z47 = l at hR1
       obtain ⟨A1, c1, rfl, hC1⟩ := R_slice' hR1
       have hlen : l.length = 20000 := by rw [← hl, List.length_replicate]; rfl
       have hmem : ∀ x ∈ l, x = z47 := fun x hx => by rw [← hl] at hx; exact List.eq_of_mem_replicate hx
       rw [hlen] at hC1
       have HC1 := Lib.hid hC1
       have HB1 := Lib.hid hb1
       have HLEN := Lib.hid hlen
       have HM := Lib.hid hmem
       clear hR1 hb1 hl hC1 hmem)
    | fail)
  have hgood : l.any (fun x => !recB x) = false := by
    rw [List.any_eq_false]
    intro x hx
    rw [HM.out x hx]
    decide +kernel
  have h64 : ∀ x ∈ l, Ev64 x := by
    intro x hx
    rw [HM.out x hx]
    refine ⟨?_, ?_, ?_, ?_, ?_, ?_⟩ <;> decide +kernel
  have HE0 := Lib.hid (encCode_good hgood)
  have H64 := Lib.hid h64
  clear hgood h64
  refine (encode_post _ 20000 _ l _ HC1.out H64.out (by omega)).mono ?_
  rintro e w2 ⟨hb2, A2, n2, c2, rfl, -, -⟩
  rw [HE0.out]
  have HB2 := Lib.hid (below_then HB1.out HB1.out.size hb2)
  have HC2 := Lib.hid (Kd.C_below HC1.out hb2)
  have hhead : l.head? = some z47 := by
    cases l with
    | nil => have := HLEN.out; simp at this
    | cons x l' => rw [HM.out x (by simp)]; rfl
  have HH := Lib.hid hhead
  clear hhead hb2
  go_wp2_with fail
  refine (check_zero _ _ _ l _ HC2.out HH.out (by omega)).mono ?_
  rintro e w3 ⟨rfl, hb3⟩
  have HB3 := Lib.hid (below_then HB2.out HB2.out.size hb3)
  clear hb3 HC1 HC2 HB1 HB2
  go_wp2_with (first
    | (at_make; refine Kd.R_make (Kd.int .u8) (w0 := w) w.heap.size 5 rfl rfl 23 (.tmp 35) (.tmp 35) rfl 800000 rfl rfl Try.underlying23 _ 1 info5 rfl (by decide) (by decide) 0 (ok := fun _ => True) (u8_zero _ _) (fun _ h => h.elim) trivial (by omega) (by decide) HB3.out HB3.out.size ?_; intro v4 w4 hR4 hb4 _ _
       generalize hl4 : List.replicate (800000 : Int).toNat (0 : Int) = b at hR4
       obtain ⟨A4, c4, rfl, hcc, hC4⟩ := Kd.R_reads hR4
       have hlen4 : b.length = 800000 := by rw [← hl4, List.length_replicate]; decide
       have hmem4 : Bytes b := fun x hx => by rw [← hl4] at hx; rw [List.eq_of_mem_replicate hx]; omega
       have hN4 : (800000 : Int).toNat = 800000 := by decide
       rw [hN4] at hl4
       obtain ⟨l0, hdz⟩ : ∃ l0, Dec b 0 0 l0 := ⟨_, dec_zero b hl4.symm⟩
       have hle4 : (b.length : Int) ≤ 800000 := by omega
       have HC4 := Lib.hid hC4
       have HCC := Lib.hid hcc
       have HB4 := Lib.hid hb4
       have HM4 := Lib.hid hmem4
       have HDZ := Lib.hid hdz
       clear hR4 hb4 hl4 hC4 hmem4 hdz hcc hlen4)
    | fail)
  refine (decode_short _ _ _ b _ HC4.out HM4.out HCC.out hle4).mono ?_
  rintro e w5 ⟨hb5, v5, a5, q5, l5, rfl, hD5, hR5⟩
  obtain ⟨rfl, rfl, rfl⟩ := Dec.one HDZ.out hD5
  obtain ⟨A5, c5, rfl, -⟩ := R_slice' hR5
  obtain ⟨g, hg⟩ : ∃ g, w5.heap.size = g := ⟨_, rfl⟩
  have hb6 := below_alloc (below_then HB4.out HB4.out.size hb5) (.cells #[.int .i64 0, .int .i64 0] 58)
  have f6 : (w5.alloc (.cells #[.int .i64 0, .int .i64 0] 58)).cell? ⟨w5.heap.size, 1, none⟩ = some (.int .i64 0) := blk_cell (blk_new w5 (.cells #[.int .i64 0, .int .i64 0] 58)) 1
  rw [hg] at f6
  go_wp2_with fail
  generalize w5.alloc (.cells #[.int .i64 0, .int .i64 0] 58) = w7 at f6 hb6 ⊢
  have HB7 := Lib.hid hb6
  have f7 := f6
  clear f6 hb6 hg hb5 hD5 hR5 HB4 HC4 HM4 HCC HDZ HB3 hle4 HE0 H64 HH HM HLEN
  by_cases hcap : 1 ≤ cap ∧ cap ≤ 10000
  · obtain ⟨hc1, hc2⟩ := hcap
    go_wp2_with fail
    refine (newRing_ok cap _ hc1 hc2).mono ?_
    rintro e w8 ⟨rfl, rfl⟩
    have f8 := pw_cell_below (below_alloc (Below.refl w7.heap.size w7) (.cells #[.slice none 0 0, .int .i64 0, .int .i64 cap, .int .i64 0] 82)) f7
    have HB8 := Lib.hid (below_alloc HB7.out (.cells #[.slice none 0 0, .int .i64 0, .int .i64 cap, .int .i64 0] 82))
    have tka : True := trivial
    go_wp2_with (first
      | (go_at_call 10; have _t := tka; refine (awake_any _).mono ?_; rintro e wz ⟨rfl, hbz⟩; have HBZ := Lib.hid (below_then HB8.out HB8.out.size hbz); clear hbz tka)
      | fail)
    go_ret
    exact ⟨rfl, HBZ.out⟩
  · have hc3 : cap < 1 ∨ 10000 < cap := by omega
    go_wp2_with fail
    refine (newRing_bad cap _ hc3).mono ?_
    rintro e w8 ⟨rfl, rfl⟩
    have tka : True := trivial
    rcases hc3 with hc3 | hc3
    · have hc4 : ¬ 1 ≤ cap := by omega
      go_wp2_with (first
        | (go_at_call 10; have _t := tka; refine (awake_any _).mono ?_; rintro e wz ⟨rfl, hbz⟩; have HBZ := Lib.hid (below_then HB7.out HB7.out.size hbz); clear hbz tka)
        | fail)
      go_ret
      exact ⟨rfl, HBZ.out⟩
    · have hc4 : ¬ cap ≤ 10000 := by omega
      have hc5 : 1 ≤ cap := by omega
      go_wp2_with (first
        | (go_at_call 10; have _t := tka; refine (awake_any _).mono ?_; rintro e wz ⟨rfl, hbz⟩; have HBZ := Lib.hid (below_then HB7.out HB7.out.size hbz); clear hbz tka)
        | fail)
      go_ret
      exact ⟨by simp; omega, HBZ.out⟩

set_option maxRecDepth 100000 in
set_option maxHeartbeats 600000 in
theorem limits_past (cap : Int) (w : World) :
    Calls Try.prog 8 #[.bool true, .int .i64 cap] w fun e w' => e = .returned (.bool true) ∧ Below w.heap.size w w' := by
  go_enter Try.func8, Try.ntmps8
  go_wp2_with (first
    | (at_make; refine Kd.R_make k47 (w0 := w) w.heap.size 47 rfl rfl 22 (.tmp 20) (.tmp 20) rfl 20001 rfl rfl Try.underlying22 _ 48 info47 rfl (by decide) (by decide) z47 (ok := fun _ => True) (ev_zero _ _) (fun _ h => h.elim) trivial (by omega) (by decide) (Below.refl _ _) (Nat.le_refl _) ?_; intro v1 w1 hR1 hb1 _ _
       generalize hl : List.replicate (20001 : Int).toNat z47 = l at hR1
       obtain ⟨A1, c1, rfl, -⟩ := R_slice' hR1
       have hlen : l.length = 20001 := by rw [← hl, List.length_replicate]; decide
       have hlong : 20000 < (l.length : Int) := by omega
       have HB1 := Lib.hid hb1
       clear hR1 hb1 hl hlen)
    | fail)
  refine (encode_long _ _ _ _ hlong).mono ?_
  rintro e w2 ⟨rfl, rfl⟩
  go_wp2_with fail
  refine (check_long _ _ _ _ hlong).mono ?_
  rintro e w3 ⟨rfl, rfl⟩
  go_wp2_with (first
    | (at_make; refine Kd.R_make (Kd.int .u8) (w0 := w) w.heap.size 5 rfl rfl 23 (.tmp 35) (.tmp 35) rfl 800040 rfl rfl Try.underlying23 _ 1 info5 rfl (by decide) (by decide) 0 (ok := fun _ => True) (u8_zero _ _) (fun _ h => h.elim) trivial (by omega) (by decide) HB1.out HB1.out.size ?_; intro v4 w4 hR4 hb4 _ _
       generalize hl4 : List.replicate (800040 : Int).toNat (0 : Int) = b at hR4
       obtain ⟨A4, c4, rfl, hcc, hC4⟩ := Kd.R_reads hR4
       have hlen4 : b.length = 800040 := by rw [← hl4, List.length_replicate]; decide
       have hle4 : 800000 < (b.length : Int) := by omega
       have HC4 := Lib.hid hC4
       have HB4 := Lib.hid hb4
       clear hR4 hb4 hl4 hC4 hcc hlen4)
    | fail)
  refine (decode_long _ _ _ b _ HC4.out hle4).mono ?_
  rintro e w5 ⟨hb5, v5, a5, q5, l5, rfl, hD5, hR5⟩
  obtain ⟨rfl, rfl, rfl⟩ := Dec.one (Dec.long (b := b) (by omega)) hD5
  obtain ⟨A5, c5, rfl, -⟩ := R_slice' hR5
  obtain ⟨g, hg⟩ : ∃ g, w5.heap.size = g := ⟨_, rfl⟩
  have hb6 := below_alloc (below_then HB4.out HB4.out.size hb5) (.cells #[.int .i64 0, .int .i64 18] 58)
  have f6 : (w5.alloc (.cells #[.int .i64 0, .int .i64 18] 58)).cell? ⟨w5.heap.size, 1, none⟩ = some (.int .i64 18) := blk_cell (blk_new w5 (.cells #[.int .i64 0, .int .i64 18] 58)) 1
  rw [hg] at f6
  go_wp2_with fail
  generalize w5.alloc (.cells #[.int .i64 0, .int .i64 18] 58) = w7 at f6 hb6 ⊢
  have HB7 := Lib.hid hb6
  have f7 := f6
  clear f6 hb6 hg hb5 hD5 hR5 HB4 HC4 HB1 hle4
  by_cases hcap : 1 ≤ cap ∧ cap ≤ 10000
  · obtain ⟨hc1, hc2⟩ := hcap
    go_wp2_with fail
    refine (newRing_ok cap _ hc1 hc2).mono ?_
    rintro e w8 ⟨rfl, rfl⟩
    have f8 := pw_cell_below (below_alloc (Below.refl w7.heap.size w7) (.cells #[.slice none 0 0, .int .i64 0, .int .i64 cap, .int .i64 0] 82)) f7
    have HB8 := Lib.hid (below_alloc HB7.out (.cells #[.slice none 0 0, .int .i64 0, .int .i64 cap, .int .i64 0] 82))
    have tka : True := trivial
    go_wp2_with (first
      | (go_at_call 10; have _t := tka; refine (awake_any _).mono ?_; rintro e wz ⟨rfl, hbz⟩; have HBZ := Lib.hid (below_then HB8.out HB8.out.size hbz); clear hbz tka)
      | fail)
    go_ret
    exact ⟨rfl, HBZ.out⟩
  · have hc3 : cap < 1 ∨ 10000 < cap := by omega
    go_wp2_with fail
    refine (newRing_bad cap _ hc3).mono ?_
    rintro e w8 ⟨rfl, rfl⟩
    have tka : True := trivial
    rcases hc3 with hc3 | hc3
    · have hc4 : ¬ 1 ≤ cap := by omega
      go_wp2_with (first
        | (go_at_call 10; have _t := tka; refine (awake_any _).mono ?_; rintro e wz ⟨rfl, hbz⟩; have HBZ := Lib.hid (below_then HB7.out HB7.out.size hbz); clear hbz tka)
        | fail)
      go_ret
      exact ⟨rfl, HBZ.out⟩
    · have hc4 : ¬ cap ≤ 10000 := by omega
      have hc5 : 1 ≤ cap := by omega
      go_wp2_with (first
        | (go_at_call 10; have _t := tka; refine (awake_any _).mono ?_; rintro e wz ⟨rfl, hbz⟩; have HBZ := Lib.hid (below_then HB7.out HB7.out.size hbz); clear hbz tka)
        | fail)
      go_ret
      exact ⟨by simp; omega, HBZ.out⟩
theorem limits_law (past : Bool) (cap : Int) (w : World) :
    Calls Try.prog 8 #[.bool past, .int .i64 cap] w fun e w' => e = .returned (.bool true) ∧ Below w.heap.size w w' := by
  cases past with
  | false => exact limits_in cap w
  | true => exact limits_past cap w
end Go.Proofs.Ytepceelkfbjamaa
