/- TraceBack: the walk of the law. -/
import Derived.Test.YtepceelkfbjamaaE2
import Derived.Test.YtepceelkfbjamaaB4
namespace Go.Proofs.Ytepceelkfbjamaa
open Go.RowKit Go.Proofs.YtepceelkfbjamaaW.PrintWords Go.Proofs.YtepceelkfbjamaaW.PrintLast Go.Proofs.YtepceelkfbjamaaW.PrintMore PTraceFilters FLib

theorem encCode_good {l : List S47} (h : l.any (fun x => !recB x) = false) : encCode l = 0 := by unfold encCode; rw [h]; rfl
theorem encBytes_good {l : List S47} (h : l.any (fun x => !recB x) = false) : encBytes l = l.flatMap enc40 := by unfold encBytes; rw [h]; rfl
theorem encCode_bad {l : List S47} (h : l.any (fun x => !recB x) = true) : encCode l = 34 := by unfold encCode; rw [h]; rfl

theorem flat_len2 (l : List S47) : (l.flatMap enc40).length = 40 * l.length := by rw [flat_len, Nat.mul_comm]

set_option maxRecDepth 100000 in
set_option maxHeartbeats 3200000 in
theorem back_law (A : Option Addr) (n c : Nat) (l : List S47) (B : Option Addr) (m d : Nat) (b : List Int) (w : World) (hC : Kd.C k47 w A n l) (hl : ∀ x ∈ l, Ev64 x) (hD : Kd.C (Kd.int .u8) w B m b) (hb : Bytes b) (hmd : m ≤ d) :
    Calls Try.prog 7 #[.slice A n c, .slice B m d] w fun e w' => e = .returned (.bool true) ∧ Below w.heap.size w w' := by
  obtain rfl := Kd.C_len hC
  obtain rfl := Kd.C_len hD
  have HC := Lib.hid hC
  have HL := Lib.hid hl
  have HD := Lib.hid hD
  have HBy := Lib.hid hb
  clear hC hl hD hb
  by_cases h3 : 300 < (l.length : Int) ∨ 4000 < (b.length : Int)
  · have h3' : (300 < (l.length : Int) ∨ (¬ 300 < (l.length : Int) ∧ 4000 < (b.length : Int))) := by omega
    clear h3
    rcases h3' with h3 | ⟨h3, h4⟩
    · go_enter Try.func7, Try.ntmps7
      go_wp2_with (go_at_call 10; refine (awake_any _).mono ?_; rintro e w1 ⟨rfl, hb1⟩)
      go_ret
      exact ⟨rfl, hb1⟩
    · go_enter Try.func7, Try.ntmps7
      go_wp2_with (go_at_call 10; refine (awake_any _).mono ?_; rintro e w1 ⟨rfl, hb1⟩)
      go_ret
      exact ⟨rfl, hb1⟩
  · have h4 : ¬ 300 < (l.length : Int) := by omega
    have h5 : ¬ 4000 < (b.length : Int) := by omega
    clear h3
    go_enter Try.func7, Try.ntmps7
    go_wp2_with fail
    refine (encode_post _ _ _ l _ HC.out HL.out (by omega)).mono ?_
    rintro e w1 ⟨hb1, A1, n1, c1, rfl, hC1, hcl⟩
    have HB1 := Lib.hid hb1
    have HC1 := Lib.hid hC1
    clear hb1 hC1
    rcases hrec : l.any (fun x => !recB x) with _ | _
    · have hd := back_one l HL.out hrec (by omega)
      have e1 := encBytes_good hrec
      have hlen := flat_len2 l
      rw [encCode_good hrec]
      rw [e1] at HC1
      have hn1 := Kd.C_len HC1.out
      have hn2 : (n1 : Int) ≤ 800000 := by omega
      have HE := Lib.hid hd
      clear hd e1 hrec hlen hn1
      go_wp2_with fail
      refine (decode_short _ _ _ (l.flatMap enc40) _ HC1.out (flat_bytes l) hcl hn2).mono ?_
      rintro e w4 ⟨hb4, v4, a4, q4, l4, rfl, hD4, hR4⟩
      obtain ⟨rfl, rfl, rfl⟩ := Dec.one HE.out hD4
      obtain ⟨A4, c4, rfl, hC4⟩ := R_slice' hR4
      have HB4 := Lib.hid (below_alloc (below_then HB1.out HB1.out.size hb4) (.cells #[.int .i64 0, .int .i64 0] 58))
      have HC4 := Lib.hid (Kd.C_alloc hC4 (.cells #[.int .i64 0, .int .i64 0] 58))
      have f4 : (w4.alloc (.cells #[.int .i64 0, .int .i64 0] 58)).cell? ⟨w4.heap.size, 1, none⟩ = some (.int .i64 0) := blk_cell (blk_new w4 (.cells #[.int .i64 0, .int .i64 0] 58)) 1
      clear hb4 hD4 hR4 hC4
      go_wp2_with fail
      refine (from_any _ _ _ _ _ (Kd.C_below HC.out HB4.out) (by omega)).mono ?_
      rintro e w5 ⟨v5, rfl, hR5, hb5⟩
      obtain ⟨A5, c5, rfl, hC5⟩ := R_slice' hR5
      have HB5 := Lib.hid (below_then HB4.out HB4.out.size hb5)
      have HC5 := Lib.hid hC5
      have HC45 := Lib.hid (Kd.C_below HC4.out hb5)
      clear hb5 hR5 hC5 f4
      go_wp2_with fail
      refine (same_any _ _ _ _ _ _ l _ HC45.out HC5.out).mono ?_
      rintro e w6 ⟨rfl, hb6⟩
      have HBW := Lib.hid (below_then HB5.out HB5.out.size hb6)
      clear hb6 HB1 HB4 HB5 HC1 HC4 HC5 HC45
      go_wp2_with fail
      refine (decode_short _ _ _ b _ (Kd.C_below HD.out HBW.out) HBy.out hmd (by omega)).mono ?_
      rintro e w14 ⟨hb14, v14, a14, q14, l14, rfl, hD14, hR14⟩
      obtain ⟨A14, c14, rfl, hC14⟩ := R_slice' hR14
      have HB14 := Lib.hid (below_alloc (below_then HBW.out HBW.out.size hb14) (.cells #[.int .i64 a14, .int .i64 q14] 58))
      have HC14 := Lib.hid (Kd.C_alloc hC14 (.cells #[.int .i64 a14, .int .i64 q14] 58))
      have f14 : (w14.alloc (.cells #[.int .i64 a14, .int .i64 q14] 58)).cell? ⟨w14.heap.size, 1, none⟩ = some (.int .i64 q14) := blk_cell (blk_new w14 (.cells #[.int .i64 a14, .int .i64 q14] 58)) 1
      clear hb14 hR14 hC14
      by_cases hq : q14 = 0
      · obtain ⟨hfl, hrec, h64, hlen⟩ := back_two b HBy.out _ _ _ hD14 hq
        subst hq
        have HE1 := Lib.hid (encCode_good hrec)
        have HE2 := Lib.hid ((encBytes_good hrec).trans hfl)
        have H64 := Lib.hid h64
        have hn14 : (l14.length : Int) ≤ 20000 := by omega
        clear hfl hrec h64 hlen hD14
        go_wp2_with fail
        refine (encode_post _ _ _ l14 _ HC14.out H64.out hn14).mono ?_
        rintro e w15 ⟨hb15, A15, n15, c15, rfl, hC15, -⟩
        rw [HE2.out] at hC15
        rw [HE1.out]
        have HBY := Lib.hid (below_then HB14.out HB14.out.size hb15)
        obtain ⟨S, hS⟩ : ∃ S, strOfNums b = S := ⟨_, rfl⟩
        have hs1 := Kd.C_string (c := c15) Try.underlying23 Try.underlying5 Try.underlying9 hC15
        have hs3 := Kd.C_string (c := d) Try.underlying23 Try.underlying5 Try.underlying9 (Kd.C_below HD.out HBY.out)
        rw [hS] at hs1 hs3
        clear hS hb15 hC15 f14
        have tka : True := trivial
        go_wp2_with (first
          | (go_at_call 13; refine (put_nil' _ _ _ _).mono ?_; rintro e wa ⟨rfl, rfl⟩)
          | (go_at_call 17; refine (events_nil' _).mono ?_; rintro e wa ⟨rfl, rfl⟩)
          | (go_at_call 19; refine (lost_nil' _).mono ?_; rintro e wa ⟨rfl, rfl⟩)
          | (go_at_call 10; have _t := tka; refine (awake_any _).mono ?_; rintro e wz ⟨rfl, hbz⟩; have HBZ := Lib.hid (below_then HBY.out HBY.out.size hbz); clear hbz tka)
          | fail)
        go_ret
        exact ⟨rfl, HBZ.out⟩
      · have HBY := HB14
        clear hD14
        have tka : True := trivial
        go_wp2_with (first
          | (go_at_call 13; refine (put_nil' _ _ _ _).mono ?_; rintro e wa ⟨rfl, rfl⟩)
          | (go_at_call 17; refine (events_nil' _).mono ?_; rintro e wa ⟨rfl, rfl⟩)
          | (go_at_call 19; refine (lost_nil' _).mono ?_; rintro e wa ⟨rfl, rfl⟩)
          | (go_at_call 10; have _t := tka; refine (awake_any _).mono ?_; rintro e wz ⟨rfl, hbz⟩; have HBZ := Lib.hid (below_then HBY.out HBY.out.size hbz); clear hbz tka)
          | fail)
        go_ret
        exact ⟨rfl, HBZ.out⟩
    · rw [encCode_bad hrec]
      have HBW := HB1
      clear hrec
      go_wp2_with fail
      refine (decode_short _ _ _ b _ (Kd.C_below HD.out HBW.out) HBy.out hmd (by omega)).mono ?_
      rintro e w14 ⟨hb14, v14, a14, q14, l14, rfl, hD14, hR14⟩
      obtain ⟨A14, c14, rfl, hC14⟩ := R_slice' hR14
      have HB14 := Lib.hid (below_alloc (below_then HBW.out HBW.out.size hb14) (.cells #[.int .i64 a14, .int .i64 q14] 58))
      have HC14 := Lib.hid (Kd.C_alloc hC14 (.cells #[.int .i64 a14, .int .i64 q14] 58))
      have f14 : (w14.alloc (.cells #[.int .i64 a14, .int .i64 q14] 58)).cell? ⟨w14.heap.size, 1, none⟩ = some (.int .i64 q14) := blk_cell (blk_new w14 (.cells #[.int .i64 a14, .int .i64 q14] 58)) 1
      clear hb14 hR14 hC14
      by_cases hq : q14 = 0
      · obtain ⟨hfl, hrec, h64, hlen⟩ := back_two b HBy.out _ _ _ hD14 hq
        subst hq
        have HE1 := Lib.hid (encCode_good hrec)
        have HE2 := Lib.hid ((encBytes_good hrec).trans hfl)
        have H64 := Lib.hid h64
        have hn14 : (l14.length : Int) ≤ 20000 := by omega
        clear hfl hrec h64 hlen hD14
        go_wp2_with fail
        refine (encode_post _ _ _ l14 _ HC14.out H64.out hn14).mono ?_
        rintro e w15 ⟨hb15, A15, n15, c15, rfl, hC15, -⟩
        rw [HE2.out] at hC15
        rw [HE1.out]
        have HBY := Lib.hid (below_then HB14.out HB14.out.size hb15)
        obtain ⟨S, hS⟩ : ∃ S, strOfNums b = S := ⟨_, rfl⟩
        have hs1 := Kd.C_string (c := c15) Try.underlying23 Try.underlying5 Try.underlying9 hC15
        have hs3 := Kd.C_string (c := d) Try.underlying23 Try.underlying5 Try.underlying9 (Kd.C_below HD.out HBY.out)
        rw [hS] at hs1 hs3
        clear hS hb15 hC15 f14
        have tka : True := trivial
        go_wp2_with (first
          | (go_at_call 13; refine (put_nil' _ _ _ _).mono ?_; rintro e wa ⟨rfl, rfl⟩)
          | (go_at_call 17; refine (events_nil' _).mono ?_; rintro e wa ⟨rfl, rfl⟩)
          | (go_at_call 19; refine (lost_nil' _).mono ?_; rintro e wa ⟨rfl, rfl⟩)
          | (go_at_call 10; have _t := tka; refine (awake_any _).mono ?_; rintro e wz ⟨rfl, hbz⟩; have HBZ := Lib.hid (below_then HBY.out HBY.out.size hbz); clear hbz tka)
          | fail)
        go_ret
        exact ⟨rfl, HBZ.out⟩
      · have HBY := HB14
        clear hD14
        have tka : True := trivial
        go_wp2_with (first
          | (go_at_call 13; refine (put_nil' _ _ _ _).mono ?_; rintro e wa ⟨rfl, rfl⟩)
          | (go_at_call 17; refine (events_nil' _).mono ?_; rintro e wa ⟨rfl, rfl⟩)
          | (go_at_call 19; refine (lost_nil' _).mono ?_; rintro e wa ⟨rfl, rfl⟩)
          | (go_at_call 10; have _t := tka; refine (awake_any _).mono ?_; rintro e wz ⟨rfl, hbz⟩; have HBZ := Lib.hid (below_then HBY.out HBY.out.size hbz); clear hbz tka)
          | fail)
        go_ret
        exact ⟨rfl, HBZ.out⟩
end Go.Proofs.Ytepceelkfbjamaa
