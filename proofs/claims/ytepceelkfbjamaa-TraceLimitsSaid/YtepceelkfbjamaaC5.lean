/- Encode of the reference. -/
import Derived.Test.YtepceelkfbjamaaC4
namespace Go.Proofs.Ytepceelkfbjamaa
open Go.RowKit Go.Proofs.YtepceelkfbjamaaW.PrintWords Go.Proofs.YtepceelkfbjamaaW.PrintLast Go.Proofs.YtepceelkfbjamaaW.PrintMore PTraceFilters FLib

/-- The bytes so far, and the event's block. -/
structure EO (w W : World) (eb : Nat) (x : S47) (out : Value) (bs : List Int) : Prop where
  row : Kd.R (Kd.int .u8) 5 W w.heap.size (fun _ => True) out bs
  ev : W.heap[eb]? = some (.cells (evCells x).toArray 49 (0, 0))
  below : Below w.heap.size w W
theorem EO.cell0 {w W : World} {eb : Nat} {x : S47} {out : Value} {bs : List Int} (h : EO w W eb x out bs) : W.cell? ⟨eb, 0, none⟩ = some (.int .i64 x.f0) := blk_cell h.ev 0
theorem EO.cell1 {w W : World} {eb : Nat} {x : S47} {out : Value} {bs : List Int} (h : EO w W eb x out bs) : W.cell? ⟨eb, 1, none⟩ = some (.int .i64 x.f1) := blk_cell h.ev 1
theorem EO.cell2 {w W : World} {eb : Nat} {x : S47} {out : Value} {bs : List Int} (h : EO w W eb x out bs) : W.cell? ⟨eb, 2, none⟩ = some (.int .i64 x.f2) := blk_cell h.ev 2
theorem EO.cell3 {w W : World} {eb : Nat} {x : S47} {out : Value} {bs : List Int} (h : EO w W eb x out bs) : W.cell? ⟨eb, 3, none⟩ = some (.int .i64 x.f3) := blk_cell h.ev 3
theorem EO.cell4 {w W : World} {eb : Nat} {x : S47} {out : Value} {bs : List Int} (h : EO w W eb x out bs) : W.cell? ⟨eb, 4, none⟩ = some (.int .i64 x.f4) := blk_cell h.ev 4
theorem EO.cell5 {w W : World} {eb : Nat} {x : S47} {out : Value} {bs : List Int} (h : EO w W eb x out bs) : W.cell? ⟨eb, 5, none⟩ = some (.int .i64 x.f5) := blk_cell h.ev 5
theorem R_u8 {w : World} {e base : Nat} {ok : Nat → Prop} {v : Value} {l : List Int} (h : Kd.R (Kd.int .u8) e w base ok v l) : ∃ A c, v = .slice A l.length c ∧ Kd.C (Kd.int .u8) w A l.length l := by
  obtain ⟨A, c, h1, -, h2⟩ := Kd.R_reads h
  exact ⟨A, c, h1, h2⟩
theorem bytes_eo {w W : World} {eb : Nat} {x : S47} {out : Value} {bs : List Int} (n : Nat) (v : Int) (h : EO w W eb x out bs) (hn : n ≤ 8) :
    Calls Try.prog 42 #[.int .i64 v, .int .i64 n] W fun e w' => ∃ A c, e = .returned (.slice A n c) ∧ Kd.C (Kd.int .u8) w' A n (le n (v % 18446744073709551616)) ∧ EO w w' eb x out bs := by
  refine (bytes_any v n hn W).mono ?_
  rintro e w' ⟨r, rfl, hR, hB⟩
  obtain ⟨A, c, rfl, hC⟩ := R_u8 hR
  rw [le_length] at *
  exact ⟨A, c, rfl, hC, Kd.R_below h.row hB, blk_below h.ev hB, h.below.trans (hB.mono h.below.size)⟩
theorem EO.app {w W W2 : World} {eb : Nat} {x : S47} {out out2 : Value} {bs bs2 : List Int} (h : EO w W eb x out bs) (hR : Kd.R (Kd.int .u8) 5 W2 w.heap.size (fun _ => True) out2 bs2) (hB : Below w.heap.size w W2) (hg : W.grownBy W2 out.ownBlock) : EO w W2 eb x out2 bs2 :=
  ⟨hR, blk_grown h.ev hg (Kd.R_ne h.row h.ev (by decide)), hB⟩
theorem rows_u8 {w : World} {A : Option Addr} {n : Nat} {l : List Int} (h : Kd.C (Kd.int .u8) w A n l) : ReadsRow (fun (x : Int) cs => cs = [.int .u8 x]) (Kd.int .u8).sz w A n l := ReadsRow.imp_ h (Below.refl _ _) (fun _ _ hp => hp)

theorem rencode_long (A : Option Addr) (n c : Nat) (w : World) (h : 20000 < (n : Int)) :
    Calls Try.prog 26 #[.slice A n c] w fun e w' => e = .returned (.tuple #[.slice none 0 0, .int .i64 18]) ∧ w = w' := by
  go_enter Try.func26, Try.ntmps26
  go_wp2
  go_ret2
  exact ⟨rfl, rfl⟩

set_option maxRecDepth 100000 in
set_option maxHeartbeats 6400000 in
theorem rencode_any (A : Option Addr) (n c : Nat) (l : List S47) (w : World) (hC : Kd.C k47 w A n l) (h : (n : Int) ≤ 20000) :
    Calls Try.prog 26 #[.slice A n c] w fun e w' => Below w.heap.size w w' ∧
      ((l.any (fun x => !recB x) = true ∧ e = .returned (.tuple #[.slice none 0 0, .int .i64 34])) ∨
       (l.any (fun x => !recB x) = false ∧ ∃ v, e = .returned (.tuple #[v, .int .i64 0]) ∧ Kd.R (Kd.int .u8) 5 w' w.heap.size (fun _ => True) v (l.flatMap enc40))) := by
  obtain rfl := Kd.C_len hC
  have HC := Lib.hid hC
  clear hC
  go_enter Try.func26, Try.ntmps26
  go_wp2
  go_loopw [4, 5] (fun v i wr => ∃ k : Nat, k ≤ l.length ∧ i = .int .i64 k ∧ Hid ((l.take k).any (fun x => !recB x) = false) ∧ Hid (Kd.R (Kd.int .u8) 5 wr w.heap.size (fun _ => True) v ((l.take k).flatMap enc40)) ∧ Hid (Below w.heap.size w wr)) (fun _ i _ => l.length - (intOf i).toNat)
  case atStart => exact ⟨0, Nat.zero_le _, rfl, Lib.hid rfl, Kd.R_nil _ _ _ _ _, Below.refl _ _⟩
  case round =>
    obtain ⟨k, hk, rfl, HN, HR, HB⟩ := hrel
    by_cases hlt : k < l.length
    · obtain ⟨ad, rfl, -⟩ := at_T47 (Kd.C_below HC.out HB.out) (k : Int) (by omega) (by omega)
      have hts := take_snoc l k hlt
      generalize hx : rd_T47 l k = x at hts
      obtain ⟨c0, c1, c2, c3, c4, c5⟩ := cells6 ad k x (Kd.C_below HC.out HB.out) hlt hx
      have hi0 : (0 : Int) ≤ (k : Int) := by omega
      have hi1 : (k : Int) < (l.length : Int) := by omega
      have HT := Lib.hid hts
      have hr := recB_eq x
      have hfin : recB x = false → l.any (fun x => !recB x) = true := by
        intro hb
        rw [← List.take_append_drop (k + 1) l, List.any_append, hts, List.any_append]
        simp [hb]
      have HF := Lib.hid hfin
      clear hts hx hfin
      cases h1 : isK x.f1 with
      | false =>
        rw [h1] at hr
        have HR1 := Lib.hid hr
        have H1 := Lib.hid h1
        clear hr h1
        go_wp2_with (go_at_call 36; refine (kind_eq _ false H1.out _).mono ?_; rintro e w1 ⟨rfl, rfl⟩)
        go_ret2
        exact ⟨below_alloc HB.out _, .inl ⟨HF.out HR1.out, rfl⟩⟩
      | true =>
      cases h2 : fitB x.f2 with
      | false =>
        rw [h1, h2] at hr
        have HR1 := Lib.hid hr
        have H1 := Lib.hid h1
        have H2 := Lib.hid h2
        clear hr h1 h2
        go_wp2_with (first
          | (go_at_call 36; refine (kind_eq _ true H1.out _).mono ?_; rintro e w1 ⟨rfl, rfl⟩)
          | (go_at_call 41; refine (small_eq _ false H2.out _).mono ?_; rintro e w1 ⟨rfl, rfl⟩))
        go_ret2
        exact ⟨below_alloc HB.out _, .inl ⟨HF.out HR1.out, rfl⟩⟩
      | true =>
      cases h3 : fitB x.f3 with
      | false =>
        rw [h1, h2, h3] at hr
        have HR1 := Lib.hid hr
        have H1 := Lib.hid h1
        have H2 := Lib.hid h2
        have H3 := Lib.hid h3
        have tk1 : True := trivial
        have tk2 : True := trivial
        clear hr h1 h2 h3
        go_wp2_with (first
          | (go_at_call 36; refine (kind_eq _ true H1.out _).mono ?_; rintro e w1 ⟨rfl, rfl⟩)
          | (go_at_call 41; have _t := tk1; refine (small_eq _ true H2.out _).mono ?_; rintro e w1 ⟨rfl, rfl⟩; clear tk1)
          | (go_at_call 41; have _t := tk2; refine (small_eq _ false H3.out _).mono ?_; rintro e w1 ⟨rfl, rfl⟩; clear tk2))
        go_ret2
        exact ⟨below_alloc HB.out _, .inl ⟨HF.out HR1.out, rfl⟩⟩
      | true =>
        rw [h1, h2, h3] at hr
        have HR1 := Lib.hid hr
        have H1 := Lib.hid h1
        have H2 := Lib.hid h2
        have H3 := Lib.hid h3
        have tk1 : True := trivial
        have tk2 : True := trivial
        clear hr h1 h2 h3
        have hlb : ((l.take k).flatMap enc40).length ≤ 800000 := by rw [flat_len, List.length_take]; omega
        go_upto_region 10 with (first
          | (go_at_call 36; refine (kind_eq _ true H1.out _).mono ?_; rintro e w1 ⟨rfl, rfl⟩)
          | (go_at_call 41; have _t := tk1; refine (small_eq _ true H2.out _).mono ?_; rintro e w1 ⟨rfl, rfl⟩; clear tk1)
          | (go_at_call 41; have _t := tk2; refine (small_eq _ true H3.out _).mono ?_; rintro e w1 ⟨rfl, rfl⟩; clear tk2))
        generalize hbs : (l.take k).flatMap enc40 = bs at *
        have HBS := Lib.hid hbs
        clear hbs
        refine abs_w (fun W => EO w W wr.heap.size x u4 bs) ⟨Kd.R_alloc HR.out _, blk_new wr _, below_alloc HB.out _⟩ ?_
        rintro W0 h0
        have E0 := Lib.hid h0
        have a0 := h0.cell0
        clear h0 HR HB c0 c1 c2 c3 c4 c5
        go_wp2_with fail
        refine (bytes_eo 8 _ E0.out (by omega)).mono ?_
        rintro e V0 ⟨A0, c0c, rfl, hC0, h0⟩
        have F0 := Lib.hid h0
        have HC0 := Lib.hid hC0
        clear h0 hC0 E0 a0
        go_wp2_with (at_builtin; refine Kd.R_append_rows (Kd.int .u8) (w0 := w) (Rr := fun x cs => cs = [.int .u8 x]) w.heap.size rfl (.tmp 36) (.tmp 39) 23 5 _ 1 rfl Try.underlying23 info5 rfl (by decide) (by decide) _ (bs) (le 8 (x.f0 % 18446744073709551616)) A0 8 c0c (fun _ => True) (fun _ => False) rfl rfl F0.out.row (rows_u8 HC0.out) (fun x cs hx => hx) (fun _ h => h.elim) (fun _ _ => trivial) F0.out.below F0.out.below.size (by omega) ?_)
        intro v1 W1 hR1 hB1 hg1 _
        have h1 := F0.out.app hR1 hB1 hg1
        have E1 := Lib.hid h1
        have a1 := h1.cell1
        clear h1 hR1 hB1 hg1 F0 HC0
        go_wp2_with fail
        refine (bytes_eo 8 _ E1.out (by omega)).mono ?_
        rintro e V1 ⟨A1, c1c, rfl, hC1, h1⟩
        have F1 := Lib.hid h1
        have HC1 := Lib.hid hC1
        clear h1 hC1 E1 a1
        go_wp2_with (at_builtin; refine Kd.R_append_rows (Kd.int .u8) (w0 := w) (Rr := fun x cs => cs = [.int .u8 x]) w.heap.size rfl (.tmp 41) (.tmp 44) 23 5 _ 1 rfl Try.underlying23 info5 rfl (by decide) (by decide) _ (bs ++ le 8 (x.f0 % 18446744073709551616)) (le 8 (x.f1 % 18446744073709551616)) A1 8 c1c (fun _ => True) (fun _ => False) rfl rfl F1.out.row (rows_u8 HC1.out) (fun x cs hx => hx) (fun _ h => h.elim) (fun _ _ => trivial) F1.out.below F1.out.below.size (by simp [le_length]; omega) ?_)
        intro v2 W2 hR2 hB2 hg2 _
        have h2 := F1.out.app hR2 hB2 hg2
        have E2 := Lib.hid h2
        have a2 := h2.cell2
        clear h2 hR2 hB2 hg2 F1 HC1
        go_wp2_with fail
        refine (bytes_eo 4 _ E2.out (by omega)).mono ?_
        rintro e V2 ⟨A2, c2c, rfl, hC2, h2⟩
        have F2 := Lib.hid h2
        have HC2 := Lib.hid hC2
        clear h2 hC2 E2 a2
        go_wp2_with (at_builtin; refine Kd.R_append_rows (Kd.int .u8) (w0 := w) (Rr := fun x cs => cs = [.int .u8 x]) w.heap.size rfl (.tmp 46) (.tmp 49) 23 5 _ 1 rfl Try.underlying23 info5 rfl (by decide) (by decide) _ (bs ++ (le 8 (x.f0 % 18446744073709551616) ++ le 8 (x.f1 % 18446744073709551616))) (le 4 (x.f2 % 18446744073709551616)) A2 4 c2c (fun _ => True) (fun _ => False) rfl rfl F2.out.row (rows_u8 HC2.out) (fun x cs hx => hx) (fun _ h => h.elim) (fun _ _ => trivial) F2.out.below F2.out.below.size (by simp [le_length]; omega) ?_)
        intro v3 W3 hR3 hB3 hg3 _
        have h3 := F2.out.app hR3 hB3 hg3
        have E3 := Lib.hid h3
        have a3 := h3.cell3
        clear h3 hR3 hB3 hg3 F2 HC2
        go_wp2_with fail
        refine (bytes_eo 4 _ E3.out (by omega)).mono ?_
        rintro e V3 ⟨A3, c3c, rfl, hC3, h3⟩
        have F3 := Lib.hid h3
        have HC3 := Lib.hid hC3
        clear h3 hC3 E3 a3
        go_wp2_with (at_builtin; refine Kd.R_append_rows (Kd.int .u8) (w0 := w) (Rr := fun x cs => cs = [.int .u8 x]) w.heap.size rfl (.tmp 51) (.tmp 54) 23 5 _ 1 rfl Try.underlying23 info5 rfl (by decide) (by decide) _ (bs ++ (le 8 (x.f0 % 18446744073709551616) ++ (le 8 (x.f1 % 18446744073709551616) ++ le 4 (x.f2 % 18446744073709551616)))) (le 4 (x.f3 % 18446744073709551616)) A3 4 c3c (fun _ => True) (fun _ => False) rfl rfl F3.out.row (rows_u8 HC3.out) (fun x cs hx => hx) (fun _ h => h.elim) (fun _ _ => trivial) F3.out.below F3.out.below.size (by simp [le_length]; omega) ?_)
        intro v4 W4 hR4 hB4 hg4 _
        have h4 := F3.out.app hR4 hB4 hg4
        have E4 := Lib.hid h4
        have a4 := h4.cell4
        clear h4 hR4 hB4 hg4 F3 HC3
        go_wp2_with fail
        refine (bytes_eo 8 _ E4.out (by omega)).mono ?_
        rintro e V4 ⟨A4, c4c, rfl, hC4, h4⟩
        have F4 := Lib.hid h4
        have HC4 := Lib.hid hC4
        clear h4 hC4 E4 a4
        go_wp2_with (at_builtin; refine Kd.R_append_rows (Kd.int .u8) (w0 := w) (Rr := fun x cs => cs = [.int .u8 x]) w.heap.size rfl (.tmp 56) (.tmp 59) 23 5 _ 1 rfl Try.underlying23 info5 rfl (by decide) (by decide) _ (bs ++ (le 8 (x.f0 % 18446744073709551616) ++ (le 8 (x.f1 % 18446744073709551616) ++ (le 4 (x.f2 % 18446744073709551616) ++ le 4 (x.f3 % 18446744073709551616))))) (le 8 (x.f4 % 18446744073709551616)) A4 8 c4c (fun _ => True) (fun _ => False) rfl rfl F4.out.row (rows_u8 HC4.out) (fun x cs hx => hx) (fun _ h => h.elim) (fun _ _ => trivial) F4.out.below F4.out.below.size (by simp [le_length]; omega) ?_)
        intro v5 W5 hR5 hB5 hg5 _
        have h5 := F4.out.app hR5 hB5 hg5
        have E5 := Lib.hid h5
        have a5 := h5.cell5
        clear h5 hR5 hB5 hg5 F4 HC4
        go_wp2_with fail
        refine (bytes_eo 8 _ E5.out (by omega)).mono ?_
        rintro e V5 ⟨A5, c5c, rfl, hC5, h5⟩
        have F5 := Lib.hid h5
        have HC5 := Lib.hid hC5
        clear h5 hC5 E5 a5
        go_wp2_with (at_builtin; refine Kd.R_append_rows (Kd.int .u8) (w0 := w) (Rr := fun x cs => cs = [.int .u8 x]) w.heap.size rfl (.tmp 61) (.tmp 64) 23 5 _ 1 rfl Try.underlying23 info5 rfl (by decide) (by decide) _ (bs ++ (le 8 (x.f0 % 18446744073709551616) ++ (le 8 (x.f1 % 18446744073709551616) ++ (le 4 (x.f2 % 18446744073709551616) ++ (le 4 (x.f3 % 18446744073709551616) ++ le 8 (x.f4 % 18446744073709551616)))))) (le 8 (x.f5 % 18446744073709551616)) A5 8 c5c (fun _ => True) (fun _ => False) rfl rfl F5.out.row (rows_u8 HC5.out) (fun x cs hx => hx) (fun _ h => h.elim) (fun _ _ => trivial) F5.out.below F5.out.below.size (by simp [le_length]; omega) ?_)
        intro v6 W6 hR6 hB6 hg6 _
        have h6 := F5.out.app hR6 hB6 hg6
        have E6 := Lib.hid h6
        skip
        clear h6 hR6 hB6 hg6 F5 HC5
        have hfl : (l.take (k + 1)).flatMap enc40 = bs ++ (le 8 (x.f0 % 18446744073709551616) ++ (le 8 (x.f1 % 18446744073709551616) ++ (le 4 (x.f2 % 18446744073709551616) ++ (le 4 (x.f3 % 18446744073709551616) ++ (le 8 (x.f4 % 18446744073709551616) ++ le 8 (x.f5 % 18446744073709551616)))))) := by
          rw [HT.out, List.flatMap_append, HBS.out]
          simp [enc40, le4_mod]
        have HR6 : Hid (Kd.R (Kd.int .u8) 5 W6 w.heap.size (fun _ => True) v6 ((l.take (k + 1)).flatMap enc40)) := Lib.hid (by rw [hfl]; exact E6.out.row)
        have HB6 := Lib.hid E6.out.below
        have HN6 : Hid ((l.take (k + 1)).any (fun x => !recB x) = false) := Lib.hid (by rw [HT.out, List.any_append, HN.out]; simp [HR1.out])
        clear hfl E6
        go_wp2
        go_roundw
        case rel => exact ⟨k + 1, by omega, by go_num, HN6, HR6, HB6⟩
        case measure => simp [intOf]; omega
    · have : k = l.length := by omega
      subst this
      go_wp2
      go_ret2
      have hn := HN.out
      have hr := HR.out
      rw [List.take_length] at hn hr
      exact ⟨HB.out, .inr ⟨hn, _, rfl, hr⟩⟩
end Go.Proofs.Ytepceelkfbjamaa
