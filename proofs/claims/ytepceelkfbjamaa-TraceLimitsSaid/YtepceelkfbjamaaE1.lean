/- TraceRecords: the walk of the law. -/
import Derived.Test.YtepceelkfbjamaaC5
import Derived.Test.YtepceelkfbjamaaD4
import Derived.Test.YtepceelkfbjamaaF1
namespace Go.Proofs.Ytepceelkfbjamaa
open Go.RowKit Go.Proofs.YtepceelkfbjamaaW.PrintWords Go.Proofs.YtepceelkfbjamaaW.PrintLast Go.Proofs.YtepceelkfbjamaaW.PrintMore PTraceFilters FLib

def encCode (l : List S47) : Int := if l.any (fun x => !recB x) = true then 34 else 0
def encBytes (l : List S47) : List Int := if l.any (fun x => !recB x) = true then [] else l.flatMap enc40
/-- What both encoders answer. -/
def EncRes (l : List S47) (w : World) (e : Ending) (w' : World) : Prop :=
  Below w.heap.size w w' ∧ ∃ A n c, e = .returned (.tuple #[.slice A n c, .int .i64 (encCode l)]) ∧ Kd.C (Kd.int .u8) w' A n (encBytes l) ∧ n ≤ c
theorem encode_post (A : Option Addr) (n c : Nat) (l : List S47) (w : World) (hC : Kd.C k47 w A n l) (hl : ∀ x ∈ l, Ev64 x) (h : (n : Int) ≤ 20000) : Calls Try.prog 25 #[.slice A n c] w (EncRes l w) := by
  rcases hb : l.any (fun x => !recB x) with _ | _
  · refine (encode_good A n c l w hC hl h hb).mono ?_
    rintro e w' ⟨v, rfl, hR, hB⟩
    obtain ⟨A', c', rfl, hcc, hC'⟩ := Kd.R_reads hR
    refine ⟨hB, A', _, c', by unfold encCode; rw [hb]; rfl, ?_⟩
    unfold encBytes; rw [hb]; exact ⟨hC', hcc⟩
  · refine (encode_bad A n c l w hC hl h hb).mono ?_
    rintro e w' ⟨rfl, hB⟩
    refine ⟨hB, none, 0, 0, by unfold encCode; rw [hb]; rfl, ?_⟩
    unfold encBytes; rw [hb]; exact ⟨Kd.C_nil _ _, Nat.le_refl _⟩
theorem rencode_post (A : Option Addr) (n c : Nat) (l : List S47) (w : World) (hC : Kd.C k47 w A n l) (h : (n : Int) ≤ 20000) : Calls Try.prog 26 #[.slice A n c] w (EncRes l w) := by
  refine (rencode_any A n c l w hC h).mono ?_
  rintro e w' ⟨hB, ⟨hb, rfl⟩ | ⟨hb, v, rfl, hR⟩⟩
  · refine ⟨hB, none, 0, 0, by unfold encCode; rw [hb]; rfl, ?_⟩
    unfold encBytes; rw [hb]; exact ⟨Kd.C_nil _ _, Nat.le_refl _⟩
  · obtain ⟨A', c', rfl, hcc, hC'⟩ := Kd.R_reads hR
    refine ⟨hB, A', _, c', by unfold encCode; rw [hb]; rfl, ?_⟩
    unfold encBytes; rw [hb]; exact ⟨hC', hcc⟩

set_option maxRecDepth 100000 in
set_option maxHeartbeats 3200000 in
theorem records_law (A : Option Addr) (n c : Nat) (l : List S47) (B : Option Addr) (m d : Nat) (b : List Int) (w : World) (hC : Kd.C k47 w A n l) (hl : ∀ x ∈ l, Ev64 x) (hD : Kd.C (Kd.int .u8) w B m b) (hb : Bytes b) (hmd : m ≤ d) :
    Calls Try.prog 6 #[.slice A n c, .slice B m d] w fun e w' => e = .returned (.bool true) ∧ Below w.heap.size w w' := by
  obtain rfl := Kd.C_len hC
  obtain rfl := Kd.C_len hD
  have HC := Lib.hid hC
  have HL := Lib.hid hl
  have HD := Lib.hid hD
  have HBy := Lib.hid hb
  clear hC hl hD hb
  by_cases h3 : 300 < (l.length : Int) ∨ 4000 < (b.length : Int)
  · have h3' : (300 < (l.length : Int) ∨ (¬ 300 < (l.length : Int) ∧ 4000 < (b.length : Int))) := by omega
    clear h3
    rcases h3' with h3 | ⟨h3, h4⟩
    · go_enter Try.func6, Try.ntmps6
      go_wp2_with (go_at_call 10; refine (awake_any _).mono ?_; rintro e w1 ⟨rfl, hb1⟩)
      go_ret
      exact ⟨rfl, hb1⟩
    · go_enter Try.func6, Try.ntmps6
      go_wp2_with (go_at_call 10; refine (awake_any _).mono ?_; rintro e w1 ⟨rfl, hb1⟩)
      go_ret
      exact ⟨rfl, hb1⟩
  · have h4 : ¬ 300 < (l.length : Int) := by omega
    have h5 : ¬ 4000 < (b.length : Int) := by omega
    clear h3
    go_enter Try.func6, Try.ntmps6
    go_wp2_with fail
    refine (encode_post _ _ _ l _ HC.out HL.out (by omega)).mono ?_
    rintro e w1 ⟨hb1, A1, n1, c1, rfl, hC1, -⟩
    have HB1 := Lib.hid hb1
    have HC1 := Lib.hid hC1
    clear hb1 hC1
    go_wp2_with fail
    refine (from_any _ _ _ _ _ (Kd.C_below HC.out HB1.out) (by omega)).mono ?_
    rintro e w2 ⟨v2, rfl, hR2, hb2⟩
    obtain ⟨A2, c2, rfl, hC2⟩ := R_slice' hR2
    have HB2 := Lib.hid (below_then HB1.out HB1.out.size hb2)
    have HC1b := Lib.hid (Kd.C_below HC1.out hb2)
    have HC2 := Lib.hid hC2
    clear hb2 hR2 hC2
    go_wp2_with fail
    refine (rencode_post _ _ _ l _ HC2.out (by omega)).mono ?_
    rintro e w3 ⟨hb3, A3, n3, c3, rfl, hC3, -⟩
    have HB3 := Lib.hid (below_then HB2.out HB2.out.size hb3)
    have HC1c := Lib.hid (Kd.C_below HC1b.out hb3)
    have HC3 := Lib.hid hC3
    clear hb3 hC3
    go_wp2_with fail
    refine (decode_short _ _ _ b _ (Kd.C_below HD.out HB3.out) HBy.out hmd (by omega)).mono ?_
    rintro e w4 ⟨hb4, v4, a4, q4, l4, rfl, hD4, hR4⟩
    have HB4 := Lib.hid (below_then HB3.out HB3.out.size hb4)
    have HC1d := Lib.hid (Kd.C_below HC1c.out hb4)
    have HC3d := Lib.hid (Kd.C_below HC3.out hb4)
    obtain ⟨A4, c4, rfl, hC4⟩ := R_slice' hR4
    have HC4 := Lib.hid hC4
    have HD4 := Lib.hid hD4
    clear hb4 hR4 hC4 hD4
    go_wp2_with fail
    obtain ⟨g, hg⟩ : ∃ g, w4.heap.size = g := ⟨_, rfl⟩
    rw [hg]
    refine abs_c (fun W => Below w.heap.size w W ∧ W.heap[g]? = some (.cells #[.int .i64 a4, .int .i64 q4] 58 (0, 0)) ∧ Kd.C (Kd.int .u8) W A1 n1 (encBytes l) ∧ Kd.C (Kd.int .u8) W A3 n3 (encBytes l) ∧ Kd.C k47 W A4 l4.length l4)
      ⟨below_alloc HB4.out _, hg ▸ blk_new _ _, Kd.C_alloc HC1d.out _, Kd.C_alloc HC3d.out _, Kd.C_alloc HC4.out _⟩ ?_
    rintro w5 ⟨hb5, hf5, hc51, hc53, hc54⟩
    clear HB1 HB2 HB3 HB4 HC1 HC1b HC1c HC1d HC2 HC3 HC3d HC4 HC hg
    refine (rdecode_short _ _ _ b _ (Kd.C_below HD.out hb5) HBy.out hmd (by omega)).mono ?_
    rintro e w6 ⟨hb6, v6, a6, q6, l6, rfl, hD6, hR6⟩
    obtain ⟨rfl, rfl, rfl⟩ := Dec.one HD4.out hD6
    have HB6 := Lib.hid (below_then hb5 hb5.size hb6)
    have HF6 := Lib.hid (blk_below hf5 hb6)
    have H1 := Lib.hid (Kd.C_below hc51 hb6)
    have H3 := Lib.hid (Kd.C_below hc53 hb6)
    have H4 := Lib.hid (Kd.C_below hc54 hb6)
    obtain ⟨A6, c6, rfl, hC6⟩ := R_slice' hR6
    have H6 := Lib.hid hC6
    clear hb5 hf5 hc51 hc53 hc54 hb6 hD6 hR6 hC6
    obtain ⟨S, hS⟩ : ∃ S, strOfNums (encBytes l) = S := ⟨_, rfl⟩
    have hs1 := Kd.C_string (c := c1) Try.underlying23 Try.underlying5 Try.underlying9 (Kd.C_alloc H1.out (.cells #[.int .i64 a4, .int .i64 q4] 58))
    have hs3 := Kd.C_string (c := c3) Try.underlying23 Try.underlying5 Try.underlying9 (Kd.C_alloc H3.out (.cells #[.int .i64 a4, .int .i64 q4] 58))
    rw [hS] at hs1 hs3
    clear hS
    go_wp2_with fail
    refine (same_any _ _ _ _ _ _ l4 _ (Kd.C_alloc H4.out _) (Kd.C_alloc H6.out _)).mono ?_
    rintro e w8 ⟨rfl, hb8⟩
    have hf8 := blk_below (blk_alloc HF6.out (.cells #[.int .i64 a4, .int .i64 q4] 58)) hb8
    have hg8 := blk_below (blk_new w6 (.cells #[.int .i64 a4, .int .i64 q4] 58)) hb8
    have HB8 := Lib.hid (below_then (below_alloc HB6.out (.cells #[.int .i64 a4, .int .i64 q4] 58)) (below_alloc HB6.out (.cells #[.int .i64 a4, .int .i64 q4] 58)).size hb8)
    have f0 : w8.cell? ⟨g, 0, none⟩ = some (.int .i64 a4) := blk_cell hf8 0
    have f1 : w8.cell? ⟨g, 1, none⟩ = some (.int .i64 q4) := blk_cell hf8 1
    have f2 : w8.cell? ⟨w6.heap.size, 0, none⟩ = some (.int .i64 a4) := blk_cell hg8 0
    have f3 : w8.cell? ⟨w6.heap.size, 1, none⟩ = some (.int .i64 q4) := blk_cell hg8 1
    clear hf8 hg8 hb8 hs1 hs3
    go_wp2_with fail
    refine (awake_any _).mono ?_
    rintro e w9 ⟨rfl, hb9⟩
    have HB9 := Lib.hid (below_then HB8.out HB8.out.size hb9)
    clear hb9
    go_wp2
    go_ret
    exact ⟨rfl, HB9.out⟩
end Go.Proofs.Ytepceelkfbjamaa
