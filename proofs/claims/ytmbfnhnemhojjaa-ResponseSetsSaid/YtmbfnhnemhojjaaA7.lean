/- fixpoint, bound. -/
import Derived.Test.YtmbfnhnemhojjaaA6
namespace Go.Proofs.Ytmbfnhnemhojjaa
set_option linter.unusedVariables false
set_option linter.unusedSimpArgs false
open Go.RowKit Go.Proofs.YtmbfnhnemhojjaaW.PrintWords Go.Proofs.YtmbfnhnemhojjaaW.PrintLast Go.Proofs.YtmbfnhnemhojjaaW.PrintMore PResponseCosts FLib
attribute [local go_sem ↓] hold_cells hold_from
attribute [local go_sem] below_alloc_T below_drew_T below_drewN_T

/-- What bound returns. -/
def bndV (base : Int) : Option Nat → Value
  | some v => .tuple #[.int .i64 v, .bool true]
  | none => .tuple #[.int .i64 base, .bool false]

set_option maxRecDepth 100000 in
set_option maxHeartbeats 400000 in
theorem fix_any (D : Int → Int) (mono : ∀ r s : Int, r ≤ s → D r ≤ D s) (base : Int) (hD : ∀ r, 0 ≤ r → base ≤ D r) (hb : 0 ≤ base) (p1 p2 p3 : Value) (W : World)
    (hcall : ∀ r w', 0 ≤ r → r ≤ 1000000 → Below W.heap.size W w' → Calls Try.prog 55 #[.int .i64 r, p1, p2, p3] w' fun e w2 => e = .returned (.int .i64 (D r)) ∧ Below w'.heap.size w' w2) :
    Calls Try.prog 54 #[.int .i64 base, .int .i64 1000000, .func (.func 55) #[] #[p1, p2, p3]] W fun e w' => e = .returned (bndV base (bndO D 1000000)) ∧ Below W.heap.size W w' := by
  have HM := Lib.hid mono
  have HD := Lib.hid hD
  have HC := Lib.hid hcall
  clear mono hD hcall
  go_enter Try.func54, Try.ntmps54
  go_wp2
  go_loopw [8] (fun x wr => ∃ v : Int, x = .int .i64 v ∧ Hid (Under D v) ∧ Below W.heap.size W wr) (fun x _ => (1000001 - intOf x).toNat)
  case atStart => exact ⟨base, rfl, Under.start hb HD.out, Below.refl _ _⟩
  case round =>
    obtain ⟨v, rfl, HU, hB⟩ := hrel
    have hv0 := HU.out.nn
    by_cases hle : v ≤ 1000000
    · obtain ⟨y, hy⟩ : ∃ y, D v = y := ⟨_, rfl⟩
      have hup := HU.out.up
      rw [hy] at hup
      have HCR := Lib.hid (HC.out v wr hv0 hle hB)
      have HY := Lib.hid hy
      rw [hy] at HCR
      clear hy
      by_cases he : y = v
      · subst he
        have HF := Lib.hid (HU.out.found (lim := 1000000) (by omega) HY.out)
        go_wp2_with (go_at_call 55; refine (HCR.out).mono ?_; rintro e w2 ⟨rfl, hb2⟩)
        go_ret2
        refine ⟨?_, below_step hB hb2⟩
        rw [HF.out]
        unfold bndV
        simp only
        rw [Int.toNat_of_nonneg hv0]
        rfl
      · have HU2 := Lib.hid (HU.out.step HM.out)
        rw [HY.out] at HU2
        go_wp2_with (go_at_call 55; refine (HCR.out).mono ?_; rintro e w2 ⟨rfl, hb2⟩)
        go_roundw
        case rel => exact ⟨y, rfl, HU2, below_step hB hb2⟩
        case measure => simp [intOf]; omega
    · have HF := Lib.hid (HU.out.past (lim := 1000000) (by omega))
      go_wp2
      go_ret2
      exact ⟨by rw [HF.out]; rfl, hB⟩

theorem below_new {W w : World} (h : Below W.heap.size W w) (o : Obj) : Below W.heap.size W (w.alloc o) := h.alloc h.size o
theorem below_realloc {W w : World} {o : Obj} (h : Below W.heap.size W (w.alloc o)) (hs : W.heap.size ≤ w.heap.size) (o' : Obj) : Below W.heap.size W (w.alloc o') :=
  ⟨h.os, h.tape, h.output, by simp; omega, fun k hk => by rw [Below.heap_alloc w o' k (by omega), ← Below.heap_alloc w o k (by omega)]; exact h.block k hk⟩
theorem bcell {W w1 : World} (hb : Below W.heap.size W w1) : (∀ b o, b < W.heap.size → w1.cell? ⟨b, o, none⟩ = W.cell? ⟨b, o, none⟩) ∧ (∀ b o, b < W.heap.size → w1.frozen? ⟨b, o, none⟩ = W.frozen? ⟨b, o, none⟩) :=
  ⟨fun b o h => hb.cell (p := ⟨b, o, none⟩) h, fun b o h => hb.frozen (p := ⟨b, o, none⟩) h⟩
/-- Of a world, and of a frame that bears a new block's number, only what is said is carried on. -/
theorem abs_e {Q : Exit → Act → World → Prop} {e : Exit} {a : Act} {w : World} (F : World → Prop) (hF : F w) (h : ∀ w2, F w2 → Q e a w2) : Q e a w := h w hF
def BaseAt (W : World) (base : Int) (g : Nat) (w : World) : Prop := Below W.heap.size W w ∧ W.heap.size ≤ g ∧ w.cell? ⟨g, 0, none⟩ = some (.int .i64 base)
def baseI (t : Tab) (l : List S33) (i : Nat) : Int := jobI t (tk l i) + blockI t l i
theorem base_le {t : Tab} (ht : TOk t) {l : List S33} (hl : ∀ x ∈ l, TkOk x) (h12 : l.length ≤ 12) {i : Nat} (hi : i < l.length) : 1 ≤ baseI t l i ∧ baseI t l i ≤ 43000 := by
  have h1 := job_le ht (hl _ (tk_mem hi))
  have h2 := block_le ht (tk l i).f0 l t.sec hl
  have h3 := ht.sec
  unfold baseI blockI
  omega

set_option maxRecDepth 100000 in
set_option maxHeartbeats 1000000 in
theorem bound_any (cs : Array Value) (t : Tab) (A : Option Addr) (c : Nat) (l : List S33) (h : AnaC cs t (.slice A l.length c)) (ht : TOk t) (hl : ∀ x ∈ l, TkOk x) (h12 : l.length ≤ 12) (i : Nat) (hi : i < l.length) (w : World) (hC : Kd.C k33 w A l.length l) :
    Calls Try.prog 36 #[.agg cs, .int .i64 i] w fun e w' => e = .returned (bndV (baseI t l i) (bndO (demI t l i (baseI t l i)) 1000000)) ∧ Below w.heap.size w w' := by
  have HJ := Lib.hid (fun x hx => job_any cs t _ h ht x (TkOk.f4 hx) (TkOk.f5 hx))
  have HK := Lib.hid (fun W hC => block_any cs t A c l h ht hl h12 i hi W hC)
  have HD := Lib.hid (fun base hb r hr W qb qa qi => dem_any cs t A c l h ht hl h12 i hi base hb r hr W qb qa qi)
  have HM := Lib.hid (fun base r s hrs => dem_mono ht hl i base (r := r) (s := s) hrs)
  have HN := Lib.hid (fun base r hr => dem_base ht hl i base (r := r) hr)
  have hbase := base_le ht hl h12 hi
  have hx := Lib.hid (hl _ (tk_mem hi))
  have HTK := Lib.hid h.tasks
  have HS := Lib.hid h.size
  have hlen : (l.length : Int) ≤ 12 := by omega
  have hi0 : (0 : Int) ≤ (i : Int) := by omega
  have hi1 : (i : Int) < (l.length : Int) := by omega
  have HBE := Lib.hid (show baseI t l i = jobI t (tk l i) + blockI t l i from rfl)
  generalize baseI t l i = base at hbase HBE ⊢
  obtain ⟨b0, b1⟩ := hbase
  have HCC := Lib.hid hC
  clear ht hl h hC
  go_enter Try.func36, Try.ntmps36
  go_wp2
  refine abs_w (fun W => W.heap[w.heap.size]? = some (.cells cs 69 (0, 0)) ∧ W.heap[w.heap.size + 1]? = some (.cells #[.int .i64 i] 3 (0, 0)) ∧ Below w.heap.size w W) ⟨blk_alloc (blk_new _ _) _, by simpa using blk_new (w.alloc (.cells cs 69)) (.cells #[.int .i64 i] 3), below_alloc (below_alloc (Below.refl _ _) _) _⟩ ?_
  rintro W ⟨hq0, hq1, hB⟩
  have HCW := Lib.hid (Kd.C_below HCC.out hB)
  have HB := Lib.hid hB
  clear hB HCC
  generalize w.heap.size + 1 = q1 at hq1 ⊢
  generalize w.heap.size = q at hq0 ⊢
  have l0 := later_whole (P := Try.prog) hq0 HS.out
  have l26 := later_cell (v := .slice A l.length c) ((blk_cell hq0 26).trans HTK.out)
  have li := later_cell (v := .int .i64 i) (blk_cell hq1 0)
  have HQ0 := Lib.hid (later_blk hq0)
  clear hq0 hq1
  obtain ⟨ad, rfl, lk, -⟩ := tasks_at HCW.out i hi
  have HJX := Lib.hid (HJ.out (tk l i) hx.out)
  have HKX := Lib.hid (fun w' (hw : Below W.heap.size W w') => HK.out w' (Kd.C_below HCW.out hw))
  generalize tk l i = x at lk HJX HBE hx
  have hv : IntKind.i64.wrap (jobI t x + blockI t l i) = base := by
    have he := HBE.out
    rw [← he]
    exact IntWalk.i64_in _ (by omega)
  go_region_held3 (fun w' => Below W.heap.size W w') (first | assumption | exact below_drew (Below.refl _ _) | exact below_step (by assumption) hb37 | exact below_step (by assumption) hb38 | exact below_new (by assumption) _ | exact below_realloc (by assumption) (by first | omega | (simp; done) | (simp; omega)) _ | exact Below.setCell (by assumption) (by first | omega | (simp; done) | (simp; omega)) _)
    (first
      | (go_at_call 37; refine (HJX.out _).mono ?_; rintro e w37 ⟨rfl, hb37⟩; obtain ⟨hc37, hf37⟩ := bcell hb37; have hz37 := hb37.size; (try simp at hz37); have hy37 : True := trivial; (try have hy37 := Nat.lt_of_succ_le hz37))
      | (go_at_call 38; refine (HKX.out _ (by assumption)).mono ?_; rintro e w38 ⟨rfl, hb38⟩; obtain ⟨hc38, hf38⟩ := bcell hb38; have hz38 := hb38.size; (try simp at hz38); have hy38 : True := trivial; (try have hy38 := Nat.lt_of_succ_le hz38)))
  all_goals
    first
      | (refine abs_e (BaseAt W base W.heap.size) ⟨by assumption, ?_, ?_⟩ ?_; omega; (focus (go_simp; done)); generalize W.heap.size = g)
      | (refine abs_e (BaseAt W base w37.heap.size) ⟨by assumption, ?_, ?_⟩ ?_; omega; (focus (go_simp; done)); generalize w37.heap.size = g)
      | (refine abs_e (BaseAt W base w38.heap.size) ⟨by assumption, ?_, ?_⟩ ?_; omega; (focus (go_simp; done)); generalize w38.heap.size = g)
      | fail
    clear hv hb37 hb38 hc37 hc38 hf37 hf38 hz37 hz38 hy37 hy38
    rintro w2 ⟨hB2, hgW, hcg⟩
    have HGW := Lib.hid hgW
    have HF := Lib.hid (fix_any (demI t l i base) (HM.out base) base (HN.out base) (by omega) (.pointer (some ⟨g, 0, none⟩)) (.pointer (some ⟨q, 0, none⟩)) (.pointer (some ⟨q1, 0, none⟩)) w2
      (fun r w' h0 h1 hw => HD.out base ⟨b0, by omega⟩ r ⟨h0, h1⟩ w' g q q1 (Kd.C_below HCW.out (below_step hB2 hw)) (pw_cell_below hw hcg) (HQ0.out _ (below_step hB2 hw)) (li _ (below_step hB2 hw))))
    go_wp2_with fail
    refine (HF.out).mono ?_
    rintro e w4 ⟨rfl, hb4⟩
    clear HF
    obtain ⟨o, ho⟩ : ∃ o, bndO (demI t l i base) 1000000 = o := ⟨_, rfl⟩
    rw [ho]
    have HO := Lib.hid ho
    clear ho
    cases o
    all_goals
      unfold bndV
      dsimp only
      go_wp2
      go_ret2
      refine ⟨?_, below_step HB.out (below_step hB2 hb4)⟩
      rw [HO.out]
      rfl
end Go.Proofs.Ytmbfnhnemhojjaa
