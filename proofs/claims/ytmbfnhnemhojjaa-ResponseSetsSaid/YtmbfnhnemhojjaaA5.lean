/- The demand of a task: the closure of bound. -/
import Derived.Test.YtmbfnhnemhojjaaA4
namespace Go.Proofs.Ytmbfnhnemhojjaa
set_option linter.unusedVariables false
set_option linter.unusedSimpArgs false
open Go.RowKit Go.Proofs.YtmbfnhnemhojjaaW.PrintWords Go.Proofs.YtmbfnhnemhojjaaW.PrintLast Go.Proofs.YtmbfnhnemhojjaaW.PrintMore PResponseCosts FLib
attribute [local go_sem ↓] hold_cells hold_from
attribute [local go_sem] below_alloc_T below_drew_T below_drewN_T

def hpB (l : List S33) (i j : Nat) : Bool := decide (j ≠ i) && decide ((tk l i).f0 ≤ (tk l j).f0)
def term (t : Tab) (x : S33) (r : Int) : Int := ((r + x.f1 - 1) / x.f1 + 1) * (jobI t x + greatI t)
def demF (t : Tab) (l : List S33) (i : Nat) (r n : Int) (j : Nat) : Int := if hpB l i j = true then n + term t (tk l j) r else n
def demI (t : Tab) (l : List S33) (i : Nat) (base r : Int) : Int := (List.range l.length).foldl (demF t l i r) base
theorem great_le {t : Tab} (ht : TOk t) : 1 ≤ greatI t ∧ greatI t ≤ 1000 := by
  have := ht.cost 6 (by omega); have := ht.cost 7 (by omega); have := ht.cost 1 (by omega); have := ht.cost 13 (by omega); have := ht.cost 23 (by omega)
  unfold greatI mx2
  repeat' split
  all_goals omega
theorem job_le {t : Tab} (ht : TOk t) {x : S33} (h : TkOk x) : 1 ≤ jobI t x ∧ jobI t x ≤ 6000 := by
  have := ht.cost 1 (by omega); have := ht.cost 23 (by omega); have := crit_le ht h.f5; have := h.f4
  unfold jobI; omega
theorem quo_le {r p : Int} (hr : 0 ≤ r ∧ r ≤ 1000000) (hp : 1 ≤ p ∧ p ≤ 100000) : 0 ≤ (r + p - 1) / p ∧ (r + p - 1) / p ≤ 1100000 :=
  ⟨Int.ediv_nonneg (by omega) (by omega), Int.le_trans (Int.ediv_le_self _ (by omega)) (by omega)⟩
theorem term_le {t : Tab} (ht : TOk t) {x : S33} (h : TkOk x) {r : Int} (hr : 0 ≤ r ∧ r ≤ 1000000) : 0 ≤ term t x r ∧ term t x r ≤ 7701000000 := by
  have hq := quo_le hr h.f1
  have hj := job_le ht h
  have hg := great_le ht
  unfold term
  generalize (r + x.f1 - 1) / x.f1 = q at hq ⊢
  obtain ⟨s, hs⟩ : ∃ s, jobI t x + greatI t = s := ⟨_, rfl⟩
  rw [hs]
  constructor
  · exact Int.mul_nonneg (by omega) (by omega)
  · exact Int.le_trans (Int.mul_le_mul_of_nonneg_right (show q + 1 ≤ 1100001 by omega) (by omega)) (by omega)
theorem dem_le {t : Tab} (ht : TOk t) {l : List S33} (hl : ∀ x ∈ l, TkOk x) (i : Nat) (base : Int) {r : Int} (hr : 0 ≤ r ∧ r ≤ 1000000) (k : Nat) (hk : k ≤ l.length) :
    base ≤ (List.range k).foldl (demF t l i r) base ∧ (List.range k).foldl (demF t l i r) base ≤ base + 7701000000 * k := by
  induction k with
  | zero => simp
  | succ k ih =>
    have := ih (by omega)
    have ht := term_le ht (hl _ (tk_mem (show k < l.length by omega))) hr
    rw [List.range_succ, List.foldl_append]
    simp only [List.foldl_cons, List.foldl_nil]
    unfold demF at this ⊢
    split <;> omega

theorem range_foldl {α : Type} (f : α → Nat → α) (a : α) (k : Nat) : (List.range (k + 1)).foldl f a = f ((List.range k).foldl f a) k := by
  rw [List.range_succ, List.foldl_append]; rfl

set_option maxRecDepth 100000 in
set_option maxHeartbeats 1000000 in
theorem dem_any (cs : Array Value) (t : Tab) (A : Option Addr) (c : Nat) (l : List S33) (h : AnaC cs t (.slice A l.length c)) (ht : TOk t) (hl : ∀ x ∈ l, TkOk x) (h12 : l.length ≤ 12) (i : Nat) (hi : i < l.length) (base : Int) (hb : 1 ≤ base ∧ base ≤ 1000000)
    (r : Int) (hr : 0 ≤ r ∧ r ≤ 1000000) (W : World) (qb qa qi : Nat) (hC : Kd.C k33 W A l.length l) (hqb : W.cell? ⟨qb, 0, none⟩ = some (.int .i64 base)) (hqa : W.heap[qa]? = some (.cells cs 69 (0, 0))) (hqi : W.cell? ⟨qi, 0, none⟩ = some (.int .i64 i)) :
    Calls Try.prog 55 #[.int .i64 r, .pointer (some ⟨qb, 0, none⟩), .pointer (some ⟨qa, 0, none⟩), .pointer (some ⟨qi, 0, none⟩)] W fun e w' => e = .returned (.int .i64 (demI t l i base r)) ∧ Below W.heap.size W w' := by
  have HJ := Lib.hid (fun x hx => job_any cs t _ h ht x (TkOk.f4 hx) (TkOk.f5 hx))
  have HG := Lib.hid (great_any cs t _ h ht)
  have HP := Lib.hid (fun k hk => dem_le ht hl i base hr k hk)
  have l0 := later_whole (P := Try.prog) hqa h.size
  have l26 := later_cell (v := .slice A l.length c) ((blk_cell hqa 26).trans h.tasks)
  have lb := later_cell hqb
  have li := later_cell hqi
  have HCW := Lib.hid hC
  have HT := Lib.hid ht
  have HL := Lib.hid hl
  obtain ⟨b0, b1⟩ := hb
  obtain ⟨r0, r1⟩ := hr
  have hlen : (l.length : Int) ≤ 12 := by omega
  have hs0 := Below.refl W.heap.size W
  clear hqb hqa hqi hC h ht hl
  unfold demI
  go_enter Try.func55, Try.ntmps55
  go_wp2
  clear hs0
  go_loopw [6, 13] (fun n i' wr => ∃ k : Nat, k ≤ l.length ∧ i' = .int .i64 k ∧ n = .int .i64 ((List.range k).foldl (demF t l i r) base) ∧ Below W.heap.size W wr) (fun _ i' _ => l.length - (intOf i').toNat)
  case atStart => exact ⟨0, Nat.zero_le _, rfl, rfl, Below.refl _ _⟩
  case round =>
    obtain ⟨k, hk, rfl, rfl, hBr⟩ := hrel
    by_cases hlt : k < l.length
    · obtain ⟨ad, rfl, lk, -⟩ := tasks_at HCW.out k hlt
      obtain ⟨ad', he, -, lp⟩ := tasks_at HCW.out i hi
      obtain rfl : ad = ad' := by simpa using he
      clear he
      obtain ⟨n0, n1⟩ := HP.out k hk
      have hx := HL.out _ (tk_mem hlt)
      have hj := job_le HT.out hx
      have hg := great_le HT.out
      have hq := quo_le ⟨r0, r1⟩ hx.f1
      have hm := term_le HT.out hx ⟨r0, r1⟩
      have HJX := Lib.hid (HJ.out (tk l k) hx)
      have HTE := Lib.hid (show term t (tk l k) r = ((r + (tk l k).f1 - 1) / (tk l k).f1 + 1) * (jobI t (tk l k) + greatI t) from rfl)
      have HPB := Lib.hid (show hpB l i k = (decide (k ≠ i) && decide ((tk l i).f0 ≤ (tk l k).f0)) from rfl)
      obtain ⟨p0, p1⟩ := hx.f1
      have hts : demF t l i r ((List.range k).foldl (demF t l i r) base) k = if hpB l i k = true then (List.range k).foldl (demF t l i r) base + term t (tk l k) r else (List.range k).foldl (demF t l i r) base := rfl
      have HRF := Lib.hid (range_foldl (demF t l i r) base k)
      generalize (List.range k).foldl (demF t l i r) base = n at hts n0 n1 HRF ⊢
      generalize (tk l i).f0 = p at lp HPB
      generalize term t (tk l k) r = tm at hts hm HTE
      generalize tk l k = x at lk HJX HTE HPB hq p0 p1 hj hx
      have HTS := Lib.hid hts
      obtain ⟨hj0, hj1⟩ := hj
      obtain ⟨hg0, hg1⟩ := hg
      obtain ⟨hq0, hq1⟩ := hq
      generalize jobI t x = j at HJX HTE hj0 hj1
      generalize greatI t = gr at HG HTE hg0 hg1
      have hi0 : (0 : Int) ≤ (k : Int) := by omega
      have hi1 : (k : Int) < (l.length : Int) := by omega
      have hi2 : (0 : Int) ≤ (i : Int) := by omega
      have hi3 : (i : Int) < (l.length : Int) := by omega
      clear hts hx
      go_wp2
      refine abs_w (fun w' => Below W.heap.size W w' ∧ w'.heap[wr.heap.size]? = some (.cells #[.int .i64 x.f0, .int .i64 x.f1, .int .i64 x.f2, .int .i64 x.f3, .int .i64 x.f4, .int .i64 x.f5] 33 (0, 0))) ⟨hBr.alloc hBr.size _, blk_new _ _⟩ ?_
      generalize wr.heap.size = g
      clear hBr
      rintro w1 ⟨hB1, hg1⟩
      have x0 := later_cell (v := .int .i64 x.f0) (blk_cell hg1 0)
      have x1 := later_cell (v := .int .i64 x.f1) (blk_cell hg1 1)
      have xr := later_whole (P := Try.prog) (n := 6) hg1 rfl
      have hs1 := Below.refl w1.heap.size w1
      clear hg1
      by_cases hki : k = i
      · subst hki
        go_quiet (fail)
        go_wp2
        go_roundw
        case rel => exact ⟨k + 1, by omega, by go_num, by rw [HRF.out, HTS.out]; simp [hpB], pw_below_drewN hB1 _⟩
        case measure => simp [intOf]; omega
      · have hd1 : ((k : Int) != (i : Int)) = true := by simp; omega
        by_cases hpx : p ≤ x.f0
        · go_quiet (fail)
          go_wp2
          refine abs_w (fun w' => Below W.heap.size W w' ∧ Below w1.heap.size w1 w') ⟨pw_below_drewN hB1 _, pw_below_drewN hs1 _⟩ ?_
          rintro w2 ⟨hB2, hs2⟩
          have x1' := later_cell (x1 w2 hs2)
          have xr' := fun w' hw => xr w' (below_step hs2 hw)
          have l0' := fun w' hw => l0 w' (below_step hB2 hw)
          clear l0 lk lp x0 x1 xr l26 lb li hB1 hs1 hd1
          have v1 : IntKind.i64.wrap (r + x.f1) = r + x.f1 := IntWalk.i64_in _ (by omega)
          have v2 : IntKind.i64.wrap (r + x.f1 - 1) = r + x.f1 - 1 := IntWalk.i64_in _ (by omega)
          have v3 : (r + x.f1 - 1).tdiv x.f1 = (r + x.f1 - 1) / x.f1 := Int.tdiv_eq_ediv_of_nonneg (by omega)
          have v4 : ¬ x.f1 = 0 := by omega
          go_region_held3 (fun w' => Below w2.heap.size w2 w') (first | assumption | exact below_drew (Below.refl _ _) | exact below_step (by assumption) hb1)
            (first | (go_at_call 37; refine (HJX.out _).mono ?_; rintro e w3 ⟨rfl, hb1⟩) | (go_at_call 56; refine (HG.out _).mono ?_; rintro e w3 ⟨rfl, hb1⟩))
          all_goals
            have hB3 := below_step hB2 (by assumption)
            clear v1 v2 v3 v4
            go_wp2
            go_roundw
            case rel =>
              refine ⟨k + 1, by omega, by go_num, ?_, hB3⟩
              rw [HRF.out, HTS.out, HPB.out, if_pos (by simp [hpx]; omega), HTE.out]
              rw [HTE.out] at hm
              generalize (r + x.f1 - 1) / x.f1 = q at hq0 hq1 hm ⊢
              have e0 : IntKind.i64.wrap q = q := IntWalk.i64_in _ (by omega)
              have e1 : IntKind.i64.wrap (q + 1) = q + 1 := IntWalk.i64_in _ (by omega)
              have e2 : IntKind.i64.wrap (j + gr) = j + gr := IntWalk.i64_in _ (by omega)
              have e3 : IntKind.i64.wrap ((q + 1) * (j + gr)) = (q + 1) * (j + gr) := IntWalk.i64_in _ (by omega)
              have e4 : IntKind.i64.wrap (n + (q + 1) * (j + gr)) = n + (q + 1) * (j + gr) := IntWalk.i64_in _ (by omega)
              simp only [e0, e1, e2, e3, e4]
            case measure => simp [intOf]; omega
        · go_quiet (fail)
          go_wp2
          go_roundw
          case rel => exact ⟨k + 1, by omega, by go_num, by rw [HRF.out, HTS.out, HPB.out]; simp [hpx], pw_below_drewN hB1 _⟩
          case measure => simp [intOf]; omega
    · obtain rfl : k = l.length := by omega
      go_wp2
      go_ret
      exact ⟨rfl, hBr⟩
end Go.Proofs.Ytmbfnhnemhojjaa
