/- An analysis: blocking. -/
import Derived.Test.YtmbfnhnemhojjaaA3
import Derived.Deep.QuietTactic
import Derived.BigQuiet
namespace Go.Proofs.Ytmbfnhnemhojjaa
set_option linter.unusedVariables false
set_option linter.unusedSimpArgs false
open Go.RowKit Go.Proofs.YtmbfnhnemhojjaaW.PrintWords Go.Proofs.YtmbfnhnemhojjaaW.PrintLast Go.Proofs.YtmbfnhnemhojjaaW.PrintMore PResponseCosts FLib

theorem below_alloc_T {W w : World} (o : Obj) (h : Below W.heap.size W w) : Below W.heap.size W (w.alloc o) = True := eq_true (h.alloc h.size o)
theorem below_drew_T {W w : World} (h : Below W.heap.size W w) : Below W.heap.size W w.drew = True := eq_true h.drew
theorem below_drewN_T {W w : World} (n : Nat) (h : Below W.heap.size W w) : Below W.heap.size W (w.drewN n) = True := eq_true (pw_below_drewN h n)
attribute [local go_sem ↓] hold_cells hold_from
attribute [local go_sem] below_alloc_T below_drew_T below_drewN_T

structure TkOk (x : S33) : Prop where
  f0 : 1 ≤ x.f0 ∧ x.f0 ≤ 255
  f1 : 1 ≤ x.f1 ∧ x.f1 ≤ 100000
  f2 : 1 ≤ x.f2 ∧ x.f2 ≤ x.f1
  f3 : 0 ≤ x.f3 ∧ x.f3 ≤ 99999
  f4 : 1 ≤ x.f4 ∧ x.f4 ≤ 1000
  f5 : 0 ≤ x.f5 ∧ x.f5 ≤ 1000
def tk (l : List S33) (k : Nat) : S33 := l.getD k z33
theorem tk_get {l : List S33} {k : Nat} (h : k < l.length) : l[k]? = some (tk l k) := by simp [tk, List.getD, h]
theorem tk_mem {l : List S33} {k : Nat} (h : k < l.length) : tk l k ∈ l := List.mem_of_getElem? (tk_get h)
def blockF (t : Tab) (p : Int) (n : Int) (x : S33) : Int := if x.f0 < p then n + critI t x else n
def blockI (t : Tab) (l : List S33) (i : Nat) : Int := l.foldl (blockF t (tk l i).f0) t.sec
theorem take_foldl {α β : Type} (f : α → β → α) (a : α) (l : List β) (k : Nat) (x : β) (h : l[k]? = some x) : (l.take (k + 1)).foldl f a = f ((l.take k).foldl f a) x := by
  rw [List.take_add_one, h]; simp [List.foldl_append]
theorem crit_le {t : Tab} (ht : TOk t) {x : S33} (h : 0 ≤ x.f5 ∧ x.f5 ≤ 1000) : 0 ≤ critI t x ∧ critI t x ≤ 3000 := by
  have := ht.cost 6 (by omega); have := ht.cost 7 (by omega)
  unfold critI; split <;> omega
theorem block_le {t : Tab} (ht : TOk t) (p : Int) (l : List S33) : ∀ n, (∀ x ∈ l, TkOk x) → n ≤ l.foldl (blockF t p) n ∧ l.foldl (blockF t p) n ≤ n + 3000 * l.length := by
  induction l with
  | nil => intro n _; simp
  | cons x l ih =>
    intro n h
    have h1 := ih (blockF t p n x) (fun y hy => h y (List.mem_cons_of_mem _ hy))
    have h2 := crit_le ht (h x (List.mem_cons_self ..)).f5
    have h3 : n ≤ blockF t p n x ∧ blockF t p n x ≤ n + 3000 := by unfold blockF; split <;> omega
    simp only [List.foldl_cons, List.length_cons]
    omega
/-- The tasks of a slice, in every later world. -/
theorem tasks_at {W : World} {A : Option Addr} {n : Nat} {l : List S33} (h : Kd.C k33 W A n l) (k : Nat) (hk : k < n) : ∃ ad, A = some ad ∧ (∀ w', Below W.heap.size W w' → RunCells Try.prog (ad.add (k * 6)) 6 w' = .ok #[.int .i64 (tk l k).f0, .int .i64 (tk l k).f1, .int .i64 (tk l k).f2, .int .i64 (tk l k).f3, .int .i64 (tk l k).f4, .int .i64 (tk l k).f5] w') ∧ (∀ w', Below W.heap.size W w' → w'.cell? (ad.add (k * 6)) = some (.int .i64 (tk l k).f0)) := by
  obtain ⟨ad, c, e, _, hK, hc0⟩ := Kd.C_get h z33 (k : Int) (by omega) (by omega)
  have hc : ∀ j u, c[j]? = some u → W.cell? (ad.add (k * 6 + j)) = some u := hc0
  obtain rfl := k33_open hK
  have e1 : rd_T33 l (k : Int) = tk l k := by simp [rd_T33, tk]
  refine ⟨ad, e, later_run (fun j v hv => ?_) rfl, later_cell ?_⟩
  · rw [show (ad.add (k * 6)).add j = ad.add (k * 6 + j) from ?_]
    · refine hc j v ?_
      rw [← hv]
      simp [tk]
    · unfold Addr.add
      by_cases h1 : k * 6 = 0 <;> by_cases h2 : j = 0 <;> simp [h1, h2, Nat.add_assoc]
  · have := hc 0 _ rfl
    simpa [tk] using this

set_option maxRecDepth 100000 in
set_option maxHeartbeats 400000 in
theorem block_any (cs : Array Value) (t : Tab) (A : Option Addr) (c : Nat) (l : List S33) (h : AnaC cs t (.slice A l.length c)) (ht : TOk t) (hl : ∀ x ∈ l, TkOk x) (h12 : l.length ≤ 12) (i : Nat) (hi : i < l.length) (w : World) (hC : Kd.C k33 w A l.length l) :
    Calls Try.prog 38 #[.agg cs, .int .i64 i] w fun e w' => e = .returned (.int .i64 (blockI t l i)) ∧ Below w.heap.size w w' := by
  have HC := Lib.hid (fun x h5 => crit_any cs t _ h ht x h5)
  have hsec := h.sec
  have htk := h.tasks
  have HS := Lib.hid h.size
  have HT := Lib.hid ht
  have HL := Lib.hid hl
  obtain ⟨bs, bs'⟩ := ht.sec
  have HP := Lib.hid (fun k => block_le ht (tk l i).f0 (l.take k) t.sec (fun x hx => hl x (List.mem_of_mem_take hx)))
  clear ht hl h
  unfold blockI
  obtain ⟨p, hp⟩ : ∃ p, (tk l i).f0 = p := ⟨_, rfl⟩
  rw [hp] at HP ⊢
  have HPE := Lib.hid hp
  clear hp
  go_enter Try.func38, Try.ntmps38
  go_wp2
  refine abs_w (fun W => W.heap[w.heap.size]? = some (.cells cs 69 (0, 0)) ∧ Below w.heap.size w W) ⟨blk_new _ _, below_alloc (Below.refl _ _) _⟩ ?_
  rintro W ⟨hq0, hB⟩
  have HCW := Lib.hid (Kd.C_below hC hB)
  have HB := Lib.hid hB
  generalize w.heap.size = q at hq0 ⊢
  have l0 := later_whole (P := Try.prog) hq0 HS.out
  have l26 := later_cell (v := .slice A l.length c) ((blk_cell hq0 26).trans htk)
  have hlen : (l.length : Int) ≤ 12 := by omega
  clear hq0 hB hC hsec htk
  go_loopw [5, 14] (fun n i wr => ∃ k : Nat, k ≤ l.length ∧ i = .int .i64 k ∧ n = .int .i64 ((l.take k).foldl (blockF t p) t.sec) ∧ Below W.heap.size W wr) (fun _ i _ => l.length - (intOf i).toNat)
  case atStart => exact ⟨0, Nat.zero_le _, rfl, rfl, Below.refl _ _⟩
  case round =>
    obtain ⟨k, hk, rfl, rfl, hBr⟩ := hrel
    by_cases hlt : k < l.length
    · obtain ⟨ad, rfl, lk, -⟩ := tasks_at HCW.out k hlt
      obtain ⟨ad', he, -, li⟩ := tasks_at HCW.out i hi
      obtain rfl : ad = ad' := by simpa using he
      clear he
      have hts := take_foldl (blockF t p) t.sec l k (tk l k) (tk_get hlt)
      have hcl := crit_le HT.out (HL.out _ (tk_mem hlt)).f5
      have hx5 := Lib.hid (HL.out _ (tk_mem hlt)).f5
      obtain ⟨n0, n1⟩ := HP.out k
      have hlk : (l.take k).length ≤ k := List.length_take_le _ _
      have HCX := Lib.hid (HC.out (tk l k) hx5.out)
      rw [HPE.out] at li
      generalize (l.take k).foldl (blockF t p) t.sec = n at hts n0 n1 ⊢
      generalize tk l k = x at lk hts hcl HCX
      obtain ⟨hc0, hc1⟩ := hcl
      have HTS := Lib.hid hts
      have hi0 : (0 : Int) ≤ (k : Int) := by omega
      have hi1 : (k : Int) < (l.length : Int) := by omega
      have hi2 : (0 : Int) ≤ (i : Int) := by omega
      have hi3 : (i : Int) < (l.length : Int) := by omega
      clear hts hx5
      go_wp2
      refine abs_w (fun w' => Below W.heap.size W w' ∧ w'.heap[wr.heap.size]? = some (.cells #[.int .i64 x.f0, .int .i64 x.f1, .int .i64 x.f2, .int .i64 x.f3, .int .i64 x.f4, .int .i64 x.f5] 33 (0, 0))) ⟨hBr.alloc hBr.size _, blk_new _ _⟩ ?_
      generalize wr.heap.size = g
      clear hBr
      rintro w1 ⟨hB1, hg1⟩
      have x0 := later_cell (v := .int .i64 x.f0) (blk_cell hg1 0)
      have xr := later_whole (P := Try.prog) (n := 6) hg1 rfl
      have hs1 := Below.refl w1.heap.size w1
      clear hg1
      by_cases hp : x.f0 < p
      · go_quiet (fail)
        go_wp2_with (go_at_call 57; refine (HCX.out _).mono ?_; rintro e w2 ⟨rfl, hb2⟩)
        go_roundw
        case rel => exact ⟨k + 1, by omega, by go_num, by rw [HTS.out]; unfold blockF; rw [if_pos hp], below_step (pw_below_drewN hB1 _) hb2⟩
        case measure => simp [intOf]; omega
      · go_quiet (fail)
        go_wp2
        go_roundw
        case rel => exact ⟨k + 1, by omega, by go_num, by rw [HTS.out]; unfold blockF; rw [if_neg hp], pw_below_drewN hB1 _⟩
        case measure => simp [intOf]; omega
    · obtain rfl : k = l.length := by omega
      rw [List.take_length]
      go_wp2
      go_ret
      refine ⟨rfl, ?_⟩
      exact below_step HB.out hBr
end Go.Proofs.Ytmbfnhnemhojjaa
