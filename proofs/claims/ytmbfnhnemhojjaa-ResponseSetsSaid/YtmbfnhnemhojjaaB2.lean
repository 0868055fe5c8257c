/- count, Check, Clone. -/
import Derived.Test.YtmbfnhnemhojjaaB1
import Derived.WalkSpells
import Derived.Lib.BufferMore
namespace Go.Proofs.Ytmbfnhnemhojjaa
set_option linter.unusedVariables false
set_option linter.unusedSimpArgs false
open Go.RowKit Go.Proofs.YtmbfnhnemhojjaaW.PrintWords Go.Proofs.YtmbfnhnemhojjaaW.PrintLast Go.Proofs.YtmbfnhnemhojjaaW.PrintMore PResponseCosts FLib
attribute [local go_sem ↓] hold_cells hold_from
attribute [local go_sem] below_alloc_T below_drew_T below_drewN_T

theorem run_box {P : Program} {w : World} {cs : Array Value} {ty n : Nat} (h : cs.size = n) : RunCells P ⟨w.heap.size, 0, none⟩ n (w.alloc (.cells cs ty)) = .ok cs (w.alloc (.cells cs ty)) := runCells_blk (blk_new w _) h
theorem run_box2 {P : Program} {w : World} {cs : Array Value} {ty n : Nat} {o : Obj} (h : cs.size = n) : RunCells P ⟨w.heap.size, 0, none⟩ n ((w.alloc (.cells cs ty)).alloc o) = .ok cs ((w.alloc (.cells cs ty)).alloc o) := runCells_blk (blk_alloc (blk_new w _) o) h
attribute [local go_sem] run_box run_box2
theorem tcells_len {t : Tab} (h : t.costs.length = 24) : (tabCells t).toArray.size = 26 := by simp [tabCells, ints, h]
/-- The cells of a table. -/
structure TabC (cs : Array Value) (t : Tab) : Prop where
  size : cs.size = 26
  one : cs.all (·.oneCell') = true
  sec : cs[0]? = some (.int .i64 t.sec)
  cost : ∀ k, k < 24 → cs[2 + k]? = some (.int .i64 (cAt t k))
theorem tabC {t : Tab} (h : t.costs.length = 24) : TabC (tabCells t).toArray t :=
  ⟨tcells_len h, by simp [tabCells, ints, Value.oneCell'], rfl, fun k hk => tab_cost t k _ (by simp [ints, cAt, List.getD, List.getElem?_eq_getElem (show k < t.costs.length by omega)])⟩
theorem TabC.ana {cs : Array Value} {t : Tab} (h : TabC cs t) (v : Value) : AnaC (cs.push v) t v :=
  ⟨by simp [h.size], by rw [Array.getElem?_push_lt (by rw [h.size]; omega), ← Array.getElem?_eq_getElem]; exact h.sec, fun k hk => by rw [Array.getElem?_push_lt (by rw [h.size]; omega), ← Array.getElem?_eq_getElem]; exact h.cost k hk, by rw [← h.size]; simp⟩
theorem okT_TOk {t : Tab} (hl : t.costs.length = 24) (h : okT t = true) : TOk t := by
  unfold okT inC at h
  simp only [Bool.and_eq_true, decide_eq_true_eq, List.all_eq_true] at h
  refine ⟨hl, h.1.1, fun k hk => ?_⟩
  have := h.2 (cAt t k) (by
    unfold cAt
    rw [List.getD_eq_getElem?_getD, List.getElem?_eq_getElem (by omega)]
    exact List.getElem_mem _)
  simpa using this

def cntI (l : List S33) : Int := if l.length = 0 then 9 else if 12 < l.length then 18 else 0
def chkI (t : Tab) (l : List S33) : Int := if okT t = true then (if cntI l = 0 then (if l.any (fun x => !okTk x) = true then 34 else 0) else cntI l) else 34
/-- A checked set. -/
structure Set (t : Tab) (l : List S33) : Prop where
  tab : TOk t
  tasks : ∀ x ∈ l, TkOk x
  pos : 0 < l.length
  le : l.length ≤ 12
theorem chk_ok {t : Tab} {l : List S33} (ht : t.costs.length = 24) (h : chkI t l = 0) : Set t l := by
  unfold chkI at h
  split at h
  · rename_i h1
    split at h
    · rename_i h2
      split at h
      · cases h
      · rename_i h3
        refine ⟨okT_TOk ht h1, fun x hx => okTk_iff.1 ?_, ?_, ?_⟩
        · cases hb : okTk x with
          | true => rfl
          | false => exact absurd (List.any_eq_true.2 ⟨x, hx, by simp [hb]⟩) h3
        · unfold cntI at h2; split at h2 <;> omega
        · unfold cntI at h2; split at h2
          · omega
          · split at h2 <;> omega
    · rename_i h2; exact absurd h h2
  · cases h
theorem chkI_range (t : Tab) (l : List S33) : chkI t l = 0 ∨ chkI t l = 9 ∨ chkI t l = 18 ∨ chkI t l = 34 := by
  unfold chkI cntI
  repeat' split
  all_goals omega

set_option maxRecDepth 100000 in
theorem count_any (A : Option Addr) (c : Nat) (l : List S33) (W : World) : Calls Try.prog 30 #[.slice A l.length c] W fun e w' => e = .returned (.int .i64 (cntI l)) ∧ W = w' := by
  by_cases h0 : l.length = 0
  · have HE := Lib.hid (show cntI l = 9 by unfold cntI; rw [if_pos h0])
    have hb : ((l.length : Int) == 0) = true := by simp [h0]
    have HH := Lib.hid h0
    rw [h0]
    clear h0 hb
    go_enter Try.func30, Try.ntmps30
    go_wp2
    go_ret
    exact ⟨by rw [HE.out]; rfl, rfl⟩
  by_cases h12 : 12 < l.length
  · have HE := Lib.hid (show cntI l = 18 by unfold cntI; rw [if_neg h0, if_pos h12])
    have h1 : (12 : Int) < (l.length : Int) := by omega
    have h2 : ¬ (l.length : Int) = 0 := by omega
    clear h0 h12
    go_enter Try.func30, Try.ntmps30
    go_wp2
    go_ret
    exact ⟨by rw [HE.out]; rfl, rfl⟩
  · have HE := Lib.hid (show cntI l = 0 by unfold cntI; rw [if_neg h0, if_neg h12])
    have h1 : ¬ (12 : Int) < (l.length : Int) := by omega
    have h2 : ¬ (l.length : Int) = 0 := by omega
    clear h0 h12
    go_enter Try.func30, Try.ntmps30
    go_wp2
    go_ret
    exact ⟨by rw [HE.out]; rfl, rfl⟩

set_option maxRecDepth 100000 in
set_option maxHeartbeats 400000 in
theorem check_any (t : Tab) (ht : t.costs.length = 24) (A : Option Addr) (c : Nat) (l : List S33) (w : World) (hC : Kd.C k33 w A l.length l) :
    Calls Try.prog 8 #[tabV t, .slice A l.length c] w fun e w' => e = .returned (.int .i64 (chkI t l)) ∧ Below w.heap.size w w' := by
  have HT := Lib.hid (tcheck_any t ht)
  have HN := Lib.hid (count_any A c l)
  have HCI := Lib.hid (fun b hb W hC => contains_eq32 (fun x => !okTk x) b (fun x w' => bad_eq x w') A c l hb W hC)
  have HC := Lib.hid hC
  have HS := Lib.hid (tcells_len ht)
  unfold tabV at HT ⊢
  generalize (tabCells t).toArray = cs at HT HS ⊢
  have HE := Lib.hid (show chkI t l = if okT t = true then (if cntI l = 0 then (if l.any (fun x => !okTk x) = true then 34 else 0) else cntI l) else 34 from rfl)
  have HR : Hid (cntI l = 0 ∨ cntI l = 9 ∨ cntI l = 18) := Lib.hid (by unfold cntI; repeat' split; all_goals omega)
  clear ht hC
  have hsz := HS.out
  go_enter Try.func8, Try.ntmps8
  go_wp2_with fail
  refine (HT.out _).mono ?_
  rintro e w1 ⟨rfl, hb1⟩
  have HCW := Lib.hid (Kd.C_below HC.out (below_alloc (Below.refl w.heap.size w) (.cells cs 24)))
  have HB := Lib.hid (below_then (below_alloc (Below.refl w.heap.size w) (.cells cs 24)) (by simp) hb1)
  cases ho : okT t with
  | false =>
    rw [ho, if_neg (by decide)] at HE
    rw [if_neg (by decide)]
    clear ho
    go_wp2
    go_ret
    exact ⟨by rw [HE.out]; rfl, HB.out⟩
  | true =>
    rw [ho, if_pos rfl] at HE
    rw [if_pos rfl]
    clear ho
    go_wp2_with fail
    refine (HN.out _).mono ?_
    rintro e w2 ⟨rfl, rfl⟩
    rcases HR.out with h0 | h0 | h0
    · rw [h0, if_pos rfl] at HE
      rw [h0]
      clear h0
      cases ha : l.any (fun x => !okTk x) with
      | true =>
        rw [ha, if_pos rfl] at HE
        have HCT := Lib.hid (HCI.out _ ha w1 (Kd.C_below HCW.out hb1))
        clear ha
        go_wp2_with fail
        refine HCT.out.mono ?_
        rintro e w3 ⟨rfl, hb3⟩
        go_wp2
        go_ret
        exact ⟨by rw [HE.out]; rfl, below_step HB.out hb3⟩
      | false =>
        rw [ha, if_neg (by decide)] at HE
        have HCT := Lib.hid (HCI.out _ ha w1 (Kd.C_below HCW.out hb1))
        clear ha
        go_wp2_with fail
        refine HCT.out.mono ?_
        rintro e w3 ⟨rfl, hb3⟩
        go_wp2
        go_ret
        exact ⟨by rw [HE.out]; rfl, below_step HB.out hb3⟩
    all_goals
      rw [h0, if_neg (by decide)] at HE
      rw [h0]
      clear h0
      go_wp2
      go_ret
      exact ⟨by rw [HE.out]; rfl, HB.out⟩

theorem info33 : (Try.prog.info? 33).map (fun i => (i.zero, i.size, i.bytes)) = some (some (.agg #[(.int .i64 0), (.int .i64 0), (.int .i64 0), (.int .i64 0), (.int .i64 0), (.int .i64 0)]), 6, 48) := by kernel_rfl
theorem tk_rows {w : World} {A : Option Addr} {n : Nat} {l : List S33} (h : Kd.C k33 w A n l) : ReadsRow (fun (x : S33) cs => cs = tkCells x) k33.sz w A n l :=
  ReadsRow.imp_ h (Below.refl _ _) (fun _ _ hp => k33_open hp)
/-- An empty literal. -/
theorem R_empty {α : Type} (d : Kd α) (e base : Nat) (w : World) (hb : base ≤ w.heap.size) : d.R e (w.alloc (.cells #[] e)) base (fun _ => True) (.slice (some ⟨w.heap.size, 0, none⟩) 0 0) [] :=
  ⟨fun _ _ => trivial, [], World.ownsRow_lit (base := base) (e := e) (size := d.sz) w #[] 0 hb (by simp [maxLen]) (by simp), Reps.none _ _⟩

set_option maxRecDepth 100000 in
set_option maxHeartbeats 400000 in
theorem clone_any (A : Option Addr) (c : Nat) (l : List S33) (hp : 0 < l.length) (hn : l.length ≤ 100000) (W : World) (hC : Kd.C k33 W A l.length l) :
    Calls Try.prog 49 #[.slice A l.length c] W fun e w' => ∃ v, e = .returned v ∧ Kd.R k33 33 w' W.heap.size (fun _ => True) v l ∧ Below W.heap.size W w' := by
  obtain ⟨ad, rfl, -⟩ := tasks_at hC 0 hp
  have HC := Lib.hid hC
  have HN := Lib.hid hn
  clear hC hp hn
  have HB0 := Lib.hid (below_alloc (Below.refl W.heap.size W) (.cells #[] 33))
  have HR0 := Lib.hid (R_empty k33 33 W.heap.size W (Nat.le_refl _))
  have hnil := fun w => Lib.run_eql_slice_some_nil (P := Try.prog) w ad l.length c Try.underlying25
  go_enter Try.func49, Try.ntmps49
  go_wp2_with (at_builtin; refine Kd.R_append_rows k33 (w0 := W) (Rr := fun x cs => cs = tkCells x) W.heap.size rfl (.tmp 5) (.tmp 6) 25 33 _ 48 rfl Try.underlying25 info33 rfl (by decide) (by decide) (.slice (some ⟨W.heap.size, 0, none⟩) 0 0) [] l (some ad) l.length c (fun _ => True) (fun _ => False) rfl rfl HR0.out (tk_rows (Kd.C_below HC.out HB0.out)) (fun x cs hx => by subst hx; exact k33_mkM _ _ _ x) (fun _ h => h.elim) (fun _ _ => trivial) HB0.out HB0.out.size (by have := HN.out; simp; omega) ?_; intro v1 w1 hR1 hB1 _ _)
  have HR1 := Lib.hid hR1
  have HB1 := Lib.hid hB1
  clear hR1 hB1
  go_wp2
  go_ret
  exact ⟨v1, rfl, by simpa using HR1.out, HB1.out⟩
end Go.Proofs.Ytmbfnhnemhojjaa
