/- Timers: both side by side. -/
import Derived.Test.YtodgbpggkikbcaaMS
import Derived.Test.YtodgbpggkikbcaaMM
import Derived.Deep.RegionHeld3
namespace Go.Proofs.Ytodgbpggkikbcaa
section
set_option linter.unusedVariables false
set_option linter.unusedSimpArgs false
open Go.RowKit Go.Maps Go.Sort Go.Proofs.YtodgbpggkikbcaaW.PrintWords Go.Proofs.YtodgbpggkikbcaaW.PrintLast Go.Proofs.YtodgbpggkikbcaaW.PrintMore FLib
attribute [local go_sem] below_alloc_T below_drew_T below_drewN_T

theorem eq_nil (v1 v2 : Value) (h1 : v1 = .slice none 0 0 ∨ ∃ g c, v1 = .slice (some ⟨g, 0, none⟩) 0 c) (h2 : v2 = .slice none 0 0 ∨ ∃ g c, v2 = .slice (some ⟨g, 0, none⟩) 0 c) (w : World) :
    Calls Try.prog 23 #[v1, v2] w fun e w' => e = .returned (.bool true) ∧ Below w.heap.size w w' := by
  rcases h1 with rfl | ⟨g1, c1, rfl⟩ <;> rcases h2 with rfl | ⟨g2, c2, rfl⟩
  all_goals
    go_enter Try.func23, Try.ntmps23
    go_wp2
    refine wp_loop_rounds 1 ?_
    rw [rounds_succ]
    go_wp2
    go_ret
    exact ⟨rfl, Below.refl _ _⟩
set_option maxRecDepth 100000 in
theorem eq_same (b1 b2 : Nat) (v1 v2 : Value) (l : List Nat) (hl : l.length ≤ 1000) (w : World) (h1 : NRow w b1 v1 l) (h2 : NRow w b2 v2 l) :
    Calls Try.prog 23 #[v1, v2] w fun e w' => e = .returned (.bool true) ∧ Below w.heap.size w w' := by
  by_cases hz : l.length = 0
  · refine eq_nil v1 v2 ?_ ?_ w
    · rcases h1.form with ⟨rfl, -⟩ | ⟨g, c, rfl⟩
      · exact .inl rfl
      · exact .inr ⟨g, c, by rw [hz]⟩
    · rcases h2.form with ⟨rfl, -⟩ | ⟨g, c, rfl⟩
      · exact .inl rfl
      · exact .inr ⟨g, c, by rw [hz]⟩
  · have HR1 := Lib.hid h1
    have HR2 := Lib.hid h2
    have HL := Lib.hid hl
    rcases h1.form with ⟨-, e⟩ | ⟨g1, c1, rfl⟩
    · exact absurd e hz
    rcases h2.form with ⟨-, e⟩ | ⟨g2, c2, rfl⟩
    · exact absurd e hz
    clear h1 h2 hl hz
    go_enter Try.func23, Try.ntmps23
    go_wp2
    go_loopw [13] (fun t wr => ∃ k : Nat, k ≤ l.length ∧ t = .int .i64 k ∧ Hid (Below w.heap.size w wr)) (fun t _ => l.length - (RowKit.intOf t).toNat)
    case atStart => exact ⟨0, Nat.zero_le _, rfl, Lib.hid (Below.refl _ _)⟩
    case round =>
      obtain ⟨k, hk, rfl, hB⟩ := hrel
      have hlr : (l.length : Int) ≤ 1000 := by have := HL.out; omega
      by_cases hlt : k < l.length
      · obtain ⟨j, hj⟩ : ∃ j, l[k]? = some j := ⟨_, List.getElem?_eq_getElem hlt⟩
        obtain ⟨g', cap', he, d0⟩ := (HR1.out.below hB.out).cell hj
        obtain ⟨rfl, rfl⟩ : g1 = g' ∧ c1 = cap' := by simpa using he
        obtain ⟨g', cap', he, d1⟩ := (HR2.out.below hB.out).cell hj
        obtain ⟨rfl, rfl⟩ : g2 = g' ∧ c2 = cap' := by simpa using he
        have hk0 : (0 : Int) ≤ (k : Int) := by omega
        have hk1 : (k : Int) < (l.length : Int) := by omega
        have HKL := Lib.hid hlt
        clear he hj hlt
        go_wp2
        go_quiet (fail)
        go_wp2
        go_roundw
        case rel => exact ⟨k + 1, by have := HKL.out; omega, by go_num, Lib.hid (pw_below_drewN hB.out _)⟩
        case measure => have := HKL.out; simp [RowKit.intOf]; omega
      · obtain rfl : k = l.length := by omega
        go_wp2
        go_ret
        exact ⟨rfl, hB.out⟩

/-- What the law gives the reference: a specification's cells, laid anew. -/
theorem spec_any (a b c : Int) (w : World) :
    Calls Try.prog 36 #[.agg #[.int .i64 a, .int .i64 b, .int .i64 c]] w fun e w' => e = .returned (.agg #[.int .i64 a, .int .i64 b, .int .i64 c]) ∧ Below w.heap.size w w' := by
  go_enter Try.func36, Try.ntmps36
  go_wp2
  refine bodyPost_ret (v := .agg #[.int .i64 a, .int .i64 b, .int .i64 c]) (by simp [results, Try.results36, go_sem]) rfl ?_
  exact ⟨rfl, below_alloc (below_alloc (Below.refl _ _) _) _⟩
end
section
set_option linter.unusedVariables false
set_option linter.unusedSimpArgs false
open Go.RowKit Go.Maps Go.Sort Go.Proofs.YtodgbpggkikbcaaW.PrintWords Go.Proofs.YtodgbpggkikbcaaW.PrintLast Go.Proofs.YtodgbpggkikbcaaW.PrintMore FLib
attribute [local go_sem] below_alloc_T below_drew_T below_drewN_T

/-- One that fired: its number, its event, what it missed. -/
structure FR where
  a : Int
  b0 : Int
  b1 : Int
  b2 : Int
  b3 : Int
  b4 : Int
  o : Int
def FR.cells (x : FR) : List Value := [.int .i64 x.a, .int .i64 x.b0, .int .i64 x.b1, .int .i64 x.b2, .int .i64 x.b3, .int .i64 x.b4, .int .i64 x.o]
def fflat (l : List FR) : List Value := l.flatMap FR.cells
theorem fflat_get {l : List FR} {k : Nat} {x : FR} (h : l[k]? = some x) {j : Nat} (hj : j < 7) : (fflat l)[k * 7 + j]? = x.cells[j]? := by
  induction l generalizing k with
  | nil => simp at h
  | cons a l ih =>
    unfold fflat at ih ⊢
    rw [List.flatMap_cons]
    cases k with
    | zero =>
      have e : a = x := by simpa using h
      subst e
      rw [Nat.zero_mul, Nat.zero_add, List.getElem?_append_left (by simpa [FR.cells] using hj)]
    | succ k =>
      rw [List.getElem?_append_right (by simp [FR.cells]; omega)]
      have e : (k + 1) * 7 + j - a.cells.length = k * 7 + j := by simp [FR.cells]; omega
      rw [e]
      exact ih (by simpa using h)
theorem own_form2 {w : World} {base e sz n : Nat} {v : Value} {xs : List Value} (h : w.ownsRow base e sz v n xs) : (v = .slice none 0 0 ∧ n = 0) ∨ ∃ g c, v = .slice (some ⟨g, 0, none⟩) n c := by
  rcases h.2 with h2 | ⟨g, c, cur, h1, -⟩
  · exact .inl h2
  · exact .inr ⟨g, c, h1⟩
theorem own_cell7 {w : World} {base e g c : Nat} {l : List FR} (h : w.ownsRow base e 7 (.slice (some ⟨g, 0, none⟩) l.length c) l.length (fflat l)) {k : Nat} {x : FR} (hk : l[k]? = some x) :
    w.cell? ⟨g, k * 7, none⟩ = some (.int .i64 x.a) ∧ w.cell? ⟨g, k * 7 + 1, none⟩ = some (.int .i64 x.b0) ∧ w.cell? ⟨g, k * 7 + 2, none⟩ = some (.int .i64 x.b1) ∧ w.cell? ⟨g, k * 7 + 3, none⟩ = some (.int .i64 x.b2) ∧ w.cell? ⟨g, k * 7 + 4, none⟩ = some (.int .i64 x.b3) ∧ w.cell? ⟨g, k * 7 + 5, none⟩ = some (.int .i64 x.b4) ∧ w.cell? ⟨g, k * 7 + 6, none⟩ = some (.int .i64 x.o) := by
  have key : ∀ j u, j < 7 → x.cells[j]? = some u → w.cell? ⟨g, k * 7 + j, none⟩ = some u := fun j u hj hu => by
    have := h.cells (g := g) rfl (k * 7 + j) u (by rw [fflat_get hk hj]; exact hu)
    rw [addmk, Nat.zero_add] at this
    exact this
  exact ⟨key 0 _ (by omega) rfl, key 1 _ (by omega) rfl, key 2 _ (by omega) rfl, key 3 _ (by omega) rfl, key 4 _ (by omega) rfl, key 5 _ (by omega) rfl, key 6 _ (by omega) rfl⟩

set_option maxRecDepth 100000 in
theorem feq_any (x : FR) (w : World) :
    Calls Try.prog 56 #[.agg #[.int .i64 x.a, .int .i64 x.b0, .int .i64 x.b1, .int .i64 x.b2, .int .i64 x.b3, .int .i64 x.b4, .int .i64 x.o], .agg #[.int .i64 x.a, .int .i64 x.b0, .int .i64 x.b1, .int .i64 x.b2, .int .i64 x.b3, .int .i64 x.b4, .int .i64 x.o]] w
      fun e w' => e = .returned (.bool true) ∧ Below w.heap.size w w' := by
  go_enter Try.func56, Try.ntmps56
  go_wp2
  go_ret
  exact ⟨rfl, below_alloc (below_alloc (Below.refl _ _) _) _⟩
theorem eqf_nil (v1 v2 f : Value) (h1 : v1 = .slice none 0 0 ∨ ∃ g c, v1 = .slice (some ⟨g, 0, none⟩) 0 c) (h2 : v2 = .slice none 0 0 ∨ ∃ g c, v2 = .slice (some ⟨g, 0, none⟩) 0 c) (w : World) :
    Calls Try.prog 55 #[v1, v2, f] w fun e w' => e = .returned (.bool true) ∧ Below w.heap.size w w' := by
  rcases h1 with rfl | ⟨g1, c1, rfl⟩ <;> rcases h2 with rfl | ⟨g2, c2, rfl⟩
  all_goals
    go_enter Try.func55, Try.ntmps55
    go_wp2
    refine wp_loop_rounds 1 ?_
    rw [rounds_succ]
    go_wp2
    go_ret
    exact ⟨rfl, Below.refl _ _⟩
set_option maxRecDepth 100000 in
set_option maxHeartbeats 1000000 in
theorem eqf_any (b1 b2 : Nat) (v1 v2 : Value) (l : List FR) (hl : l.length ≤ 1000) (w : World) (h1 : w.ownsRow b1 40 7 v1 l.length (fflat l)) (h2 : w.ownsRow b2 106 7 v2 l.length (fflat l)) :
    Calls Try.prog 55 #[v1, v2, .func (.func 56) #[] #[]] w fun e w' => e = .returned (.bool true) ∧ Below w.heap.size w w' := by
  by_cases hz : l.length = 0
  · refine eqf_nil v1 v2 _ ?_ ?_ w
    · rcases own_form2 h1 with ⟨rfl, -⟩ | ⟨g, c, rfl⟩
      · exact .inl rfl
      · exact .inr ⟨g, c, by rw [hz]⟩
    · rcases own_form2 h2 with ⟨rfl, -⟩ | ⟨g, c, rfl⟩
      · exact .inl rfl
      · exact .inr ⟨g, c, by rw [hz]⟩
  · have HR1 := Lib.hid h1
    have HR2 := Lib.hid h2
    have HL := Lib.hid hl
    rcases own_form2 h1 with ⟨-, e⟩ | ⟨g1, c1, rfl⟩
    · exact absurd e hz
    rcases own_form2 h2 with ⟨-, e⟩ | ⟨g2, c2, rfl⟩
    · exact absurd e hz
    clear h1 h2 hl hz
    go_enter Try.func55, Try.ntmps55
    go_wp2
    go_loopw [17] (fun t wr => ∃ k : Nat, k ≤ l.length ∧ t = .int .i64 k ∧ Hid (Below w.heap.size w wr)) (fun t _ => l.length - (RowKit.intOf t).toNat)
    case atStart => exact ⟨0, Nat.zero_le _, rfl, Lib.hid (Below.refl _ _)⟩
    case round =>
      obtain ⟨k, hk, rfl, hB⟩ := hrel
      have hlr : (l.length : Int) ≤ 1000 := by have := HL.out; omega
      by_cases hlt : k < l.length
      · obtain ⟨x, hx⟩ : ∃ x, l[k]? = some x := ⟨_, List.getElem?_eq_getElem hlt⟩
        obtain ⟨p0, p1, p2, p3, p4, p5, p6⟩ := own_cell7 (pw_own_below HR1.out hB.out) hx
        obtain ⟨q0, q1, q2, q3, q4, q5, q6⟩ := own_cell7 (pw_own_below HR2.out hB.out) hx
        have s0 := later_cell q0
        have s1 := later_cell q1
        have s2 := later_cell q2
        have s3 := later_cell q3
        have s4 := later_cell q4
        have s5 := later_cell q5
        have s6 := later_cell q6
        have hbr := Below.refl wr.heap.size wr
        clear q0 q1 q2 q3 q4 q5 q6
        have hk0 : (0 : Int) ≤ (k : Int) := by omega
        have hk1 : (k : Int) < (l.length : Int) := by omega
        have HKL := Lib.hid hlt
        have HF := Lib.hid (feq_any x)
        clear hx hlt
        go_wp2_with fail
        refine (HF.out _).mono ?_
        rintro e w3 ⟨rfl, hb3⟩
        have HB3 := Lib.hid (below_step hB.out (below_step (below_alloc (below_alloc (Below.refl _ _) _) _) hb3))
        clear hb3
        go_wp2
        go_roundw
        case rel => exact ⟨k + 1, by have := HKL.out; omega, by go_num, HB3⟩
        case measure => have := HKL.out; simp [RowKit.intOf]; omega
      · obtain rfl : k = l.length := by omega
        go_wp2
        go_ret
        exact ⟨rfl, hB.out⟩
theorem fired_any (b1 b2 : Nat) (v1 v2 : Value) (l : List FR) (hl : l.length ≤ 1000) (w : World) (h1 : w.ownsRow b1 40 7 v1 l.length (fflat l)) (h2 : w.ownsRow b2 106 7 v2 l.length (fflat l)) :
    Calls Try.prog 41 #[v1, v2] w fun e w' => e = .returned (.bool true) ∧ Below w.heap.size w w' := by
  have HE := Lib.hid (eqf_any b1 b2 v1 v2 l hl w h1 h2)
  clear h1 h2 hl
  go_enter Try.func41, Try.ntmps41
  go_wp2_with fail
  refine HE.out.mono ?_
  rintro e w3 ⟨rfl, hb3⟩
  go_wp2
  go_ret
  exact ⟨rfl, hb3⟩
end
section
set_option linter.unusedVariables false
set_option linter.unusedSimpArgs false
open Go.RowKit Go.Maps Go.Sort Go.Lib Go.Shelf Go.Proofs.YtodgbpggkikbcaaW.PrintWords Go.Proofs.YtodgbpggkikbcaaW.PrintLast Go.Proofs.YtodgbpggkikbcaaW.PrintMore FLib

/-- What the reference holds. -/
def rR (L : Slots) : RSt := L.map (Option.map Prod.snd)
theorem rR_len (L : Slots) : (rR L).length = L.length := List.length_map _
theorem rR_get (L : Slots) (i : Nat) : (rR L)[i]? = (L[i]?).map (Option.map Prod.snd) := List.getElem?_map
theorem rR_rT (L : Slots) (i : Nat) : rT (rR L) i = ((L[i]?).join).map Prod.snd := by
  unfold rT; rw [rR_get]
  cases L[i]? with
  | none => rfl
  | some o => cases o <;> rfl
theorem rR_at (L : Slots) (i : Int) : rAt (rR L) i = (at' L i).map Prod.snd := by
  unfold rAt at'
  split
  · exact rR_rT L i.toNat
  · rfl
theorem rR_some (L : Slots) (i : Int) : (rAt (rR L) i).isSome = (at' L i).isSome := by rw [rR_at]; cases at' L i <;> rfl
theorem rR_spec (L : Slots) (i : Int) : specT (rAt (rR L) i) = specV (at' L i) := by
  rw [rR_at]
  rcases at' L i with _ | ⟨b, t⟩ <;> rfl
theorem rR_set (L : Slots) (i : Nat) (o : Option (Nat × TT)) : rR (L.set i o) = (rR L).set i (o.map Prod.snd) := List.map_set
theorem rR_setC (L : Slots) (i f iv tol : Int) : rsetC (rR L) i f iv tol = setC L i f iv tol := by unfold rsetC setC; rw [rR_some]
theorem rR_setV (L : Slots) (i f iv tol : Int) : rsetV (rR L) i f iv tol = setV L i f iv tol := by
  unfold rsetV setV; rw [rR_setC, rR_spec]
  split
  · rfl
  · rfl
theorem rR_setL (L : Slots) (i f iv tol : Int) : rR (setL L i f iv tol) = rsetR (rR L) i f iv tol := by
  unfold setL rsetR
  rw [rR_at]
  rcases at' L i with _ | ⟨b, t⟩
  · rfl
  · simp only [Option.map_some]
    split
    · exact rR_set L _ _
    · rfl
theorem rR_del (L : Slots) (i : Int) : rR (delL L i) = rdelR (rR L) i := by
  unfold delL rdelR
  rw [rR_at]
  rcases at' L i with _ | ⟨b, t⟩
  · rfl
  · exact rR_set L _ _
theorem rR_free (L : Slots) : rfree (rR L) = free L := by
  unfold rfree rR free
  rw [List.findIdx_map]
  congr 1
  funext o
  cases o <;> rfl
theorem full_iff {L : Slots} (h : L.length ≤ 1000) : rfree (rR L) = 1000 ↔ 1000 ≤ cnt L := by
  rw [rR_free]
  unfold free cnt
  have h1 : List.findIdx (·.isNone) L ≤ L.length := List.findIdx_le_length
  have h2 : L.countP (·.isSome) ≤ L.length := List.countP_le_length
  constructor
  · intro e
    have hl : List.findIdx (·.isNone) L = L.length := by omega
    rw [List.findIdx_eq_length] at hl
    have : L.countP (·.isSome) = L.length := List.countP_eq_length.2 (fun a ha => by have := hl a ha; cases a <;> simp_all)
    omega
  · intro e
    have hc : L.countP (·.isSome) = L.length := by omega
    rw [List.countP_eq_length] at hc
    have : List.findIdx (·.isNone) L = L.length := List.findIdx_eq_length.2 (fun a ha => by
      cases a with
      | none => exact absurd (hc none ha) (by decide)
      | some x => rfl)
    omega
theorem rR_creC {L : Slots} (h : L.length ≤ 1000) (own e0 e1 e2 e3 : Int) : rcreC (rR L) own e0 e1 e2 e3 = creC L own e0 e1 e2 e3 := by
  unfold rcreC creC
  by_cases hf : 1000 ≤ cnt L
  · rw [if_pos hf, if_pos ((full_iff h).2 hf)]
  · rw [if_neg hf, if_neg (fun e => hf ((full_iff h).1 e))]
theorem rR_creI {L : Slots} (h : L.length ≤ 1000) (own e0 e1 e2 e3 : Int) : rcreI (rR L) own e0 e1 e2 e3 = creI L own e0 e1 e2 e3 := by
  unfold rcreI creI
  rw [rR_creC h, rR_free]
theorem rR_put (L : Slots) (g : Nat) (t : TT) : rR (putAt L (free L) (g, t)) = rputAt (rR L) (rfree (rR L)) t := by
  unfold putAt rputAt
  rw [rR_free, rR_len]
  split
  · exact rR_set L _ _
  · unfold rR; rw [List.map_append]; rfl
theorem rR_drop (L : Slots) (own : Int) : rR (dropL L own) = rdropK (rR L) own (rR L).length := by
  refine List.ext_getElem? fun i => ?_
  unfold rdropK dropL
  rw [List.getElem?_mapIdx, rR_get, rR_get, List.getElem?_map]
  cases h : L[i]? with
  | none => rfl
  | some o =>
    have hi : i < (rR L).length := by rw [rR_len]; exact (List.getElem?_eq_some_iff.1 h).1
    simp only [Option.map_some, if_pos hi]
    rcases o with _ | ⟨b, t⟩
    · rfl
    · by_cases e : t.own = own
      · simp [dropO', dropO, isOwnL, isOwn, e]
      · simp [dropO', dropO, isOwnL, isOwn, e]
theorem rR_dropN (L : Slots) (own : Int) : (rdropN (rR L) own (rR L).length : Int) = (cnt L : Int) - (cnt (dropL L own) : Int) := by
  unfold rdropN
  rw [List.take_length]
  unfold rR cnt dropL
  induction L with
  | nil => rfl
  | cons o L ih =>
    simp only [List.map_cons, List.countP_cons, List.countP_map] at ih ⊢
    rcases o with _ | ⟨b, t⟩
    · simp [isOwn, dropO', isOwnL]; exact ih
    · by_cases e : t.own = own
      · simp [isOwn, dropO', isOwnL, e]; omega
      · simp [isOwn, dropO', isOwnL, e]; omega
theorem rR_ids (L : Slots) : rids (rR L) (rR L).length = ids L := by
  unfold rids ids
  rw [rR_len]
  congr 1
  funext i
  unfold rin isT
  rw [show ((rR L)[i]?).join = rT (rR L) i from rfl, rR_rT, at_nat]
  cases (L[i]?).join <;> rfl
theorem rR_ok {L : Slots} (h : LOk L) : ROk (rR L) := fun i t hi => by
  rw [rR_get] at hi
  cases hl : L[i]? with
  | none => rw [hl] at hi; cases hi
  | some o =>
    rcases o with _ | ⟨b, t'⟩
    · rw [hl] at hi; cases hi
    · rw [hl] at hi
      have e : t' = t := by simpa using hi
      exact e ▸ h i b t' hl
theorem rR_fst (L : Slots) (i : Nat) : rfst (rR L) i = fstAt L i := by
  unfold rfst fstAt
  rw [rR_rT, at_nat]
  rcases (L[i]?).join with _ | ⟨b, t⟩ <;> rfl
theorem rR_tAt (L : Slots) (i : Nat) : rtAt (rR L) i = tAt L i := by
  unfold rtAt tAt
  rw [rR_rT, at_nat]
  rcases (L[i]?).join with _ | ⟨b, t⟩ <;> rfl
theorem rR_cand {L : Slots} (h : LOk L) (now : Int) (i : Nat) : cand (rR L) now i = true ↔ i ∈ dueL L now := by
  rw [mem_due, mem_arm]
  unfold cand
  rw [rR_rT, ← at_nat]
  cases ho : at' L (i : Int) with
  | none => simp [isT, ho]
  | some x =>
    obtain ⟨b, t⟩ := x
    have hi := at_nat_some.1 ho
    have h0 := (h i b t hi).f0
    rw [fst_of hi]
    have hT : isT L i = true := isT_iff.2 ⟨b, t, hi⟩
    simp only [Option.map_some, Bool.and_eq_true, bne_iff_ne, decide_eq_true_eq, hT, true_and]
    omega
theorem rR_due {L : Slots} (h : LOk L) (now : Int) : dueR (rR L) now = dueL L now := by
  have hs : (dueL L now).Pairwise (fun a b => leR (rR L) a b = true) := by
    rw [due_eq]
    refine ((arm_sorted L).filter _).imp (fun {a b} hab => ?_)
    rw [leT_iff] at hab
    rw [leR_iff, rR_fst, rR_fst]
    exact hab
  have hn : (dueL L now).Nodup := by rw [due_eq]; exact (arm_nodup L).filter _
  refine List.Perm.eq_of_pairwise (le := fun a b => leR (rR L) a b = true) (fun a b _ _ h1 h2 => ?_) (dueR_sorted _ _) hs ((List.perm_ext_iff_of_nodup (dueR_nodup _ _) hn).2 fun i => ?_)
  · rw [leR_iff] at h1 h2; omega
  · rw [mem_dueR, rR_cand h]
theorem rR_fire (L : Slots) (now : Int) (D : List Nat) : rR (fireD L now D) = rfire (rR L) now D := by
  refine List.ext_getElem? fun i => ?_
  rw [rfire_get, rR_get, rR_get, fireD_get]
  cases L[i]? with
  | none => rfl
  | some o =>
    simp only [Option.map_some]
    split
    · rcases o with _ | ⟨b, t⟩ <;> rfl
    · rfl
theorem rR_fd (L : Slots) (now : Int) (D : List Nat) : rfd (rR L) now D = firedD L now D := by
  unfold rfd firedD
  congr 1
  funext i
  rw [rR_tAt]
  rfl
/-- What a walk over a prefix of the reference's timers has found. -/
def NInv (R : RSt) (s : Int × Bool) : Prop :=
  (s = (0, false) ∧ ∀ t, some t ∈ R → t.fst = 0) ∨ (s.2 = true ∧ (∃ t, some t ∈ R ∧ t.fst ≠ 0 ∧ s.1 = t.fst + t.tol) ∧ ∀ t, some t ∈ R → t.fst ≠ 0 → s.1 ≤ t.fst + t.tol)
theorem ninv_step {R : RSt} {s : Int × Bool} (h : NInv R s) (o : Option TT) : NInv (R ++ [o]) (rstep s o) := by
  unfold rstep
  cases o with
  | none =>
    rcases h with ⟨h1, h2⟩ | ⟨h1, ⟨t, m, h2, h3⟩, h4⟩
    · exact .inl ⟨h1, fun t ht => h2 t (by simpa using ht)⟩
    · exact .inr ⟨h1, ⟨t, by simp [m], h2, h3⟩, fun t ht => h4 t (by simpa using ht)⟩
  | some x =>
    simp only
    by_cases hz : x.fst = 0
    · rw [if_neg (by simp [hz])]
      rcases h with ⟨h1, h2⟩ | ⟨h1, ⟨t, m, h2, h3⟩, h4⟩
      · refine .inl ⟨h1, fun t ht => ?_⟩
        rcases List.mem_append.1 ht with ht | ht
        · exact h2 t ht
        · have : t = x := by simpa using ht
          rw [this]; exact hz
      · refine .inr ⟨h1, ⟨t, by simp [m], h2, h3⟩, fun t ht hn => ?_⟩
        rcases List.mem_append.1 ht with ht | ht
        · exact h4 t ht hn
        · have : t = x := by simpa using ht
          rw [this] at hn; exact absurd hz hn
    · rcases h with ⟨h1, h2⟩ | ⟨h1, ⟨t, m, h2, h3⟩, h4⟩
      · rw [if_pos (by simp [hz, h1])]
        refine .inr ⟨rfl, ⟨x, by simp, hz, rfl⟩, fun t ht hn => ?_⟩
        rcases List.mem_append.1 ht with ht | ht
        · exact absurd (h2 t ht) hn
        · have : t = x := by simpa using ht
          rw [this]; exact Int.le_refl _
      · by_cases hc : x.fst + x.tol < s.1
        · rw [if_pos (by simp [hz, hc])]
          refine .inr ⟨rfl, ⟨x, by simp, hz, rfl⟩, fun t ht hn => ?_⟩
          rcases List.mem_append.1 ht with ht | ht
          · have := h4 t ht hn; show x.fst + x.tol ≤ _; omega
          · have : t = x := by simpa using ht
            rw [this]; exact Int.le_refl _
        · rw [if_neg (by simp [hz, h1, hc])]
          refine .inr ⟨h1, ⟨t, by simp [m], h2, h3⟩, fun t ht hn => ?_⟩
          rcases List.mem_append.1 ht with ht | ht
          · exact h4 t ht hn
          · have : t = x := by simpa using ht
            rw [this]; omega
theorem ninv_fold (S : RSt) : ∀ (R : RSt) (s : Int × Bool), NInv R s → NInv (R ++ S) (S.foldl rstep s) := by
  induction S with
  | nil => intro R s h; rw [List.append_nil]; exact h
  | cons o S ih =>
    intro R s h
    have := ih (R ++ [o]) (rstep s o) (ninv_step h o)
    rw [List.append_assoc] at this
    exact this
theorem ninv_all (R : RSt) : NInv R (rnextV R) := ninv_fold R [] (0, false) (.inl ⟨rfl, fun t ht => by cases ht⟩)
theorem mem_rR {L : Slots} {t : TT} : some t ∈ rR L ↔ ∃ (i b : Nat), L[i]? = some (some (b, t)) := by
  unfold rR
  rw [List.mem_map]
  constructor
  · rintro ⟨o, ho, e⟩
    rcases o with _ | ⟨b, t'⟩
    · cases e
    · have : t' = t := by simpa using e
      obtain ⟨i, hi⟩ := List.getElem?_of_mem ho
      exact ⟨i, b, this ▸ hi⟩
  · rintro ⟨i, b, hi⟩
    exact ⟨_, List.mem_of_getElem? hi, rfl⟩
theorem rR_next {L : Slots} (h : LOk L) : rnextV (rR L) = nextV L := by
  by_cases hE : arm L = []
  · have e : nextV L = (0, false) := by unfold nextV; rw [hE]; rfl
    rw [e]
    rcases ninv_all (rR L) with ⟨h1, h2⟩ | ⟨h1, ⟨t, m, h2, h3⟩, h4⟩
    · exact h1
    · obtain ⟨i, b, hi⟩ := mem_rR.1 m
      have := (h i b t hi).f0
      have : i ∈ arm L := (arm_iff hi).2 (by omega)
      rw [hE] at this; cases this
  · obtain ⟨i, hi⟩ : ∃ i, i ∈ arm L := List.exists_mem_of_ne_nil _ hE
    have hn := next_any_arm hi
    obtain ⟨⟨k, hk, ek⟩, hm⟩ := next_some hn
    rcases ninv_all (rR L) with ⟨h1, h2⟩ | ⟨h1, ⟨t, m, h2, h3⟩, h4⟩
    · obtain ⟨b, t, hit, -, -, hp⟩ := arm_get2 hi
      have := h2 t (mem_rR.2 ⟨i, b, hit⟩)
      omega
    · obtain ⟨j, b, hj⟩ := mem_rR.1 m
      have := (h j b t hj).f0
      have hja : j ∈ arm L := (arm_iff hj).2 (by omega)
      have l1 := hm j hja
      obtain ⟨b', t', hit', e1, e2, hp'⟩ := arm_get2 hk
      have l2 := h4 t' (mem_rR.2 ⟨k, b', hit'⟩) (by omega)
      obtain ⟨b2, t2, hit2, f1, f2, -⟩ := arm_get2 hja
      rw [hj] at hit2
      injection hit2 with hit2; injection hit2 with hit2; injection hit2 with _ hit2
      subst hit2
      refine Prod.ext ?_ (h1.trans hn.symm)
      omega
theorem rR_expG {L : Slots} (h : LOk L) (now : Int) : rexpG (rR L) now = expG L now := by unfold rexpG expG; rw [rR_next h]
theorem rR_expD {L : Slots} (h : LOk L) (clk now : Int) : rexpD (rR L) clk now = expD L clk now := by unfold rexpD expD; rw [rR_expG h, rR_due h]
theorem LOk.put {L : Slots} (h : LOk L) (g : Nat) {t : TT} (ht : TOk t) : LOk (putAt L (free L) (g, t)) := fun i b t' hi => by
  unfold putAt at hi
  split at hi
  · rw [List.getElem?_set] at hi
    split at hi
    · have e : g = b ∧ t = t' := by simpa using hi
      exact e.2 ▸ ht
    · exact h i b t' hi
  · rcases Nat.lt_or_ge i L.length with hlt | hge
    · rw [List.getElem?_append_left hlt] at hi; exact h i b t' hi
    · rw [List.getElem?_append_right hge] at hi
      cases hd : i - L.length with
      | zero =>
        rw [hd] at hi
        have e : g = b ∧ t = t' := by simpa using hi
        exact e.2 ▸ ht
      | succ n => rw [hd] at hi; simp at hi
theorem LOk.at_set {L : Slots} (h : LOk L) (k : Nat) {o : Option (Nat × TT)} (ho : ∀ b t, o = some (b, t) → TOk t) : LOk (L.set k o) := fun i b t' hi => by
  rw [List.getElem?_set] at hi
  split at hi
  · split at hi
    · exact ho b t' (by simpa using hi)
    · cases hi
  · exact h i b t' hi
theorem LOk.setL {L : Slots} (h : LOk L) (i f iv tol : Int) : LOk (setL L i f iv tol) := by
  unfold Go.Proofs.Ytodgbpggkikbcaa.setL
  split
  · split
    · rename_i hs
      refine h.at_set _ (fun b t e => ?_)
      injection e with e; injection e with _ e
      subst e
      simp only [specOk, okT, Bool.and_eq_true, decide_eq_true_eq] at hs
      obtain ⟨⟨⟨a1, a2⟩, b1, b2⟩, c1, c2⟩ := hs
      exact ⟨a1, a2, b1, b2, c1, c2⟩
    · exact h
  · exact h
theorem LOk.del {L : Slots} (h : LOk L) (i : Int) : LOk (delL L i) := by
  unfold delL
  split
  · exact h.at_set _ (fun b t e => by cases e)
  · exact h
theorem LOk.drop {L : Slots} (h : LOk L) (own : Int) : LOk (dropL L own) := fun i b t hi => by
  unfold dropL at hi
  rw [List.getElem?_map] at hi
  cases hl : L[i]? with
  | none => rw [hl] at hi; cases hi
  | some o =>
    rw [hl] at hi
    simp only [Option.map_some, Option.some.injEq] at hi
    unfold dropO' at hi
    split at hi
    · cases hi
    · exact h i b t (by rw [hl, hi])
end
section
set_option linter.unusedVariables false
set_option linter.unusedSimpArgs false
open Go.RowKit Go.Maps Go.Sort Go.Proofs.YtodgbpggkikbcaaW.PrintWords Go.Proofs.YtodgbpggkikbcaaW.PrintLast Go.Proofs.YtodgbpggkikbcaaW.PrintMore FLib

theorem rexp_any (q : Nat) (v : Value) (clk : Int) (R : RSt) (hok : ROk R) (now : Int) (w : World) (h : RS w q v clk R) :
    Calls Try.prog 40 #[.pointer (some ⟨q, 0, none⟩), .int .i64 now] w (RExp q v clk R now w) := by
  by_cases hc : expE clk now = 0 ∧ rexpG R now = true
  · exact rexp_some q v clk R hok now w h hc.1 hc.2
  · exact rexp_none q v clk R hok now w h hc

/-- The timers, the reference, and a block that is neither's. -/
structure Mid (w0 : World) (p mb q B : Nat) (o : Obj) (c1 : Int) (L : Slots) (c2 : Int) (R : RSt) (v : Value) (W : World) : Prop where
  low : Below w0.heap.size w0 W
  set : TS W p mb c1 L
  ref : RS W q v c2 R
  own : ∀ k, TOwn p mb L k → w0.heap.size ≤ k
  rown : ∀ k, ROwn q v k → w0.heap.size ≤ k
  sep : ∀ k, TOwn p mb L k → ¬ ROwn q v k
  box : W.heap[B]? = some o
  bt : ¬ TOwn p mb L B
  br : ¬ ROwn q v B
theorem Mid.fst {w0 : World} {p mb q B : Nat} {o : Obj} {c1 : Int} {L : Slots} {c2 : Int} {R : RSt} {v : Value} {W W' : World} (h : Mid w0 p mb q B o c1 L c2 R v W) {c1' : Int} {L' : Slots} (hT : TS W' p mb c1' L') (hk : Keeps W W' (TOwn p mb L)) (hs : ∀ k, TOwn p mb L' k → TOwn p mb L k ∨ W.heap.size ≤ k) : Mid w0 p mb q B o c1' L' c2 R v W' :=
  ⟨below_keeps h.low hk h.own, hT, h.ref.keep hk h.sep, fun k hk' => (hs k hk').elim (h.own k) (fun e => Nat.le_trans h.low.size e), h.rown, fun k hk' hr => (hs k hk').elim (fun e => h.sep k e hr) (fun e => by have := h.ref.own_lt hr; omega), hk.blk h.box h.bt, fun hb => (hs B hb).elim h.bt (fun e => by have := blk_lt h.box; omega), h.br⟩
theorem Mid.snd {w0 : World} {p mb q B : Nat} {o : Obj} {c1 : Int} {L : Slots} {c2 : Int} {R : RSt} {v : Value} {W W' : World} (h : Mid w0 p mb q B o c1 L c2 R v W) {c2' : Int} {R' : RSt} {v' : Value} (hT : RS W' q v' c2' R') (hk : Keeps W W' (ROwn q v)) (hs : ∀ k, ROwn q v' k → ROwn q v k ∨ W.heap.size ≤ k) : Mid w0 p mb q B o c1 L c2' R' v' W' :=
  ⟨below_keeps h.low hk h.rown, h.set.keep hk (fun k hr ht => h.sep k ht hr), hT, h.own, fun k hk' => (hs k hk').elim (h.rown k) (fun e => Nat.le_trans h.low.size e), fun k ht hr => (hs k hr).elim (h.sep k ht) (fun e => by have := h.set.own_lt ht; omega), hk.blk h.box h.br, h.bt, fun hb => (hs B hb).elim h.br (fun e => by have := blk_lt h.box; omega)⟩
theorem Mid.below {w0 : World} {p mb q B : Nat} {o : Obj} {c1 : Int} {L : Slots} {c2 : Int} {R : RSt} {v : Value} {W W' : World} (h : Mid w0 p mb q B o c1 L c2 R v W) (hb : Below W.heap.size W W') : Mid w0 p mb q B o c1 L c2 R v W' :=
  ⟨below_step h.low hb, h.set.below hb, h.ref.below hb, h.own, h.rown, h.sep, blk_below h.box hb, h.bt, h.br⟩
/-- The block may be another. -/
theorem Mid.take {w0 : World} {p mb q B : Nat} {o : Obj} {c1 : Int} {L : Slots} {c2 : Int} {R : RSt} {v : Value} {W : World} (h : Mid w0 p mb q B o c1 L c2 R v W) {B' : Nat} {o' : Obj} (hb : W.heap[B']? = some o') (ht : ¬ TOwn p mb L B') (hr : ¬ ROwn q v B') : Mid w0 p mb q B' o' c1 L c2 R v W :=
  ⟨h.low, h.set, h.ref, h.own, h.rown, h.sep, hb, ht, hr⟩
theorem Mid.new {w0 : World} {p mb q B : Nat} {o : Obj} {c1 : Int} {L : Slots} {c2 : Int} {R : RSt} {v : Value} {W : World} (h : Mid w0 p mb q B o c1 L c2 R v W) (o' : Obj) : Mid w0 p mb q W.heap.size o' c1 L c2 R v (W.alloc o') :=
  (h.below (below_alloc (Below.refl _ _) o')).take (blk_new W o') (fun e => by have := h.set.own_lt e; omega) (fun e => by have := h.ref.own_lt e; omega)

theorem put_own {L : Slots} {g i p mb k : Nat} {t : TT} (h : TOwn p mb (putAt L i (g, t)) k) : TOwn p mb L k ∨ k = g := by
  rcases h with h | h | ⟨j, t', h⟩
  · exact .inl (.inl h)
  · exact .inl (.inr (.inl h))
  · unfold putAt at h
    split at h
    · rw [List.getElem?_set] at h
      split at h
      · have e : g = k ∧ t = t' := by simpa using h
        exact .inr e.1.symm
      · exact .inl (.inr (.inr ⟨j, t', h⟩))
    · rcases Nat.lt_or_ge j L.length with hlt | hge
      · rw [List.getElem?_append_left hlt] at h; exact .inl (.inr (.inr ⟨j, t', h⟩))
      · rw [List.getElem?_append_right hge] at h
        cases hd : j - L.length with
        | zero =>
          rw [hd] at h
          have e : g = k ∧ t = t' := by simpa using h
          exact .inr e.1.symm
        | succ n => rw [hd] at h; simp at h

section
variable {w0 : World} {p mb q B : Nat} {o : Obj}
theorem cre1 {c1 : Int} {L : Slots} {c2 : Int} {R : RSt} {v : Value} {W : World} (h : Mid w0 p mb q B o c1 L c2 R v W) (hL : LOk L) (own e0 e1 e2 e3 e4 : Int) :
    Calls Try.prog 15 #[.pointer (some ⟨p, 0, none⟩), .int .i64 own, evV e0 e1 e2 e3 e4] W fun e w' =>
      e = .returned (.tuple #[.int .i64 (creI L own e0 e1 e2 e3), .int .i64 (creC L own e0 e1 e2 e3)]) ∧ ∃ L', rR L' = rcreR (rR L) own e0 e1 e2 e3 e4 ∧ LOk L' ∧ Mid w0 p mb q B o c1 L' c2 R v w' := by
  refine (cre_any p mb c1 L own e0 e1 e2 e3 e4 W h.set).mono ?_
  rintro e w' ⟨he, hp⟩
  refine ⟨he, ?_⟩
  by_cases h0 : creC L own e0 e1 e2 e3 = 0
  · obtain ⟨g, hg, hT⟩ := hp.yes h0
    refine ⟨_, ?_, hL.put g (t := newT own e0 e1 e2 e3 e4) ⟨by simp [newT], by simp [newT], by simp [newT], by simp [newT], by simp [newT], by simp [newT]⟩, h.fst hT hp.keep (fun k hk => (put_own hk).elim .inl (fun e => .inr (by rw [e]; exact hg)))⟩
    unfold rcreR
    rw [rR_creC h.set.len, if_pos h0]
    exact rR_put L g _
  · refine ⟨L, ?_, hL, h.fst (hp.no h0) hp.keep (fun k hk => .inl hk)⟩
    unfold rcreR
    rw [rR_creC h.set.len, if_neg h0]
theorem cre2 {c1 : Int} {L : Slots} {c2 : Int} {R : RSt} {v : Value} {W : World} (h : Mid w0 p mb q B o c1 L c2 R v W) (own e0 e1 e2 e3 e4 : Int) :
    Calls Try.prog 34 #[.pointer (some ⟨q, 0, none⟩), .int .i64 own, evV e0 e1 e2 e3 e4] W fun e w' =>
      e = .returned (.tuple #[.int .i64 (rcreI R own e0 e1 e2 e3), .int .i64 (rcreC R own e0 e1 e2 e3)]) ∧ ∃ v', Mid w0 p mb q B o c1 L c2 (rcreR R own e0 e1 e2 e3 e4) v' w' := by
  refine (rcre_any q v c2 R own e0 e1 e2 e3 e4 W h.ref).mono ?_
  rintro e w' ⟨he, hp⟩
  obtain ⟨v', hT, hs⟩ := hp.set
  exact ⟨he, v', h.snd hT hp.keep (fun k hk => hk.elim (fun e => .inl (.inl e)) (fun e => (hs k e).elim (fun e2 => .inl (.inr e2)) .inr))⟩
theorem set1 {c1 : Int} {L : Slots} {c2 : Int} {R : RSt} {v : Value} {W : World} (h : Mid w0 p mb q B o c1 L c2 R v W) (i : Int) (hi : (Lit.int .i64 i).wf = true) (f iv tol : Int) :
    Calls Try.prog 19 #[.pointer (some ⟨p, 0, none⟩), .int .i64 i, .agg #[.int .i64 f, .int .i64 iv, .int .i64 tol]] W fun e w' =>
      e = .returned (.tuple #[setV L i f iv tol, .int .i64 (setC L i f iv tol)]) ∧ Mid w0 p mb q B o c1 (setL L i f iv tol) c2 R v w' := by
  refine (set_any p mb c1 L i hi f iv tol W h.set).mono ?_
  rintro e w' ⟨he, hT, hk⟩
  exact ⟨he, h.fst hT hk (fun k hk => .inl (h.set.own0 i f iv tol k hk))⟩
theorem set2 {c1 : Int} {L : Slots} {c2 : Int} {R : RSt} {v : Value} {W : World} (h : Mid w0 p mb q B o c1 L c2 R v W) (i f iv tol : Int) :
    Calls Try.prog 35 #[.pointer (some ⟨q, 0, none⟩), .int .i64 i, .agg #[.int .i64 f, .int .i64 iv, .int .i64 tol]] W fun e w' =>
      e = .returned (.tuple #[rsetV R i f iv tol, .int .i64 (rsetC R i f iv tol)]) ∧ Mid w0 p mb q B o c1 L c2 (rsetR R i f iv tol) v w' := by
  refine (rset_any q v c2 R i f iv tol W h.ref).mono ?_
  rintro e w' ⟨he, hT, hk⟩
  exact ⟨he, h.snd hT hk (fun k hk => .inl hk)⟩
theorem get1 {c1 : Int} {L : Slots} {c2 : Int} {R : RSt} {v : Value} {W : World} (h : Mid w0 p mb q B o c1 L c2 R v W) (i : Int) (hi : (Lit.int .i64 i).wf = true) :
    Calls Try.prog 12 #[.pointer (some ⟨p, 0, none⟩), .int .i64 i] W fun e w' => e = .returned (.tuple #[specV (at' L i), .int .i64 (if (at' L i).isSome then 0 else 3)]) ∧ Mid w0 p mb q B o c1 L c2 R v w' ∧ Below W.heap.size W w' := by
  refine (get_any p mb c1 L i hi W h.set).mono ?_
  rintro e w' ⟨he, hb⟩
  exact ⟨he, h.below hb, hb⟩
theorem get2 {c1 : Int} {L : Slots} {c2 : Int} {R : RSt} {v : Value} {W : World} (h : Mid w0 p mb q B o c1 L c2 R v W) (i : Int) :
    Calls Try.prog 37 #[.pointer (some ⟨q, 0, none⟩), .int .i64 i] W fun e w' => e = .returned (.tuple #[specT (rAt R i), .int .i64 (if (rAt R i).isSome then 0 else 3)]) ∧ Mid w0 p mb q B o c1 L c2 R v w' ∧ Below W.heap.size W w' := by
  refine (rget_any q v c2 R i W h.ref).mono ?_
  rintro e w' ⟨he, hb⟩
  exact ⟨he, h.below hb, hb⟩
theorem del1 {c1 : Int} {L : Slots} {c2 : Int} {R : RSt} {v : Value} {W : World} (h : Mid w0 p mb q B o c1 L c2 R v W) (i : Int) (hi : (Lit.int .i64 i).wf = true) :
    Calls Try.prog 17 #[.pointer (some ⟨p, 0, none⟩), .int .i64 i] W fun e w' => e = .returned (.int .i64 (if (at' L i).isSome then 0 else 3)) ∧ Mid w0 p mb q B o c1 (delL L i) c2 R v w' := by
  refine (del_any p mb c1 L i hi W h.set).mono ?_
  rintro e w' ⟨he, hT, hk⟩
  exact ⟨he, h.fst hT hk (fun k hk => .inl (delL_own hk))⟩
theorem del2 {c1 : Int} {L : Slots} {c2 : Int} {R : RSt} {v : Value} {W : World} (h : Mid w0 p mb q B o c1 L c2 R v W) (i : Int) :
    Calls Try.prog 38 #[.pointer (some ⟨q, 0, none⟩), .int .i64 i] W fun e w' => e = .returned (.int .i64 (if (rAt R i).isSome then 0 else 3)) ∧ Mid w0 p mb q B o c1 L c2 (rdelR R i) v w' := by
  refine (rdel_any q v c2 R i W h.ref).mono ?_
  rintro e w' ⟨he, hT, hk⟩
  exact ⟨he, h.snd hT hk (fun k hk => .inl hk)⟩
theorem drop1 {c1 : Int} {L : Slots} {c2 : Int} {R : RSt} {v : Value} {W : World} (h : Mid w0 p mb q B o c1 L c2 R v W) (own : Int) :
    Calls Try.prog 18 #[.pointer (some ⟨p, 0, none⟩), .int .i64 own] W fun e w' => e = .returned (.int .i64 ((cnt L : Int) - (cnt (dropL L own) : Int))) ∧ Mid w0 p mb q B o c1 (dropL L own) c2 R v w' := by
  refine (drop_any p mb c1 L own W h.set).mono ?_
  rintro e w' ⟨he, hT, hk⟩
  exact ⟨he, h.fst hT hk (fun k hk => .inl (dropL_own hk))⟩
theorem drop2 {c1 : Int} {L : Slots} {c2 : Int} {R : RSt} {v : Value} {W : World} (h : Mid w0 p mb q B o c1 L c2 R v W) (own : Int) :
    Calls Try.prog 39 #[.pointer (some ⟨q, 0, none⟩), .int .i64 own] W fun e w' => e = .returned (.int .i64 (rdropN R own R.length)) ∧ Mid w0 p mb q B o c1 L c2 (rdropK R own R.length) v w' := by
  refine (rdrop_any q v c2 R own W h.ref).mono ?_
  rintro e w' ⟨he, hT, hk⟩
  exact ⟨he, h.snd hT hk (fun k hk => .inl hk)⟩
/-- The list of what fires, as the row that both lay. -/
def frs (L : Slots) (now : Int) (D : List Nat) : List FR := D.map (fun i : Nat => ⟨(i : Int), (tAt L i).e0, (tAt L i).e1, (tAt L i).e2, (tAt L i).e3, (tAt L i).e4, overs (tAt L i) now⟩)
theorem frs_flat (L : Slots) (now : Int) (D : List Nat) : fflat (frs L now D) = firedD L now D := by
  unfold fflat frs firedD
  rw [List.flatMap_map]
  rfl
theorem frs_len (L : Slots) (now : Int) (D : List Nat) : (frs L now D).length = D.length := List.length_map _
theorem exp1 {c1 : Int} {L : Slots} {c2 : Int} {R : RSt} {v : Value} {W : World} (h : Mid w0 p mb q B o c1 L c2 R v W) (hL : LOk L) (now : Int) :
    Calls Try.prog 13 #[.pointer (some ⟨p, 0, none⟩), .int .i64 now] W fun e w' => (∃ u, e = .returned (.tuple #[u, .int .i64 (expE c1 now)]) ∧ w'.ownsRow W.heap.size 40 7 u (frs L now (expD L c1 now)).length (fflat (frs L now (expD L c1 now)))) ∧ W.heap.size ≤ w'.heap.size ∧ Mid w0 p mb q B o (expC c1 now) (fireD L now (expD L c1 now)) c2 R v w' := by
  refine (exp_any p mb c1 L hL now W h.set).mono ?_
  rintro e w' hp
  refine ⟨?_, hp.keep.size, h.fst hp.set hp.keep (fun k hk => .inl (own_fire.1 hk))⟩
  rw [frs_flat, frs_len]
  exact hp.res
theorem exp2 {c1 : Int} {L : Slots} {c2 : Int} {R : RSt} {v : Value} {W : World} (h : Mid w0 p mb q B o c1 L c2 R v W) (hR : ROk R) (now : Int) :
    Calls Try.prog 40 #[.pointer (some ⟨q, 0, none⟩), .int .i64 now] W fun e w' => (∃ u, e = .returned (.tuple #[u, .int .i64 (expE c2 now)]) ∧ w'.ownsRow W.heap.size 106 7 u (rexpD R c2 now).length (rfd R now (rexpD R c2 now))) ∧ Keeps W w' (ROwn q v) ∧ Mid w0 p mb q B o c1 L (expC c2 now) (rfire R now (rexpD R c2 now)) v w' := by
  refine (rexp_any q v c2 R hR now W h.ref).mono ?_
  rintro e w' hp
  exact ⟨hp.res, hp.keep, h.snd hp.set hp.keep (fun k hk => .inl hk)⟩
theorem next1 {c1 : Int} {L : Slots} {c2 : Int} {R : RSt} {v : Value} {W : World} (h : Mid w0 p mb q B o c1 L c2 R v W) (hL : LOk L) :
    Calls Try.prog 11 #[.pointer (some ⟨p, 0, none⟩)] W fun e w' => e = .returned (.tuple #[.int .i64 (nextV L).1, .bool (nextV L).2]) ∧ Below W.heap.size W w' ∧ Mid w0 p mb q B o c1 L c2 R v w' := by
  refine (next_any p mb c1 L hL W h.set).mono ?_
  rintro e w' ⟨he, hb⟩
  exact ⟨he, hb, h.below hb⟩
theorem next2 {c1 : Int} {L : Slots} {c2 : Int} {R : RSt} {v : Value} {W : World} (h : Mid w0 p mb q B o c1 L c2 R v W) (hR : ROk R) :
    Calls Try.prog 22 #[.pointer (some ⟨q, 0, none⟩)] W fun e w' => e = .returned (.tuple #[.int .i64 (rnextV R).1, .bool (rnextV R).2]) ∧ Below W.heap.size W w' ∧ Mid w0 p mb q B o c1 L c2 R v w' := by
  refine (rnext_any q v c2 R hR W h.ref).mono ?_
  rintro e w' ⟨he, hb⟩
  exact ⟨he, hb, h.below hb⟩
theorem list1 {c1 : Int} {L : Slots} {c2 : Int} {R : RSt} {v : Value} {W : World} (h : Mid w0 p mb q B o c1 L c2 R v W) :
    Calls Try.prog 16 #[.pointer (some ⟨p, 0, none⟩)] W fun e w' => (∃ u, e = .returned u ∧ NRow w' W.heap.size u (ids L)) ∧ Below W.heap.size W w' ∧ Mid w0 p mb q B o c1 L c2 R v w' := by
  refine (list_any p mb c1 L W h.set).mono ?_
  rintro e w' ⟨he, hb⟩
  exact ⟨he, hb, h.below hb⟩
theorem list2 {c1 : Int} {L : Slots} {c2 : Int} {R : RSt} {v : Value} {W : World} (h : Mid w0 p mb q B o c1 L c2 R v W) :
    Calls Try.prog 24 #[.pointer (some ⟨q, 0, none⟩)] W fun e w' => (∃ u, e = .returned u ∧ NRow w' W.heap.size u (rids R R.length)) ∧ Below W.heap.size W w' ∧ Mid w0 p mb q B o c1 L c2 R v w' := by
  refine (rlist_any q v c2 R W h.ref).mono ?_
  rintro e w' ⟨he, hb⟩
  exact ⟨he, hb, h.below hb⟩
end
end
section
set_option linter.unusedVariables false
set_option linter.unusedSimpArgs false
open Go.RowKit Go.Maps Go.Sort Go.Proofs.YtodgbpggkikbcaaW.PrintWords Go.Proofs.YtodgbpggkikbcaaW.PrintLast Go.Proofs.YtodgbpggkikbcaaW.PrintMore FLib
attribute [local go_sem] below_alloc_T below_drew_T below_drewN_T

/-- The timers and the reference. -/
structure Two (w0 : World) (p mb q : Nat) (c : Int) (L : Slots) (v : Value) (W : World) : Prop where
  low : Below w0.heap.size w0 W
  set : TS W p mb c L
  ref : RS W q v c (rR L)
  own : ∀ k, TOwn p mb L k → w0.heap.size ≤ k
  rown : ∀ k, ROwn q v k → w0.heap.size ≤ k
  sep : ∀ k, TOwn p mb L k → ¬ ROwn q v k
  ok : LOk L
theorem Two.mid {w0 : World} {p mb q : Nat} {c : Int} {L : Slots} {v : Value} {W : World} (h : Two w0 p mb q c L v W) (o : Obj) : Mid w0 p mb q W.heap.size o c L c (rR L) v (W.alloc o) :=
  ⟨below_step h.low (below_alloc (Below.refl _ _) o), h.set.below (below_alloc (Below.refl _ _) o), h.ref.below (below_alloc (Below.refl _ _) o), h.own, h.rown, h.sep, blk_new W o, fun e => by have := h.set.own_lt e; omega, fun e => by have := h.ref.own_lt e; omega⟩
theorem Mid.two {w0 : World} {p mb q B : Nat} {o : Obj} {c : Int} {L : Slots} {v : Value} {W : World} (h : Mid w0 p mb q B o c L c (rR L) v W) (hL : LOk L) : Two w0 p mb q c L v W :=
  ⟨h.low, h.set, h.ref, h.own, h.rown, h.sep, hL⟩
/-- An operation of the law. -/
structure OpR where
  k : Int
  i : Int
  e0 : Int
  e1 : Int
  e2 : Int
  e3 : Int
  e4 : Int
  f : Int
  iv : Int
  tol : Int
  now : Int
def OpR.arr (x : OpR) : Array Value := #[.int .i64 x.k, .int .i64 x.i, .int .i64 x.e0, .int .i64 x.e1, .int .i64 x.e2, .int .i64 x.e3, .int .i64 x.e4, .int .i64 x.f, .int .i64 x.iv, .int .i64 x.tol, .int .i64 x.now]
/-- Behind a call of both. -/
def DoPost (w0 : World) (p mb q : Nat) (W : World) (e : Ending) (w' : World) : Prop :=
  e = .returned (.bool true) ∧ ∃ B o c L v, Mid w0 p mb q B o c L c (rR L) v w' ∧ LOk L
theorem box_at {w0 : World} {p mb q B : Nat} {x : OpR} {c1 : Int} {L : Slots} {c2 : Int} {R : RSt} {v : Value} {W : World} (h : Mid w0 p mb q B (.cells x.arr 55 (0, 0)) c1 L c2 R v W) (j : Nat) : W.cell? ⟨B, j, none⟩ = x.arr[j]? := blk_cell h.box j

set_option maxRecDepth 100000 in
set_option maxHeartbeats 1000000 in
theorem do_cre (w0 : World) (p mb q : Nat) (c : Int) (L : Slots) (v : Value) (x : OpR) (hk : x.k = 0) (w : World) (h : Two w0 p mb q c L v w) :
    Calls Try.prog 21 #[.pointer (some ⟨p, 0, none⟩), .pointer (some ⟨q, 0, none⟩), .agg x.arr] w (DoPost w0 p mb q w) := by
  have HM := Lib.hid (h.mid (.cells x.arr 55 (0, 0)))
  have HL := Lib.hid h.ok
  have HLN := Lib.hid h.set.len
  clear h
  obtain ⟨k, i, e0, e1, e2, e3, e4, f, iv, tol, now⟩ := x
  obtain rfl : k = 0 := hk
  simp only [OpR.arr] at HM ⊢
  go_enter Try.func21, Try.ntmps21
  go_wp2_with fail
  refine (cre1 HM.out HL.out _ _ _ _ _ _).mono ?_
  rintro e w1 ⟨rfl, L', hR', hL', hm1⟩
  have b1 := blk_cell hm1.box 1
  have b2 := blk_cell hm1.box 2
  have b3 := blk_cell hm1.box 3
  have b4 := blk_cell hm1.box 4
  have b5 := blk_cell hm1.box 5
  have b6 := blk_cell hm1.box 6
  simp at b1 b2 b3 b4 b5 b6
  have H1 := Lib.hid (And.intro hR' (And.intro hL' hm1))
  clear hR' hL' hm1
  go_wp2_with fail
  refine (cre2 H1.out.2.2 _ _ _ _ _ _).mono ?_
  rintro e w2 ⟨rfl, v', hm2⟩
  rw [rR_creI HLN.out, rR_creC HLN.out]
  have H2 := Lib.hid hm2
  clear hm2
  go_wp2
  go_ret
  exact ⟨rfl, _, _, _, L', v', by rw [H1.out.1]; exact H2.out, H1.out.2.1⟩
section
variable {w0 : World} {p mb q B : Nat} {o : Obj} {c1 : Int} {L : Slots} {c2 : Int} {R : RSt} {v : Value} {W : World}
theorem del1d (h : Mid w0 p mb q B o c1 L c2 R v W) (i : Int) (hi : (Lit.int .i64 i).wf = true) {d : Int} (hd : (if (at' L i).isSome then (0 : Int) else 3) = d) :
    Calls Try.prog 17 #[.pointer (some ⟨p, 0, none⟩), .int .i64 i] W fun e w' => e = .returned (.int .i64 d) ∧ Mid w0 p mb q B o c1 (delL L i) c2 R v w' := hd ▸ del1 h i hi
theorem del2d {L1 : Slots} (h : Mid w0 p mb q B o c1 L1 c2 (rR L) v W) (i : Int) {d : Int} (hd : (if (at' L i).isSome then (0 : Int) else 3) = d) :
    Calls Try.prog 38 #[.pointer (some ⟨q, 0, none⟩), .int .i64 i] W fun e w' => e = .returned (.int .i64 d) ∧ Mid w0 p mb q B o c1 L1 c2 (rdelR (rR L) i) v w' := by
  have := del2 h i
  rw [rR_some, hd] at this
  exact this
theorem drop1d (h : Mid w0 p mb q B o c1 L c2 R v W) (own : Int) {d : Int} (hd : (cnt L : Int) - (cnt (dropL L own) : Int) = d) :
    Calls Try.prog 18 #[.pointer (some ⟨p, 0, none⟩), .int .i64 own] W fun e w' => e = .returned (.int .i64 d) ∧ Mid w0 p mb q B o c1 (dropL L own) c2 R v w' := hd ▸ drop1 h own
theorem drop2d {L1 : Slots} (h : Mid w0 p mb q B o c1 L1 c2 (rR L) v W) (own : Int) {d : Int} (hd : (cnt L : Int) - (cnt (dropL L own) : Int) = d) :
    Calls Try.prog 39 #[.pointer (some ⟨q, 0, none⟩), .int .i64 own] W fun e w' => e = .returned (.int .i64 d) ∧ Mid w0 p mb q B o c1 L1 c2 (rdropK (rR L) own (rR L).length) v w' := by
  have := drop2 h own
  rw [rR_dropN, hd] at this
  exact this
end

set_option maxRecDepth 100000 in
set_option maxHeartbeats 1000000 in
theorem do_del (w0 : World) (p mb q : Nat) (c : Int) (L : Slots) (v : Value) (x : OpR) (hk : x.k = 3) (hi : (Lit.int .i64 x.i).wf = true) (w : World) (h : Two w0 p mb q c L v w) :
    Calls Try.prog 21 #[.pointer (some ⟨p, 0, none⟩), .pointer (some ⟨q, 0, none⟩), .agg x.arr] w (DoPost w0 p mb q w) := by
  have HM := Lib.hid (h.mid (.cells x.arr 55 (0, 0)))
  have HL := Lib.hid h.ok
  clear h
  obtain ⟨k, i, e0, e1, e2, e3, e4, f, iv, tol, now⟩ := x
  obtain rfl : k = 3 := hk
  simp only [OpR.arr] at HM hi ⊢
  obtain ⟨d, hd⟩ : ∃ d : Int, (if (at' L i).isSome then (0 : Int) else 3) = d := ⟨_, rfl⟩
  go_enter Try.func21, Try.ntmps21
  go_wp2
  have hmD := HM.out.below (below_drew (Below.refl _ _))
  go_region_held3 (fun w' => w'.cell? ⟨w.heap.size, 1, none⟩ = some (.int .i64 i)) (first | assumption | exact blk_cell (Mid.box (by assumption)) 1)
    (first | (go_at_call 17; refine (del1d (by assumption) _ hi hd).mono ?_; rintro e w1 ⟨rfl, hm1⟩) | (go_at_call 38; refine (del2d (by assumption) _ hd).mono ?_; rintro e w2 ⟨rfl, hm2⟩))
  all_goals
    go_wp2
    go_ret
    exact ⟨rfl, _, _, _, delL L i, v, by rw [rR_del]; assumption, HL.out.del i⟩
set_option maxRecDepth 100000 in
set_option maxHeartbeats 1000000 in
theorem do_drop (w0 : World) (p mb q : Nat) (c : Int) (L : Slots) (v : Value) (x : OpR) (hk : x.k = 4) (w : World) (h : Two w0 p mb q c L v w) :
    Calls Try.prog 21 #[.pointer (some ⟨p, 0, none⟩), .pointer (some ⟨q, 0, none⟩), .agg x.arr] w (DoPost w0 p mb q w) := by
  have HM := Lib.hid (h.mid (.cells x.arr 55 (0, 0)))
  have HL := Lib.hid h.ok
  clear h
  obtain ⟨k, i, e0, e1, e2, e3, e4, f, iv, tol, now⟩ := x
  obtain rfl : k = 4 := hk
  simp only [OpR.arr] at HM ⊢
  obtain ⟨d, hd⟩ : ∃ d : Int, (cnt L : Int) - (cnt (dropL L i) : Int) = d := ⟨_, rfl⟩
  go_enter Try.func21, Try.ntmps21
  go_wp2
  have hmD := HM.out.below (below_drew (Below.refl _ _))
  go_region_held3 (fun w' => w'.cell? ⟨w.heap.size, 1, none⟩ = some (.int .i64 i)) (first | assumption | exact blk_cell (Mid.box (by assumption)) 1)
    (first | (go_at_call 18; refine (drop1d (by assumption) _ hd).mono ?_; rintro e w1 ⟨rfl, hm1⟩) | (go_at_call 39; refine (drop2d (by assumption) _ hd).mono ?_; rintro e w2 ⟨rfl, hm2⟩))
  all_goals
    go_wp2
    go_ret
    exact ⟨rfl, _, _, _, dropL L i, v, by rw [rR_drop]; assumption, HL.out.drop i⟩
end
section
set_option linter.unusedVariables false
set_option linter.unusedSimpArgs false
open Go.RowKit Go.Maps Go.Sort Go.Proofs.YtodgbpggkikbcaaW.PrintWords Go.Proofs.YtodgbpggkikbcaaW.PrintLast Go.Proofs.YtodgbpggkikbcaaW.PrintMore FLib
attribute [local go_sem] below_alloc_T below_drew_T below_drewN_T

section
variable {w0 : World} {p mb q B : Nat} {o : Obj} {c1 : Int} {L : Slots} {c2 : Int} {R : RSt} {v : Value} {W : World}
theorem spec_form (o : Option (Nat × TT)) : ∃ a b c : Int, specV o = .agg #[.int .i64 a, .int .i64 b, .int .i64 c] := by
  rcases o with _ | ⟨b, t⟩
  · exact ⟨0, 0, 0, rfl⟩
  · exact ⟨t.fst, t.ivl, t.tol, rfl⟩
theorem setV_form (L : Slots) (i f iv tol : Int) : ∃ a b c : Int, setV L i f iv tol = .agg #[.int .i64 a, .int .i64 b, .int .i64 c] := by
  unfold setV
  split
  · exact spec_form _
  · exact spec_form _
theorem get1d (h : Mid w0 p mb q B o c1 L c2 R v W) (i : Int) (hi : (Lit.int .i64 i).wf = true) {d a b c : Int} (hd : (if (at' L i).isSome then (0 : Int) else 3) = d) (hs : specV (at' L i) = .agg #[.int .i64 a, .int .i64 b, .int .i64 c]) :
    Calls Try.prog 12 #[.pointer (some ⟨p, 0, none⟩), .int .i64 i] W fun e w' => e = .returned (.tuple #[.agg #[.int .i64 a, .int .i64 b, .int .i64 c], .int .i64 d]) ∧ Mid w0 p mb q B o c1 L c2 R v w' ∧ Below W.heap.size W w' := by
  have := get1 h i hi
  rw [hs, hd] at this
  exact this
theorem get2d {L1 : Slots} (h : Mid w0 p mb q B o c1 L1 c2 (rR L) v W) (i : Int) {d a b c : Int} (hd : (if (at' L i).isSome then (0 : Int) else 3) = d) (hs : specV (at' L i) = .agg #[.int .i64 a, .int .i64 b, .int .i64 c]) :
    Calls Try.prog 37 #[.pointer (some ⟨q, 0, none⟩), .int .i64 i] W fun e w' => e = .returned (.tuple #[.agg #[.int .i64 a, .int .i64 b, .int .i64 c], .int .i64 d]) ∧ Mid w0 p mb q B o c1 L1 c2 (rR L) v w' ∧ Below W.heap.size W w' := by
  have := get2 h i
  rw [rR_some, rR_spec, hs, hd] at this
  exact this
theorem set1d (h : Mid w0 p mb q B o c1 L c2 R v W) (i : Int) (hi : (Lit.int .i64 i).wf = true) (f iv tol : Int) {d a b c : Int} (hd : setC L i f iv tol = d) (hs : setV L i f iv tol = .agg #[.int .i64 a, .int .i64 b, .int .i64 c]) :
    Calls Try.prog 19 #[.pointer (some ⟨p, 0, none⟩), .int .i64 i, .agg #[.int .i64 f, .int .i64 iv, .int .i64 tol]] W fun e w' => e = .returned (.tuple #[.agg #[.int .i64 a, .int .i64 b, .int .i64 c], .int .i64 d]) ∧ Mid w0 p mb q B o c1 (setL L i f iv tol) c2 R v w' := by
  have := set1 h i hi f iv tol
  rw [hs, hd] at this
  exact this
theorem set2d {L1 : Slots} (h : Mid w0 p mb q B o c1 L1 c2 (rR L) v W) (i f iv tol : Int) {d a b c : Int} (hd : setC L i f iv tol = d) (hs : setV L i f iv tol = .agg #[.int .i64 a, .int .i64 b, .int .i64 c]) :
    Calls Try.prog 35 #[.pointer (some ⟨q, 0, none⟩), .int .i64 i, .agg #[.int .i64 f, .int .i64 iv, .int .i64 tol]] W fun e w' => e = .returned (.tuple #[.agg #[.int .i64 a, .int .i64 b, .int .i64 c], .int .i64 d]) ∧ Mid w0 p mb q B o c1 L1 c2 (rsetR (rR L) i f iv tol) v w' := by
  have := set2 h i f iv tol
  rw [rR_setC, rR_setV, hs, hd] at this
  exact this
end

set_option maxRecDepth 100000 in
set_option maxHeartbeats 1000000 in
theorem do_get (w0 : World) (p mb q : Nat) (c : Int) (L : Slots) (v : Value) (x : OpR) (hk : x.k = 2) (hi : (Lit.int .i64 x.i).wf = true) (w : World) (h : Two w0 p mb q c L v w) :
    Calls Try.prog 21 #[.pointer (some ⟨p, 0, none⟩), .pointer (some ⟨q, 0, none⟩), .agg x.arr] w (DoPost w0 p mb q w) := by
  have HM := Lib.hid (h.mid (.cells x.arr 55 (0, 0)))
  have HL := Lib.hid h.ok
  clear h
  obtain ⟨k, i, e0, e1, e2, e3, e4, f, iv, tol, now⟩ := x
  obtain rfl : k = 2 := hk
  simp only [OpR.arr] at HM hi ⊢
  obtain ⟨d, hd⟩ : ∃ d : Int, (if (at' L i).isSome then (0 : Int) else 3) = d := ⟨_, rfl⟩
  obtain ⟨s0, s1, s2, hs⟩ := spec_form (at' L i)
  have HD := Lib.hid hd
  have HS := Lib.hid hs
  have HI := Lib.hid hi
  clear hd hs hi
  go_enter Try.func21, Try.ntmps21
  go_wp2_with fail
  refine (get1d HM.out _ HI.out HD.out HS.out).mono ?_
  rintro e w1 ⟨rfl, hm1, -⟩
  have b1 := later_cell (v := .int .i64 i) (blk_cell hm1.box 1)
  have hb1 := Below.refl w1.heap.size w1
  have H1 := Lib.hid hm1
  clear hm1
  go_wp2_with fail
  refine (get2d (H1.out.below (by go_simp)) _ HD.out HS.out).mono ?_
  rintro e w2 ⟨rfl, hm2, hb2⟩
  have hz : w2.heap[w1.heap.size]? = some (.cells #[.int .i64 s0, .int .i64 s1, .int .i64 s2] 30 (0, 0)) := blk_below (blk_new w1 _) hb2
  have H2 := Lib.hid (And.intro hm2 hz)
  clear hm2 hz hb2 b1 hb1
  go_wp2
  refine abs_w (fun W => W.heap[w1.heap.size]? = some (.cells #[.int .i64 s0, .int .i64 s1, .int .i64 s2] 30 (0, 0)) ∧ W.heap[w2.heap.size]? = some (.cells #[.int .i64 s0, .int .i64 s1, .int .i64 s2] 86 (0, 0)) ∧ Mid w0 p mb q w.heap.size (.cells #[.int .i64 2, .int .i64 i, .int .i64 e0, .int .i64 e1, .int .i64 e2, .int .i64 e3, .int .i64 e4, .int .i64 f, .int .i64 iv, .int .i64 tol, .int .i64 now] 55 (0, 0)) c L c (rR L) v W)
    ⟨blk_alloc H2.out.2 _, blk_new w2 _, H2.out.1.below (below_alloc (Below.refl _ _) _)⟩ ?_
  rintro W ⟨hq0, hq1, hm⟩
  have H3 := Lib.hid hm
  clear hm
  generalize w1.heap.size = q0 at hq0 ⊢
  generalize w2.heap.size = q1 at hq1 ⊢
  have z0 := later_cell (v := .int .i64 s0) (blk_cell hq0 0)
  have z1 := later_cell (v := .int .i64 s1) (blk_cell hq0 1)
  have z2 := later_cell (v := .int .i64 s2) (blk_cell hq0 2)
  have y0 := later_cell (v := .int .i64 s0) (blk_cell hq1 0)
  have y1 := later_cell (v := .int .i64 s1) (blk_cell hq1 1)
  have y2 := later_cell (v := .int .i64 s2) (blk_cell hq1 2)
  clear hq0 hq1
  have hb1 := below_drew (Below.refl W.heap.size W)
  go_region_held3 (fun w' => Below W.heap.size W w') (first | assumption | exact below_step (by assumption) hb3)
    (first | (go_at_call 36; refine (spec_any _ _ _ _).mono ?_; rintro e w3 ⟨rfl, hb3⟩))
  all_goals
    go_wp2
    go_ret
    exact ⟨rfl, _, _, _, L, v, H3.out.below (by assumption), HL.out⟩
end
end Go.Proofs.Ytodgbpggkikbcaa
