/- Timers: the reference: Expire. -/
import Derived.Test.YtodgbpggkikbcaaMR
import Derived.Test.YtodgbpggkikbcaaMA
import Derived.Test.YtodgbpggkikbcaaMF
import Derived.Deep.LoopGhost
import Derived.Deep.RegionHeld3
import Derived.Deep.AppendLies
import Derived.Deep.DrawnRows
namespace Go.Proofs.Ytodgbpggkikbcaa
section
set_option linter.unusedVariables false
set_option linter.unusedSimpArgs false
open Go.RowKit Go.Maps Go.Sort Go.Proofs.YtodgbpggkikbcaaW.PrintWords Go.Proofs.YtodgbpggkikbcaaW.PrintLast Go.Proofs.YtodgbpggkikbcaaW.PrintMore FLib

def rT (R : RSt) (i : Nat) : Option TT := (R[i]?).join
def rfst (R : RSt) (i : Nat) : Int := match rT R i with | some t => t.fst | none => 0
def cand (R : RSt) (now : Int) (i : Nat) : Bool := match rT R i with | some t => (t.fst != 0) && decide (t.fst ≤ now) | none => false
def leR (R : RSt) (i j : Nat) : Bool := decide (rfst R i < rfst R j) || (decide (rfst R i = rfst R j) && decide (i ≤ j))
def dueR (R : RSt) (now : Int) : List Nat := ((List.range R.length).filter (cand R now)).mergeSort (leR R)
theorem rT_of {R : RSt} {i : Nat} {o : Option TT} (h : R[i]? = some o) : rT R i = o := by unfold rT; rw [h]; rfl
theorem leR_iff {R : RSt} {i j : Nat} : leR R i j = true ↔ rfst R i < rfst R j ∨ (rfst R i = rfst R j ∧ i ≤ j) := by simp [leR]
theorem cand_lt {R : RSt} {now : Int} {i : Nat} (h : cand R now i = true) : i < R.length := by
  unfold cand rT at h
  rcases Nat.lt_or_ge i R.length with h1 | h1
  · exact h1
  · rw [List.getElem?_eq_none h1] at h; cases h
theorem mem_dueR {R : RSt} {now : Int} {i : Nat} : i ∈ dueR R now ↔ cand R now i = true := by
  unfold dueR
  rw [(List.mergeSort_perm _ _).mem_iff, List.mem_filter, List.mem_range]
  exact ⟨fun h => h.2, fun h => ⟨cand_lt h, h⟩⟩
theorem dueR_nodup (R : RSt) (now : Int) : (dueR R now).Nodup := (List.mergeSort_perm _ _).nodup_iff.2 (List.nodup_range.filter _)
theorem dueR_sorted (R : RSt) (now : Int) : (dueR R now).Pairwise (fun a b => leR R a b = true) :=
  List.pairwise_mergeSort (fun a b c h1 h2 => by rw [leR_iff] at *; omega) (fun a b => by rw [Bool.or_eq_true, leR_iff, leR_iff]; omega) _
theorem dueR_len (R : RSt) (now : Int) : (dueR R now).length ≤ R.length := by
  unfold dueR
  rw [List.length_mergeSort]
  have := List.length_filter_le (cand R now) (List.range R.length)
  simpa using this
theorem dueR_not {R : RSt} {now : Int} {n i : Nat} (h : (dueR R now)[n]? = some i) : i ∉ (dueR R now).take n := by
  intro h1
  obtain ⟨j, hj, he⟩ := List.getElem_of_mem h1
  rw [List.length_take] at hj
  rw [List.getElem_take] at he
  obtain ⟨hk, he2⟩ := List.getElem?_eq_some_iff.1 h
  exact List.pairwise_iff_getElem.1 (dueR_nodup R now) j n (by omega) hk (by omega) (he.trans he2.symm)

/-- One timer more is looked at. -/
def stepB (R : RSt) (now : Int) (O : List Nat) (b : Int) (i : Nat) : Int := if cand R now i && (!O.contains i && (decide (b < 0) || decide (rfst R i < rfst R b.toNat))) then (i : Int) else b
def bestK (R : RSt) (now : Int) (O : List Nat) : Nat → Int
  | 0 => -1
  | k + 1 => stepB R now O (bestK R now O k) k
def bestP (R : RSt) (now : Int) (O : List Nat) (k : Nat) (b : Int) : Prop :=
  (b = -1 ∧ ∀ j, j < k → cand R now j = true → j ∈ O) ∨ (∃ m : Nat, b = m ∧ m < k ∧ cand R now m = true ∧ m ∉ O ∧ ∀ j, j < k → cand R now j = true → j ∉ O → leR R m j = true)
theorem best_spec (R : RSt) (now : Int) (O : List Nat) : ∀ k, bestP R now O k (bestK R now O k)
  | 0 => .inl ⟨rfl, fun j hj => absurd hj (by omega)⟩
  | k + 1 => by
    have ih := best_spec R now O k
    show bestP R now O (k + 1) (stepB R now O (bestK R now O k) k)
    generalize bestK R now O k = b at ih ⊢
    unfold stepB
    cases hc : cand R now k with
    | false =>
      rw [Bool.false_and, if_neg (by decide)]
      rcases ih with ⟨h1, h2⟩ | ⟨m, h1, h2, h3, h4, h5⟩
      · exact .inl ⟨h1, fun j hj hcj => h2 j (by rcases Nat.lt_or_ge j k with h | h; exact h; exact absurd hcj (by rw [show j = k by omega, hc]; decide)) hcj⟩
      · exact .inr ⟨m, h1, by omega, h3, h4, fun j hj hcj hjo => h5 j (by rcases Nat.lt_or_ge j k with h | h; exact h; exact absurd hcj (by rw [show j = k by omega, hc]; decide)) hcj hjo⟩
    | true =>
      rw [Bool.true_and]
      cases ho : O.contains k with
      | true =>
        have hm : k ∈ O := by simpa using ho
        rw [Bool.not_true, Bool.false_and, if_neg (by decide)]
        rcases ih with ⟨h1, h2⟩ | ⟨m, h1, h2, h3, h4, h5⟩
        · exact .inl ⟨h1, fun j hj hcj => by rcases Nat.lt_or_ge j k with h | h; exact h2 j h hcj; rw [show j = k by omega]; exact hm⟩
        · exact .inr ⟨m, h1, by omega, h3, h4, fun j hj hcj hjo => h5 j (by rcases Nat.lt_or_ge j k with h | h; exact h; exact absurd hm (by rw [← show j = k by omega]; exact hjo)) hcj hjo⟩
      | false =>
        have hm : k ∉ O := by simpa using ho
        rw [Bool.not_false, Bool.true_and]
        rcases ih with ⟨h1, h2⟩ | ⟨m, h1, h2, h3, h4, h5⟩
        · subst h1
          rw [if_pos (by simp)]
          refine .inr ⟨k, rfl, by omega, hc, hm, fun j hj hcj hjo => ?_⟩
          rcases Nat.lt_or_ge j k with h | h
          · exact absurd (h2 j h hcj) hjo
          · rw [leR_iff, show j = k by omega]; omega
        · subst h1
          have e0 : decide ((m : Int) < 0) = false := by simp
          rw [e0, Bool.false_or, Int.toNat_natCast]
          by_cases hlt : rfst R k < rfst R m
          · rw [if_pos (by simpa using hlt)]
            refine .inr ⟨k, rfl, by omega, hc, hm, fun j hj hcj hjo => ?_⟩
            rcases Nat.lt_or_ge j k with h | h
            · have := h5 j h hcj hjo
              rw [leR_iff] at this ⊢; omega
            · rw [leR_iff, show j = k by omega]; omega
          · rw [if_neg (by simpa using hlt)]
            refine .inr ⟨m, rfl, by omega, h3, h4, fun j hj hcj hjo => ?_⟩
            rcases Nat.lt_or_ge j k with h | h
            · exact h5 j h hcj hjo
            · rw [leR_iff, show j = k by omega]; omega
theorem best_end {R : RSt} {now : Int} {n : Nat} {i : Nat} (h : (dueR R now)[n]? = some i) : bestK R now ((dueR R now).take n) R.length = (i : Int) := by
  have hm := mem_dueR.1 (List.mem_of_getElem? h)
  have hn := dueR_not h
  obtain ⟨hk, he⟩ := List.getElem?_eq_some_iff.1 h
  rcases best_spec R now ((dueR R now).take n) R.length with ⟨h1, h2⟩ | ⟨m, h1, h2, h3, h4, h5⟩
  · exact absurd (h2 i (cand_lt hm) hm) hn
  · rw [h1]
    have a := h5 i (cand_lt hm) hm hn
    have hmd := mem_dueR.2 h3
    obtain ⟨j, hj, hje⟩ := List.getElem_of_mem hmd
    have hjn : n ≤ j := by
      rcases Nat.lt_or_ge j n with h | h
      · exact absurd (by rw [← hje]; exact List.mem_take_iff_getElem.2 ⟨j, by omega, rfl⟩) h4
      · exact h
    rcases Nat.lt_or_ge n j with hlt | hge
    · have b := List.pairwise_iff_getElem.1 (dueR_sorted R now) n j hk hj hlt
      rw [he, hje] at b
      rw [leR_iff] at a b
      have : m = i := by omega
      rw [this]
    · have : j = n := by omega
      subst this
      rw [he] at hje
      rw [hje]
theorem best_none {R : RSt} {now : Int} {n : Nat} (h : (dueR R now).length ≤ n) : bestK R now ((dueR R now).take n) R.length = -1 := by
  rw [List.take_of_length_le h]
  rcases best_spec R now (dueR R now) R.length with ⟨h1, h2⟩ | ⟨m, h1, h2, h3, h4, h5⟩
  · exact h1
  · exact absurd (mem_dueR.2 h3) h4

/-- The timers D fire. -/
def rfire (R : RSt) (now : Int) (D : List Nat) : RSt := R.mapIdx (fun i o => if i ∈ D then o.map (fun t => fireT t now) else o)
theorem rfire_get (R : RSt) (now : Int) (D : List Nat) (i : Nat) : (rfire R now D)[i]? = (R[i]?).map (fun o => if i ∈ D then o.map (fun t => fireT t now) else o) := by unfold rfire; rw [List.getElem?_mapIdx]
theorem rfire_len (R : RSt) (now : Int) (D : List Nat) : (rfire R now D).length = R.length := by unfold rfire; rw [List.length_mapIdx]
theorem rfire_nil (R : RSt) (now : Int) : rfire R now [] = R := by
  refine List.ext_getElem? fun i => ?_
  rw [rfire_get]; cases R[i]? <;> simp
theorem rfire_not {R : RSt} {now : Int} {D : List Nat} {i : Nat} (h : i ∉ D) : (rfire R now D)[i]? = R[i]? := by
  rw [rfire_get]; simp only [if_neg h]; cases R[i]? <;> simp
theorem rfire_snoc {R : RSt} {now : Int} {D : List Nat} {i : Nat} {t : TT} (h : i ∉ D) (hi : R[i]? = some (some t)) : rfire R now (D ++ [i]) = (rfire R now D).set i (some (fireT t now)) := by
  refine List.ext_getElem? fun j => ?_
  have hlt := (List.getElem?_eq_some_iff.1 hi).1
  by_cases e : j = i
  · subst e
    rw [rfire_get, hi, List.getElem?_set_self (by rw [rfire_len]; exact hlt)]
    simp
  · rw [List.getElem?_set_ne (Ne.symm e), rfire_get, rfire_get]
    simp [e]
def fdC (i : Int) (t : TT) (now : Int) : List Value := [.int .i64 i, .int .i64 t.e0, .int .i64 t.e1, .int .i64 t.e2, .int .i64 t.e3, .int .i64 t.e4, .int .i64 (overs t now)]
def rtAt (R : RSt) (i : Nat) : TT := match rT R i with | some t => t | none => ⟨0, 0, 0, 0, 0, 0, 0, 0, 0⟩
def rfd (R : RSt) (now : Int) (D : List Nat) : List Value := D.flatMap (fun i : Nat => fdC (i : Int) (rtAt R i) now)
theorem rfd_snoc {R : RSt} {now : Int} {D : List Nat} {i : Nat} {t : TT} (hi : R[i]? = some (some t)) : rfd R now (D ++ [i]) = rfd R now D ++ fdC i t now := by
  unfold rfd; rw [List.flatMap_append]
  have : rtAt R i = t := by unfold rtAt; rw [rT_of hi]
  simp [this]
theorem cand_get {R : RSt} {now : Int} {i : Nat} (h : cand R now i = true) : ∃ t, R[i]? = some (some t) ∧ t.fst ≠ 0 ∧ t.fst ≤ now := by
  have hl := cand_lt h
  unfold cand rT at h
  rw [List.getElem?_eq_getElem hl] at h ⊢
  generalize R[i] = o at h ⊢
  cases o with
  | none => cases h
  | some t =>
    simp at h
    exact ⟨t, rfl, h.1, h.2⟩
theorem take_snoc {α : Type} {l : List α} {n : Nat} {x : α} (h : l[n]? = some x) : l.take (n + 1) = l.take n ++ [x] := by rw [List.take_add_one, h]; rfl
end
section
set_option linter.unusedVariables false
set_option linter.unusedSimpArgs false
open Go.RowKit Go.Maps Go.Sort Go.Proofs.YtodgbpggkikbcaaW.PrintWords Go.Proofs.YtodgbpggkikbcaaW.PrintLast Go.Proofs.YtodgbpggkikbcaaW.PrintMore FLib
attribute [local go_sem] below_alloc_T below_drew_T below_drewN_T

def amg (l : List Nat) (i : Nat) : Bool := l.contains i
theorem contains_take {l : List Nat} {k i : Nat} (h : (l.take k).contains i = false) {j : Nat} (hj : l[k]? = some j) : (l.take (k + 1)).contains i = (j == i) := by
  rw [take_snoc hj]
  have h1 : i ∉ l.take k := by simpa using h
  by_cases e : j = i
  · subst e; simp
  · have e2 : ¬ i = j := fun h => e h.symm
    have : (j == i) = false := by simpa using e
    rw [this]
    simp [h1, e2]
set_option maxRecDepth 100000 in
theorem among_any (base : Nat) (v : Value) (l : List Nat) (i : Nat) (hl : l.length ≤ 1000) (w : World) (h : NRow w base v l) :
    Calls Try.prog 54 #[v, .int .i64 (i : Int)] w fun e w' => e = .returned (.bool (amg l i)) ∧ w = w' := by
  have HR := Lib.hid h
  have HL := Lib.hid hl
  rcases h.form with ⟨rfl, hz⟩ | ⟨g, cap, rfl⟩
  · obtain rfl : l = [] := List.eq_nil_of_length_eq_zero hz
    clear h hl hz
    go_enter Try.func54, Try.ntmps54
    go_wp2
    refine wp_loop_rounds 1 ?_
    rw [rounds_succ]
    go_wp2
    go_ret
    exact ⟨rfl, rfl⟩
  · clear h hl
    go_enter Try.func54, Try.ntmps54
    go_wp2
    go_loop [5] (fun t => ∃ k : Nat, k ≤ l.length ∧ t = .int .i64 k ∧ Hid ((l.take k).contains i = false)) (fun t => l.length - (RowKit.intOf t).toNat)
    case atStart => exact ⟨0, Nat.zero_le _, rfl, Lib.hid (by simp)⟩
    case round =>
      obtain ⟨k, hk, rfl, hC⟩ := hrel
      have hlr : (l.length : Int) ≤ 1000 := by have := HL.out; omega
      by_cases hlt : k < l.length
      · obtain ⟨j, hj⟩ : ∃ j, l[k]? = some j := ⟨_, List.getElem?_eq_getElem hlt⟩
        obtain ⟨g', cap', he, c0⟩ := HR.out.cell hj
        obtain ⟨rfl, rfl⟩ : g = g' ∧ cap = cap' := by simpa using he
        have HC1 := Lib.hid (contains_take hC.out hj)
        have hk0 : (0 : Int) ≤ (k : Int) := by omega
        have hk1 : (k : Int) < (l.length : Int) := by omega
        clear he hj
        by_cases e : j = i
        · subst e
          have HT := Lib.hid (show amg l j = true from by
            unfold amg
            have h1 := HC1.out
            have h2 : j ∈ l.take (k + 1) := by rw [← List.contains_iff_mem, h1]; simp
            rw [List.contains_iff_mem]
            exact List.mem_of_mem_take h2)
          have d1 : ((j : Int) == (j : Int)) = true := by simp
          go_wp2
          go_ret
          exact ⟨by rw [HT.out]; rfl, rfl⟩
        · have d1 : ((j : Int) == (i : Int)) = false := by simpa using (by omega : ¬ (j : Int) = (i : Int))
          have HE := Lib.hid e
          clear e
          go_wp2
          go_round
          case rel => exact ⟨k + 1, by omega, by go_num, Lib.hid (by rw [HC1.out]; simpa using HE.out)⟩
          case measure => simp [RowKit.intOf]; omega
      · obtain rfl : k = l.length := by omega
        rw [List.take_length] at hC
        have HF := Lib.hid (show amg l i = false from hC.out)
        clear hC
        go_wp2
        go_ret
        exact ⟨by rw [HF.out]; rfl, rfl⟩
end
section
set_option linter.unusedVariables false
set_option linter.unusedSimpArgs false
open Go.RowKit Go.Maps Go.Sort Go.Proofs.YtodgbpggkikbcaaW.PrintWords Go.Proofs.YtodgbpggkikbcaaW.PrintLast Go.Proofs.YtodgbpggkikbcaaW.PrintMore FLib
attribute [local go_sem] below_alloc_T below_drew_T below_drewN_T

def rexpG (R : RSt) (now : Int) : Bool := (rnextV R).2 && decide ((rnextV R).1 ≤ now)
def rexpD (R : RSt) (clk now : Int) : List Nat := if expE clk now = 0 then (if rexpG R now then dueR R now else []) else []
/-- Behind Expire. -/
structure RExp (q : Nat) (v : Value) (clk : Int) (R : RSt) (now : Int) (w : World) (e : Ending) (w' : World) : Prop where
  res : ∃ u, e = .returned (.tuple #[u, .int .i64 (expE clk now)]) ∧ w'.ownsRow w.heap.size 106 7 u (rexpD R clk now).length (rfd R now (rexpD R clk now))
  set : RS w' q v (expC clk now) (rfire R now (rexpD R clk now))
  keep : Keeps w w' (ROwn q v)
theorem RS.clock {W : World} {q : Nat} {v : Value} {clk : Int} {R : RSt} (h : RS W q v clk R) (now : Int) : RS (W.setCell ⟨q, 1, none⟩ (.int .i64 now)) q v now R :=
  ⟨blk_put (cs := #[v, .int .i64 clk]) h.hdr 1 _ rfl, own_move h.row (fun k hk => Below.heap_setCell _ _ _ _ (by have := (h.row.lt _ hk).1; show k ≠ q; omega)), h.len⟩
theorem rexp_form {v : Value} {R : RSt} {W : World} {q : Nat} {clk : Int} (h : RS W q v clk R) : v = .slice none 0 0 ∨ ∃ g c, v = .slice (some ⟨g, 0, none⟩) R.length c := by
  rcases h.row.2 with ⟨e, -⟩ | ⟨g, c, cur, e, -⟩
  · exact .inl e
  · exact .inr ⟨g, c, e⟩

set_option maxRecDepth 100000 in
set_option maxHeartbeats 1000000 in
theorem rexp_none (q : Nat) (v : Value) (clk : Int) (R : RSt) (hok : ROk R) (now : Int) (w : World) (h : RS w q v clk R) (hn : ¬ (expE clk now = 0 ∧ rexpG R now = true)) :
    Calls Try.prog 40 #[.pointer (some ⟨q, 0, none⟩), .int .i64 now] w (RExp q v clk R now w) := by
  have HS := Lib.hid h
  have HT := Lib.hid (fun w => inr_any now w)
  have HN := Lib.hid (fun w' (h' : RS w' q v now R) => rnext_any q v now R hok w' h')
  have HD := Lib.hid (show rexpD R clk now = [] by
    unfold rexpD
    by_cases h0 : expE clk now = 0
    · rw [if_pos h0]
      cases hg : rexpG R now with
      | true => exact absurd ⟨h0, hg⟩ hn
      | false => rfl
    · rw [if_neg h0])
  have HP := Lib.hid (show ∀ u w', w'.ownsRow w.heap.size 106 7 u 0 [] → RS w' q v (expC clk now) R → Keeps w w' (ROwn q v) → RExp q v clk R now w (.returned (.tuple #[u, .int .i64 (expE clk now)])) w' from fun u w' h0 h1 h2 =>
    ⟨⟨_, rfl, by rw [HD.out]; exact h0⟩, by rw [HD.out, rfire_nil]; exact h1, h2⟩)
  have HE := Lib.hid (show expE clk now = if okT now then (if now < clk then 30 else 0) else 34 from rfl)
  have HC := Lib.hid (show expC clk now = if expE clk now = 0 then now else clk from rfl)
  have HG := Lib.hid (show rexpG R now = ((rnextV R).2 && decide ((rnextV R).1 ≤ now)) from rfl)
  have HNN := Lib.hid hn
  have c1 : w.cell? ⟨q, 1, none⟩ = some (.int .i64 clk) := blk_cell h.hdr 1
  have f1 : w.frozen? ⟨q, 1, none⟩ = false := blk_frozen h.hdr 1
  clear h hok hn
  cases h1 : okT now
  · rw [h1] at HE
    have HE' := Lib.hid (HE.out.trans (if_neg (by decide)))
    have HC' := Lib.hid (HC.out.trans (if_neg (by rw [HE'.out]; decide)))
    have HP' := HP.out
    rw [HE'.out, HC'.out] at HP'
    have HP2 := Lib.hid HP'
    clear HP' HP HE HC f1
    go_enter Try.func40, Try.ntmps40
    go_wp2_with fail
    refine (HT.out _).mono ?_
    rintro e w1 ⟨rfl, rfl⟩
    rw [h1]
    go_wp2
    go_ret2
    exact HP2.out _ _ (World.ownsRow_nil _ _ _ _) HS.out (Keeps.refl _ _)
  · rw [h1] at HE
    have HE1 := Lib.hid (HE.out.trans (if_pos rfl))
    cases h2 : decide (now < clk)
    · have HE' := Lib.hid (HE1.out.trans (if_neg (by simpa using h2)))
      have HC' := Lib.hid (HC.out.trans (if_pos HE'.out))
      have hgf : rexpG R now = false := by
        cases hg : rexpG R now with
        | true => exact absurd ⟨HE'.out, hg⟩ HNN.out
        | false => rfl
      have HG' := Lib.hid (HG.out.symm.trans hgf)
      have HP' := HP.out
      rw [HE'.out, HC'.out] at HP'
      have HP2 := Lib.hid HP'
      clear HP' HP HE HE1 HC hgf HG
      go_enter Try.func40, Try.ntmps40
      go_wp2_with fail
      refine (HT.out _).mono ?_
      rintro e w1 ⟨rfl, rfl⟩
      rw [h1]
      go_wp2_with fail
      have hR2 := (HS.out.clock now).below (below_alloc (Below.refl _ _) (.cells #[] 106))
      refine (HN.out _ hR2).mono ?_
      rintro e w3 ⟨rfl, hb3⟩
      have hR3 := hR2.below hb3
      have hk3 : Keeps w w3 (ROwn q v) := (((Keeps.refl w _).set ⟨q, 1, none⟩ (.int .i64 now) (.inl (.inl rfl))).alloc _).trans (Keeps.of_below hb3 (fun _ => False)) (fun _ hf => hf.elim)
      have hrow : w3.ownsRow w.heap.size 106 7 (.slice (some ⟨w.heap.size, 0, none⟩) 0 0) 0 [] := by
        refine pw_own_below ?_ hb3
        have := World.ownsRow_made (w.setCell ⟨q, 1, none⟩ (.int .i64 now)) #[] 0 (base := w.heap.size) (e := 106) (size := 7) (by simp [World.setCell]) (by unfold maxLen; omega) rfl
        simpa using this
      have HX := Lib.hid (And.intro hR3 (And.intro hk3 hrow))
      clear hR2 hR3 hk3 hrow hb3 c1 f1
      generalize rnextV R = nv at HG' ⊢
      obtain ⟨n1, n2⟩ := nv
      have HG2 := Lib.hid (show (n2 && decide (n1 ≤ now)) = false from HG'.out)
      clear HG'
      cases n2
      · go_wp2
        go_ret2
        exact HP2.out _ _ HX.out.2.2 HX.out.1 HX.out.2.1
      · have d3 : decide (now < n1) = true := by have := HG2.out; simpa using this
        go_wp2
        go_ret2
        exact HP2.out _ _ HX.out.2.2 HX.out.1 HX.out.2.1
    · have HE' := Lib.hid (HE1.out.trans (if_pos (by simpa using h2)))
      have HC' := Lib.hid (HC.out.trans (if_neg (by rw [HE'.out]; decide)))
      have HP' := HP.out
      rw [HE'.out, HC'.out] at HP'
      have HP2 := Lib.hid HP'
      clear HP' HP HE HE1 HC HG
      go_enter Try.func40, Try.ntmps40
      go_wp2_with fail
      refine (HT.out _).mono ?_
      rintro e w1 ⟨rfl, rfl⟩
      rw [h1]
      go_wp2
      go_ret2
      exact HP2.out _ _ (World.ownsRow_nil _ _ _ _) HS.out (Keeps.refl _ _)
end
section
set_option linter.unusedVariables false
set_option linter.unusedSimpArgs false
open Go.RowKit Go.Maps Go.Sort Go.Proofs.YtodgbpggkikbcaaW.PrintWords Go.Proofs.YtodgbpggkikbcaaW.PrintLast Go.Proofs.YtodgbpggkikbcaaW.PrintMore FLib
attribute [local go_sem] below_alloc_T below_drew_T below_drewN_T

theorem info106 : (Try.prog.info? 106).map (fun i => (i.zero, i.size, i.bytes)) = some (some (.agg #[.int .i64 0, .int .i64 0, .int .i64 0, .int .i64 0, .int .i64 0, .int .i64 0, .int .i64 0]), 7, 56) := by kernel_rfl
def lenV : Value → Nat
  | .slice _ n _ => n
  | _ => 0
theorem NRow.lenV {w : World} {base : Nat} {v : Value} {l : List Nat} (h : NRow w base v l) : lenV v = l.length := by
  rcases h.form with ⟨rfl, e⟩ | ⟨g, c, rfl⟩
  · exact e.symm
  · rfl
theorem cell_in {W : World} {b o : Nat} {v : Value} (h : W.cell? ⟨b, o, none⟩ = some v) : b < W.heap.size := by
  rcases Nat.lt_or_ge b W.heap.size with h1 | h1
  · exact h1
  · simp [World.cell?, Array.getElem?_eq_none h1] at h
theorem cell_after {W : World} {b o : Nat} {v : Value} (h : W.cell? ⟨b, o, none⟩ = some v) (F : Nat → Prop) (hF : ¬ F b) : ∀ w', Keeps W w' F → w'.cell? ⟨b, o, none⟩ = some v := fun w' hk =>
  (World.cell?_of_block (a := ⟨b, o, none⟩) (hk.block b (cell_in h) hF)).trans h
/-- While the timers are being chosen. -/
structure SelI (w : World) (q : Nat) (v : Value) (now : Int) (R : RSt) (l : List Nat) (v9 : Value) (W : World) : Prop where
  set : RS W q v now R
  keep : Keeps w W (ROwn q v)
  out : W.heap[w.heap.size]? = some (.cells #[] 106 (0, 0))
  ord : NRow W (w.heap.size + 1) v9 l
  nn : v9 ≠ .slice none 0 0
theorem SelI.below {w : World} {q : Nat} {v : Value} {now : Int} {R : RSt} {l : List Nat} {v9 : Value} {W W' : World} (h : SelI w q v now R l v9 W) (hb : Below W.heap.size W W') : SelI w q v now R l v9 W' :=
  ⟨h.set.below hb, h.keep.trans (Keeps.of_below hb (fun _ => False)) (fun _ hf => hf.elim), blk_below h.out hb, h.ord.below hb, h.nn⟩
theorem SelI.app {w : World} {q : Nat} {v : Value} {now : Int} {R : RSt} {l : List Nat} {v9 v9' : Value} {W W' : World} {i : Nat} {o : Obj} (h : SelI w q v now R l v9 W) (hq : ∀ k, ROwn q v k → k < w.heap.size) (hg : (W.alloc o).grownBy W' v9.ownBlock) (ho : W'.ownsRow (w.heap.size + 1) 3 1 v9' (l.length + 1) (l.map encN ++ [encN i])) (hn : v9' ≠ .slice none 0 0) : SelI w q v now R (l ++ [i]) v9' W' := by
  have hlt : ∀ k, v9.ownBlock = some k → w.heap.size + 1 ≤ k := fun k hk => (World.ownsRow.lt h.ord _ hk).1
  have hk : Keeps W W' (fun k => v9.ownBlock = some k) := ((Keeps.refl W _).alloc o).grown hg (fun k e => .inl e)
  refine ⟨h.set.keep hk (fun k hk ho => by have := hlt k hk; have := hq k ho; omega), h.keep.trans hk (fun k hk => .inr (by have := hlt k hk; omega)), hk.blk h.out (fun hf => by have := hlt _ hf; omega), NRow.snoc ho, hn⟩
/-- While the timers fire. -/
structure FirI (w : World) (q g cap : Nat) (now : Int) (R : RSt) (D : List Nat) (v9 : Value) (k : Nat) (v6 : Value) (W : World) : Prop where
  set : RS W q (.slice (some ⟨g, 0, none⟩) R.length cap) now (rfire R now (D.take k))
  keep : Keeps w W (ROwn q (.slice (some ⟨g, 0, none⟩) R.length cap))
  out : W.ownsRow w.heap.size 106 7 v6 k (rfd R now (D.take k))
  ord : NRow W (w.heap.size + 1) v9 D
  ap : ∀ j, v6.ownBlock = some j → v9.ownBlock ≠ some j
theorem SelI.fire {w : World} {q g cap : Nat} {now : Int} {R : RSt} {D : List Nat} {v9 : Value} {W : World} (h : SelI w q (.slice (some ⟨g, 0, none⟩) R.length cap) now R D v9 W) : FirI w q g cap now R D v9 0 (.slice (some ⟨w.heap.size, 0, none⟩) 0 0) W := by
  refine ⟨by rw [List.take_zero, rfire_nil]; exact h.set, h.keep, ?_, h.ord, fun j hj hk => ?_⟩
  · rw [List.take_zero]
    exact ⟨rfl, .inr ⟨w.heap.size, 0, #[], rfl, Nat.le_refl _, h.out, Nat.le_refl _, by unfold maxLen; omega, rfl, rfl⟩⟩
  · have := (World.ownsRow.lt h.ord _ hk).1
    have e : w.heap.size = j := by simpa [Value.ownBlock] using hj
    omega
theorem FirI.below {w : World} {q g cap : Nat} {now : Int} {R : RSt} {D : List Nat} {v9 : Value} {k : Nat} {v6 : Value} {W W' : World} (h : FirI w q g cap now R D v9 k v6 W) (hb : Below W.heap.size W W') : FirI w q g cap now R D v9 k v6 W' :=
  ⟨h.set.below hb, h.keep.trans (Keeps.of_below hb (fun _ => False)) (fun _ hf => hf.elim), pw_own_below h.out hb, h.ord.below hb, h.ap⟩
/-- A timer has been written down, and is still to be changed. -/
structure FirM (w : World) (q g cap : Nat) (now : Int) (R : RSt) (D : List Nat) (v9 : Value) (k : Nat) (v6 : Value) (W : World) : Prop where
  set : RS W q (.slice (some ⟨g, 0, none⟩) R.length cap) now (rfire R now (D.take k))
  keep : Keeps w W (ROwn q (.slice (some ⟨g, 0, none⟩) R.length cap))
  out : W.ownsRow w.heap.size 106 7 v6 (k + 1) (rfd R now (D.take (k + 1)))
  ord : NRow W (w.heap.size + 1) v9 D
  ap : ∀ j, v6.ownBlock = some j → v9.ownBlock ≠ some j
theorem FirI.app {w : World} {q g cap : Nat} {now : Int} {R : RSt} {D : List Nat} {v9 : Value} {k : Nat} {v6 v6' : Value} {W W' : World} {i : Nat} {t : TT} {o : Obj} (h : FirI w q g cap now R D v9 k v6 W) (hq : ∀ k, ROwn q (.slice (some ⟨g, 0, none⟩) R.length cap) k → k < w.heap.size) (hi : D[k]? = some i) (ht : R[i]? = some (some t))
    (hown : W'.ownsRow w.heap.size 106 7 v6' (k + 1) (rfd R now (D.take k) ++ fdC i t now)) (hg : (W.alloc o).grownBy W' v6.ownBlock) (hblk : v6'.ownBlock = v6.ownBlock ∨ v6'.ownBlock = some (W.heap.size + 1)) : FirM w q g cap now R D v9 k v6' W' := by
  have hlt : ∀ j, v6.ownBlock = some j → w.heap.size ≤ j := fun j hj => (h.out.lt _ hj).1
  have hk : Keeps W W' (fun j => v6.ownBlock = some j) := ((Keeps.refl W _).alloc o).grown hg (fun j e => .inl e)
  refine ⟨h.set.keep hk (fun j hj ho => by have := hlt j hj; have := hq j ho; omega), h.keep.trans hk (fun j hj => .inr (hlt j hj)), ?_, ?_, fun j hj hj2 => ?_⟩
  · rw [take_snoc hi, rfd_snoc ht]; exact hown
  · exact own_move h.ord (fun j hj => hk.block j (World.ownsRow.lt h.ord _ hj).2 (fun e => h.ap j e hj))
  · rcases hblk with e | e
    · exact h.ap j (e ▸ hj) hj2
    · rw [e] at hj
      injection hj with hj
      have := (World.ownsRow.lt h.ord _ hj2).2
      omega
theorem FirM.below {w : World} {q g cap : Nat} {now : Int} {R : RSt} {D : List Nat} {v9 : Value} {k : Nat} {v6 : Value} {W W' : World} (h : FirM w q g cap now R D v9 k v6 W) (hb : Below W.heap.size W W') : FirM w q g cap now R D v9 k v6 W' :=
  ⟨h.set.below hb, h.keep.trans (Keeps.of_below hb (fun _ => False)) (fun _ hf => hf.elim), pw_own_below h.out hb, h.ord.below hb, h.ap⟩
theorem FirM.fire {w : World} {q g cap : Nat} {now : Int} {R : RSt} {D : List Nat} {v9 : Value} {k : Nat} {v6 : Value} {W : World} {i : Nat} {t : TT} (h : FirM w q g cap now R D v9 k v6 W) (hq : ∀ k, ROwn q (.slice (some ⟨g, 0, none⟩) R.length cap) k → k < w.heap.size) (hqg : q < g) (hi : D[k]? = some i) (hn : i ∉ D.take k) (ht : R[i]? = some (some t)) {x : Int} (hx : x = nextF t now) :
    FirI w q g cap now R D v9 (k + 1) v6 (W.setCell ⟨g, i * 10 + 7, none⟩ (.int .i64 x)) := by
  subst hx
  have hgl : g < w.heap.size := hq g (.inr rfl)
  have hk : Keeps W (W.setCell ⟨g, i * 10 + 7, none⟩ (.int .i64 (nextF t now))) (fun j => j = g) := (Keeps.refl W _).set _ _ (.inl rfl)
  have hti : (rfire R now (D.take k))[i]? = some (some t) := by rw [rfire_not hn]; exact ht
  have hil := (List.getElem?_eq_some_iff.1 ht).1
  refine ⟨?_, h.keep.trans hk (fun j hj => .inl (.inr (by rw [hj]; rfl))), own_move h.out (fun j hj => hk.block j (h.out.lt _ hj).2 (fun e => by have := (h.out.lt _ hj).1; omega)), own_move h.ord (fun j hj => hk.block j (World.ownsRow.lt h.ord _ hj).2 (fun e => by have := (World.ownsRow.lt h.ord _ hj).1; omega)), h.ap⟩
  rw [take_snoc hi, rfire_snoc hn ht]
  have hs := h.set
  have hl := rfire_len R now (D.take k)
  rw [← hl] at hs
  have hopen := hs.open (by rw [hl]; omega)
  obtain ⟨g', cap', cur, he, hqg', hb, h1, h2, h3, h4⟩ := hopen
  obtain ⟨rfl, rfl⟩ : g = g' ∧ cap = cap' := by simpa using he
  have := RS.put (W := W) (W' := W.setCells g (i * 10 + 7) [.int .i64 (nextF t now)]) hs (k := i) (o' := some (fireT t now)) (j := 7) (vs := [.int .i64 (nextF t now)]) hti (by simp) rfl (setCells_far _ _ _ (Nat.ne_of_lt hqg)) (fun cur' hb' => by
    rw [hb] at hb'
    cases hb'
    exact setCells_row _ _ _ _ hb (by rw [h3]; simp; omega))
  rw [hl] at this
  exact this
theorem fir_end {w : World} {q g cap : Nat} {clk now : Int} {R : RSt} {v9 v6 : Value} {W : World} (h : FirI w q g cap now R (dueR R now) v9 (dueR R now).length v6 W) (he : expE clk now = 0) (hd : rexpD R clk now = dueR R now) (hc : expC clk now = now) : RExp q (.slice (some ⟨g, 0, none⟩) R.length cap) clk R now w (.returned (.tuple #[v6, .int .i64 0])) W := by
  have hset := h.set
  have hout := h.out
  rw [List.take_length] at hset hout
  exact ⟨⟨_, by rw [he], by rw [hd]; exact hout⟩, by rw [hc, hd]; exact hset, h.keep⟩
theorem rexpG_pos {R : RSt} {now : Int} (h : rexpG R now = true) : 0 < R.length := by
  cases R with
  | nil => cases h
  | cons o R => simp

set_option maxRecDepth 100000 in
set_option maxHeartbeats 4000000 in
theorem rexp_some (q : Nat) (v : Value) (clk : Int) (R : RSt) (hok : ROk R) (now : Int) (w : World) (h : RS w q v clk R) (h0 : expE clk now = 0) (hg : rexpG R now = true) :
    Calls Try.prog 40 #[.pointer (some ⟨q, 0, none⟩), .int .i64 now] w (RExp q v clk R now w) := by
  have HS := Lib.hid h
  have HOK := Lib.hid hok
  have HT := Lib.hid (fun w => inr_any now w)
  have HN := Lib.hid (fun w' (h' : RS w' q v now R) => rnext_any q v now R hok w' h')
  have HE := Lib.hid h0
  have hoks : okT now = true ∧ ¬ now < clk := by
    unfold expE at h0
    cases h1 : okT now with
    | false => rw [h1] at h0; simp at h0
    | true =>
      refine ⟨rfl, fun hlt => ?_⟩
      rw [h1, if_pos rfl, if_pos hlt] at h0
      cases h0
  obtain ⟨h1, h2⟩ := hoks
  have d2 : decide (now < clk) = false := decide_eq_false h2
  have hb : 0 ≤ now ∧ now ≤ 1099511627776 := by simpa [okT] using h1
  have HB := Lib.hid hb
  have hpos := rexpG_pos hg
  have hg' : (rnextV R).2 = true ∧ decide (now < (rnextV R).1) = false := by
    unfold rexpG at hg
    simp only [Bool.and_eq_true, decide_eq_true_eq] at hg
    exact ⟨hg.1, decide_eq_false (by omega)⟩
  have HG := Lib.hid hg'
  have HD := Lib.hid (show rexpD R clk now = dueR R now by unfold rexpD; rw [if_pos h0, if_pos hg])
  have HC := Lib.hid (show expC clk now = now by unfold expC; rw [if_pos h0])
  have HQL := Lib.hid (fun k hk => h.own_lt (k := k) hk)
  have HLEN := Lib.hid h.len
  have HDL := Lib.hid (dueR_len R now)
  have c1 : w.cell? ⟨q, 1, none⟩ = some (.int .i64 clk) := blk_cell h.hdr 1
  have f1 : w.frozen? ⟨q, 1, none⟩ = false := blk_frozen h.hdr 1
  obtain ⟨g, cap, cur0, rfl, hqg, -, hcap, -⟩ := h.open hpos
  have HQG := Lib.hid hqg
  have HPOS := Lib.hid hpos
  obtain ⟨i0, hi0, hz0, hz1, hz2⟩ := info_parts info3
  have HI3 := Lib.hid (And.intro hi0 (And.intro hz0 (And.intro hz1 hz2)))
  have hlr : (R.length : Int) ≤ 1000 := by have := HLEN.out; omega
  clear h hok h0 h2 hb hg' hg hpos hqg hi0 hz0 hz1 hz2 hcap
  go_enter Try.func40, Try.ntmps40
  go_wp2_with fail
  refine (HT.out _).mono ?_
  rintro e w1 ⟨rfl, rfl⟩
  rw [h1]
  go_wp2_with fail
  have hR2 := (HS.out.clock now).below (below_alloc (Below.refl _ _) (.cells #[] 106))
  refine (HN.out _ hR2).mono ?_
  rintro e w3 ⟨rfl, hb3⟩
  have hR3 := hR2.below hb3
  have hk3 : Keeps w w3 (ROwn q (.slice (some ⟨g, 0, none⟩) R.length cap)) := (((Keeps.refl w _).set ⟨q, 1, none⟩ (.int .i64 now) (.inl (.inl rfl))).alloc _).trans (Keeps.of_below hb3 (fun _ => False)) (fun _ hf => hf.elim)
  have hout : w3.heap[w.heap.size]? = some (.cells #[] 106 (0, 0)) := by
    refine blk_below ?_ hb3
    have := blk_new (w.setCell ⟨q, 1, none⟩ (.int .i64 now)) (.cells #[] 106)
    rw [show (w.setCell ⟨q, 1, none⟩ (.int .i64 now)).heap.size = w.heap.size by simp [World.setCell]] at this
    exact this
  have hsz3 : w.heap.size + 1 ≤ w3.heap.size := by
    have := blk_lt hout; omega
  have HX := Lib.hid (And.intro hR3 (And.intro hk3 (And.intro hout hsz3)))
  clear hR2 hR3 hk3 hout hb3 c1 f1 hsz3
  generalize rnextV R = nv at HG ⊢
  obtain ⟨n1, n2⟩ := nv
  obtain ⟨hn2, hn1⟩ := HG.out
  simp only at hn2 hn1
  subst hn2
  go_wp2
  have hS0 : SelI w q (.slice (some ⟨g, 0, none⟩) R.length cap) now R [] (.slice (some ⟨w3.heap.size, 0, none⟩) 0 0) (w3.alloc (.cells #[] 3)) := by
    have hb := below_alloc (Below.refl w3.heap.size w3) (.cells #[] 3)
    exact ⟨HX.out.1.below hb, HX.out.2.1.alloc _, blk_alloc HX.out.2.2.1 _, World.ownsRow_made w3 #[] 0 HX.out.2.2.2 (by unfold maxLen; omega) rfl, fun e => by cases e⟩
  have HS0 := Lib.hid hS0
  clear hS0
  go_loopw [9] (fun v9 wr => ∃ n : Nat, n ≤ (dueR R now).length ∧ Hid (SelI w q (.slice (some ⟨g, 0, none⟩) R.length cap) now R ((dueR R now).take n) v9 wr)) (fun v9 _ => (dueR R now).length - lenV v9)
  case atStart => exact ⟨0, Nat.zero_le _, Lib.hid (by rw [List.take_zero]; exact HS0.out)⟩
  case round =>
    obtain ⟨wo, rfl⟩ : ∃ wo : World, wo = wr := ⟨_, rfl⟩
    obtain ⟨n, hn, hR⟩ := hrel
    obtain ⟨O, hO⟩ : ∃ O, (dueR R now).take n = O := ⟨_, rfl⟩
    have HO := Lib.hid hO
    rw [hO] at hR
    have HOL := Lib.hid (show O.length ≤ 1000 by rw [← hO, List.length_take]; have := HDL.out; have := HLEN.out; omega)
    clear hO
    go_wp2
    go_loopw [10, 11] (fun b i wr => ∃ k : Nat, k ≤ R.length ∧ i = .int .i64 k ∧ b = .int .i64 (bestK R now O k) ∧ Hid (Below wo.heap.size wo wr)) (fun _ i _ => R.length - (RowKit.intOf i).toNat)
    case atStart => exact ⟨0, Nat.zero_le _, rfl, rfl, Lib.hid (Below.refl _ _)⟩
    case round =>
      obtain ⟨k, hk, rfl, rfl, hB⟩ := hrel
      have hI := hR.out.below hB.out
      have c0 : wr.cell? ⟨q, 0, none⟩ = some (.slice (some ⟨g, 0, none⟩) R.length cap) := blk_cell hI.set.hdr 0
      have HI := Lib.hid hI
      clear hI
      by_cases hlt : k < R.length
      · obtain ⟨o, ho⟩ : ∃ o, R[k]? = some o := ⟨_, List.getElem?_eq_getElem hlt⟩
        obtain ⟨g', cap', cur, he, hqg', hb, hc1, hc2, hc3, ht⟩ := HI.out.set.open HPOS.out
        obtain ⟨rfl, rfl⟩ : g = g' ∧ cap = cap' := by simpa using he
        have H42 := Lib.hid (fun m => (rarmed_any q _ now R k o ho (wr.drewN m) (HI.out.set.below (pw_below_drewN (Below.refl _ _) m))).mono (R' := fun e w' => e = .returned (.bool (armO o)) ∧ w' = wr.drewN m) (fun e w' h => ⟨h.1, h.2.symm⟩))
        have H54 := Lib.hid (fun m => (among_any (w.heap.size + 1) _ O k HOL.out (wr.drewN m) (HI.out.ord.below (pw_below_drewN (Below.refl _ _) m))).mono (R' := fun e w' => e = .returned (.bool (amg O k)) ∧ w' = wr.drewN m) (fun e w' h => ⟨h.1, h.2.symm⟩))
        have HSB := Lib.hid (show bestK R now O (k + 1) = stepB R now O (bestK R now O k) k from rfl)
        have HBS := Lib.hid (best_spec R now O k)
        have h0k : (0 : Int) ≤ k := by omega
        have hlt' : (k : Int) < (R.length : Int) := by omega
        have HKL := Lib.hid hlt
        cases o with
        | none =>
          have HST := Lib.hid (show bestK R now O (k + 1) = bestK R now O k by rw [HSB.out]; unfold stepB cand; rw [rT_of ho]; rfl)
          simp only [armO] at H42
          clear he hqg' hb hc1 hc2 hc3 ht ho hlt
          go_wp2
          go_quiet (first | exact Calls.quiet_of_same (H42.out _) | exact Calls.quiet_of_same (H54.out _))
          go_wp2
          go_roundw
          case rel => exact ⟨k + 1, by omega, by go_num, by rw [HST.out], Lib.hid (pw_below_drewN hB.out _)⟩
          case measure => simp [RowKit.intOf]; omega
        | some t =>
          have t7 := (rs_t hb ht ho).2.2.2.2.2.2.1
          simp only [armO] at H42
          have HRT := Lib.hid (rT_of ho)
          have HCU := Lib.hid (And.intro hb ht)
          clear he hqg' hb hc1 hc2 hc3 ht ho hlt
          cases d3 : (t.fst != 0)
          · have HST := Lib.hid (show bestK R now O (k + 1) = bestK R now O k by rw [HSB.out]; unfold stepB cand; rw [HRT.out]; simp [d3])
            rw [d3] at H42
            go_wp2
            go_quiet (first | exact Calls.quiet_of_same (H42.out _) | exact Calls.quiet_of_same (H54.out _))
            go_wp2
            go_roundw
            case rel => exact ⟨k + 1, by omega, by go_num, by rw [HST.out], Lib.hid (pw_below_drewN hB.out _)⟩
            case measure => simp [RowKit.intOf]; omega
          · rw [d3] at H42
            cases d4 : decide (t.fst ≤ now)
            · have HST := Lib.hid (show bestK R now O (k + 1) = bestK R now O k by rw [HSB.out]; unfold stepB cand; rw [HRT.out]; simp [d4])
              go_wp2
              go_quiet (first | exact Calls.quiet_of_same (H42.out _) | exact Calls.quiet_of_same (H54.out _))
              go_wp2
              go_roundw
              case rel => exact ⟨k + 1, by omega, by go_num, by rw [HST.out], Lib.hid (pw_below_drewN hB.out _)⟩
              case measure => simp [RowKit.intOf]; omega
            · have HCA := Lib.hid (show cand R now k = true by unfold cand; rw [HRT.out]; simp only [d3, d4]; rfl)
              cases d5 : amg O k
              · rw [d5] at H54
                have HSB2 := Lib.hid (show bestK R now O (k + 1) = if decide (bestK R now O k < 0) || decide (t.fst < rfst R (bestK R now O k).toNat) then (k : Int) else bestK R now O k by
                  rw [HSB.out]; unfold stepB; rw [HCA.out]
                  have e1 : O.contains k = false := d5
                  have e2 : rfst R k = t.fst := by unfold rfst; rw [HRT.out]
                  rw [e1, e2]; rfl)
                rcases HBS.out with ⟨hbe, -⟩ | ⟨m, hbe, hmk, hmc, -⟩
                · have HST := Lib.hid (show bestK R now O (k + 1) = (k : Int) by rw [HSB2.out, hbe]; rfl)
                  rw [hbe]
                  clear hbe
                  go_wp2
                  go_quiet (first | exact Calls.quiet_of_same (H42.out _) | exact Calls.quiet_of_same (H54.out _))
                  go_wp2
                  go_roundw
                  case rel => exact ⟨k + 1, by omega, by go_num, by rw [HST.out], Lib.hid (pw_below_drewN hB.out _)⟩
                  case measure => simp [RowKit.intOf]; omega
                · obtain ⟨tm, htm, -, -⟩ := cand_get hmc
                  have m7 := (rs_t HCU.out.1 HCU.out.2 htm).2.2.2.2.2.2.1
                  have e2 : rfst R m = tm.fst := by unfold rfst; rw [rT_of htm]
                  have HSB3 := Lib.hid (show bestK R now O (k + 1) = if decide (t.fst < tm.fst) then (k : Int) else (m : Int) by
                    rw [HSB2.out, hbe, Int.toNat_natCast, e2]
                    have : decide ((m : Int) < 0) = false := by simp
                    rw [this]; rfl)
                  rw [hbe]
                  have hm0 : (0 : Int) ≤ (m : Int) := by omega
                  have hm1 : (m : Int) < (R.length : Int) := by omega
                  have d6 : decide ((m : Int) < 0) = false := by simp
                  clear hbe hmk hmc htm e2
                  cases d7 : decide (t.fst < tm.fst)
                  · have HST := Lib.hid (show bestK R now O (k + 1) = (m : Int) by rw [HSB3.out, d7]; rfl)
                    go_wp2
                    go_quiet (first | exact Calls.quiet_of_same (H42.out _) | exact Calls.quiet_of_same (H54.out _))
                    go_wp2
                    go_roundw
                    case rel => exact ⟨k + 1, by omega, by go_num, by rw [HST.out], Lib.hid (pw_below_drewN hB.out _)⟩
                    case measure => simp [RowKit.intOf]; omega
                  · have HST := Lib.hid (show bestK R now O (k + 1) = (k : Int) by rw [HSB3.out, d7]; rfl)
                    go_wp2
                    go_quiet (first | exact Calls.quiet_of_same (H42.out _) | exact Calls.quiet_of_same (H54.out _))
                    go_wp2
                    go_roundw
                    case rel => exact ⟨k + 1, by omega, by go_num, by rw [HST.out], Lib.hid (pw_below_drewN hB.out _)⟩
                    case measure => simp [RowKit.intOf]; omega
              · rw [d5] at H54
                have HST := Lib.hid (show bestK R now O (k + 1) = bestK R now O k by
                  rw [HSB.out]; unfold stepB; rw [HCA.out]
                  have e1 : O.contains k = true := d5
                  rw [e1]; rfl)
                go_wp2
                go_quiet (first | exact Calls.quiet_of_same (H42.out _) | exact Calls.quiet_of_same (H54.out _))
                go_wp2
                go_roundw
                case rel => exact ⟨k + 1, by omega, by go_num, by rw [HST.out], Lib.hid (pw_below_drewN hB.out _)⟩
                case measure => simp [RowKit.intOf]; omega
      · obtain rfl : k = R.length := by omega
        clear hlt hk
        by_cases hnl : n < (dueR R now).length
        · obtain ⟨i, hi⟩ : ∃ i, (dueR R now)[n]? = some i := ⟨_, List.getElem?_eq_getElem hnl⟩
          have hbe : bestK R now O R.length = (i : Int) := by rw [← HO.out]; exact best_end hi
          have HNX := Lib.hid (show (dueR R now).take (n + 1) = O ++ [i] by rw [take_snoc hi, HO.out])
          have HOLN := Lib.hid (show O.length = n by rw [← HO.out, List.length_take]; omega)
          have HNL := Lib.hid hnl
          have HLV := Lib.hid (HI.out.ord.lenV)
          have d8 : decide ((i : Int) < 0) = false := by simp
          have HSZ := Lib.hid (show w.heap.size + 1 ≤ wr.heap.size by have := blk_lt HI.out.out; omega)
          rw [hbe]
          clear hbe hi hnl
          go_wp2_with (refine gate_builtin (b := .append) (xs := #[.tmp 103, .tmp 105]) (ts := #[49, 49]) rfl ?_; go_must (refine wpList_append_own_at _ rfl (.tmp 103) (.tmp 105) 49 rfl (w.heap.size + 1) 3 i0 (.int .i64 0) 1 8 Try.underlying49 HI3.out.1 HI3.out.2.1 HI3.out.2.2.1 HI3.out.2.2.2 rfl (by decide) _ O.length (O.map encN) rfl (World.ownsRow.alloc HI.out.ord _) ⟨wr.heap.size, 0, none⟩ 1 1 [.int .i64 (i : Int)] rfl rfl ?c1 (by intro u hu; rw [List.mem_singleton.1 hu]; rfl) (by have := HOL.out; unfold maxLen; omega) (by have := HOL.out; omega) (by have := HSZ.out; simp; omega) ?_))
          case c1 =>
            intro j u hu
            rw [addmk, blk_cell (blk_new wr _)]
            simpa using hu
          intro v' w' hown' hg' hnil' hblk'
          have hnn : v' ≠ .slice none 0 0 := fun e => hnil' e
          have HX2 := Lib.hid (HI.out.app HQL.out hg' hown' hnn)
          clear hown' hg' hnil' hblk' hnn c0
          go_wp2
          go_roundw
          case rel => exact ⟨n + 1, by have := HNL.out; omega, Lib.hid (by rw [HNX.out]; exact HX2.out)⟩
          case measure =>
            have h1 := HX2.out.ord.lenV
            have h2 := HLV.out
            have h3 := HOLN.out
            have h4 := HNL.out
            rw [List.length_append, List.length_singleton] at h1
            omega
        · have hnl2 : n = (dueR R now).length := by omega
          have hbe : bestK R now O R.length = -1 := by rw [← HO.out]; exact best_none (by omega)
          have hOD : O = dueR R now := by rw [← HO.out]; exact List.take_of_length_le (by omega)
          rw [hbe]
          have hform := HI.out.ord.form
          have hnnn := HI.out.nn
          have HIO := HI
          rw [hOD] at HIO hform
          have HF0 := Lib.hid HIO.out.fire
          clear hbe hnl hnl2 hn hOD
          rcases hform with ⟨e, -⟩ | ⟨g9, c9, rfl⟩
          · exact absurd e hnnn
          · clear hnnn
            go_wp2
            clear c0
            have HDN := Lib.hid (show ((dueR R now).length : Int) ≤ 1000 by have := HDL.out; have := HLEN.out; omega)
            obtain ⟨i6, hi6, hz60, hz61, hz62⟩ := info_parts info106
            have HI6 := Lib.hid (And.intro hi6 (And.intro hz60 (And.intro hz61 hz62)))
            clear hi6 hz60 hz61 hz62
            obtain ⟨wm, hwm⟩ : ∃ wm : World, wm = wr := ⟨_, rfl⟩
            go_loopw [6, 12] (fun v6 i wr => ∃ k : Nat, k ≤ (dueR R now).length ∧ i = .int .i64 k ∧ Hid (FirI w q g cap now R (dueR R now) (.slice (some ⟨g9, 0, none⟩) (dueR R now).length c9) k v6 wr)) (fun _ i _ => (dueR R now).length - (RowKit.intOf i).toNat)
            case atStart => exact ⟨0, Nat.zero_le _, rfl, HF0⟩
            case round =>
              obtain ⟨k, hk, rfl, hF⟩ := hrel
              have hdn := HDN.out
              by_cases hlt : k < (dueR R now).length
              · obtain ⟨i, hi⟩ : ∃ i, (dueR R now)[k]? = some i := ⟨_, List.getElem?_eq_getElem hlt⟩
                obtain ⟨t, hti, hf0, hf1⟩ := cand_get (mem_dueR.1 (List.mem_of_getElem? hi))
                have hnot := dueR_not hi
                have HTK := Lib.hid (HOK.out _ _ hti)
                have HTR := Lib.hid hti
                have HTI := Lib.hid (show (rfire R now ((dueR R now).take k))[i]? = some (some t) by rw [rfire_not hnot]; exact hti)
                have HNOT := Lib.hid hnot
                have HI1 := Lib.hid hi
                have HKD := Lib.hid (show k ≤ 1000 by omega)
                have HKL := Lib.hid hlt
                have HF1 := Lib.hid hf1
                have hs := hF.out.set
                rw [← rfire_len R now ((dueR R now).take k)] at hs
                obtain ⟨g', cap', cur, he, -, hb, -, -, -, ht⟩ := hs.open (by rw [rfire_len]; exact HPOS.out)
                obtain ⟨rfl, rfl⟩ : g = g' ∧ cap = cap' := by simpa using he
                obtain ⟨-, -, -, -, -, -, t7, t8, -⟩ := rs_t hb ht HTI.out
                obtain ⟨g9', c9', he9, o9⟩ := hF.out.ord.cell hi
                obtain ⟨rfl, rfl⟩ : g9 = g9' ∧ c9 = c9' := by simpa using he9
                have c0 : wr.cell? ⟨q, 0, none⟩ = some (.slice (some ⟨g, 0, none⟩) R.length cap) := blk_cell hF.out.set.hdr 0
                have hk0 : (0 : Int) ≤ (k : Int) := by omega
                have hk1 : (k : Int) < ((dueR R now).length : Int) := by omega
                have hi0 : (0 : Int) ≤ (i : Int) := by omega
                have hi1 : (i : Int) < (R.length : Int) := by have := (List.getElem?_eq_some_iff.1 hti).1; omega
                clear he he9 hb ht hs hti hnot hi hf0 hf1 hlt
                go_wp2
                go_quiet (fail)
                clear c0 o9
                cases d1 : decide (0 < t.ivl)
                · have HZ := Lib.hid (show t.ivl = 0 by have := of_decide_eq_false d1; have := HTK.out.i0; omega)
                  have HOV := Lib.hid (show overs t now = 0 by unfold overs; rw [if_pos HZ.out])
                  go_wp2
                  refine abs_w (FirI w q g cap now R (dueR R now) (.slice (some ⟨g9, 0, none⟩) (dueR R now).length c9) k u6) (hF.out.below (by first | exact pw_below_drewN (Below.refl _ _) _ | exact pw_below_drewN (pw_below_drewN (Below.refl _ _) _) _)) ?_
                  intro W5 h5
                  have H5 := Lib.hid h5
                  have h5sz := h5.keep.size
                  have hs5 := h5.set
                  rw [← rfire_len R now ((dueR R now).take k)] at hs5
                  obtain ⟨g5, cap5, cur5, he5, -, hb5, -, -, -, ht5⟩ := hs5.open (by rw [rfire_len]; exact HPOS.out)
                  obtain ⟨rfl, rfl⟩ : g = g5 ∧ cap = cap5 := by simpa using he5
                  obtain ⟨-, t2, t3, t4, t5, t6, -, -, -⟩ := rs_t hb5 ht5 HTI.out
                  obtain ⟨g9', c9', he9, o9⟩ := h5.ord.cell HI1.out
                  obtain ⟨rfl, rfl⟩ : g9 = g9' ∧ c9 = c9' := by simpa using he9
                  clear he5 he9 hb5 ht5 hs5 h5
                  have hFg : ¬ u6.ownBlock = some g := fun e => by have := (World.ownsRow.lt H5.out.out _ e).1; have := HQL.out g (.inr rfl); omega
                  have hF9 : ¬ u6.ownBlock = some g9 := fun e => H5.out.ap _ e rfl
                  have hKD : Keeps W5 W5.drew (fun j => u6.ownBlock = some j) := (Keeps.refl W5 _).drew
                  have k2 := cell_after t2 (fun j => u6.ownBlock = some j) hFg
                  have k3 := cell_after t3 (fun j => u6.ownBlock = some j) hFg
                  have k4 := cell_after t4 (fun j => u6.ownBlock = some j) hFg
                  have k5 := cell_after t5 (fun j => u6.ownBlock = some j) hFg
                  have k6 := cell_after t6 (fun j => u6.ownBlock = some j) hFg
                  have k9 := cell_after o9 (fun j => u6.ownBlock = some j) hF9
                  have hbD : Below W5.heap.size W5 W5.drew := below_drew (Below.refl _ _)
                  have HSZ5 := Lib.hid h5sz
                  clear t2 t3 t4 t5 t6 o9 h5sz hFg hF9
                  go_region_held3 (fun w' => Keeps W5 w' (fun j => u6.ownBlock = some j)) (first | assumption | exact Keeps.drew (Keeps.refl _ _) | exact Keeps.alloc (by assumption) _ | exact Keeps.grown (by assumption) hg' (fun _ e => .inl e))
                    (first | (refine step_append_lies _ (by rfl) _ _ _ (by rfl) w.heap.size 106 i6 _ 7 56 Try.underlying91 HI6.out.1 HI6.out.2.1 HI6.out.2.2.1 HI6.out.2.2.2 rfl (by decide) u6 k (rfd R now ((dueR R now).take k)) (by rfl) (H5.out.below (below_alloc hbD _)).out ⟨W5.heap.size, 0, none⟩ 1 1 (fdC (i : Int) { t with } now) (by rfl) (by rfl) (fun j u hu => by unfold fdC at hu; rw [HOV.out] at hu; exact World.news_of_block (blk_new _ _) j u hu) (by intro u hu; simp [fdC] at hu; rcases hu with rfl | rfl | rfl | rfl | rfl | rfl | rfl <;> rfl) (by omega) (by have := HKD.out; unfold maxLen; omega) (by have := HKD.out; omega) (by have := HSZ5.out; simp; omega) (W5.heap.size + 1) (by simp) ?_; intro gg cap1 w' hown' hg' hat' hlt'))
                  clear k2 k3 k4 k5 k6 k9 hbD hKD
                  have hblk' : (Value.slice (some ⟨gg, 0, none⟩) (k + 1) cap1).ownBlock = u6.ownBlock ∨ (Value.slice (some ⟨gg, 0, none⟩) (k + 1) cap1).ownBlock = some (W5.heap.size + 1) := hat'.elim (fun e => .inl e.symm) (fun e => .inr (by rw [e]; rfl))
                  clear hat' hlt'
                  have h6 := H5.out.app HQL.out HI1.out HTR.out hown' ⟨hg'.os, hg'.tape, hg'.output, hg'.size, hg'.block⟩ hblk'
                  have H6 := Lib.hid h6
                  have hs6 := h6.set
                  rw [← rfire_len R now ((dueR R now).take k)] at hs6
                  obtain ⟨g6, cap6, cur6, he6, -, hb6, -, -, -, ht6⟩ := hs6.open (by rw [rfire_len]; exact HPOS.out)
                  obtain ⟨rfl, rfl⟩ : g = g6 ∧ cap = cap6 := by simpa using he6
                  obtain ⟨-, -, -, -, -, -, r7, r8, -⟩ := rs_t hb6 ht6 HTI.out
                  have fz : w'.frozen? ⟨g, i * 10 + 7, none⟩ = false := blk_frozen hb6 _
                  clear hown' hg' hblk' h6 hs6 he6 hb6 ht6
                  have w4 : IntKind.i64.wrap ((0 : Int) + 1) = 1 := rfl
                  have w4' : IntKind.i64.wrap (1 : Int) = 1 := rfl
                  have w5 : IntKind.i64.wrap ((1 : Int) * 0) = 0 := rfl
                  have w5' : IntKind.i64.wrap (0 : Int) = 0 := rfl
                  have k0 := HTK.out.f0
                  have k3 := HTK.out.f1
                  have w6 : IntKind.i64.wrap (t.fst + 0) = t.fst := by rw [Int.add_zero]; exact IntWalk.i64_in _ (by omega)
                  have w6' : IntKind.i64.wrap t.fst = t.fst := IntWalk.i64_in _ (by omega)
                  rw [HZ.out] at r8
                  have HX := Lib.hid (show 0 = nextF t now by unfold nextF; rw [if_pos HZ.out])
                  go_wp2
                  go_quiet (fail)
                  clear w4 w4' w5 w5' w6 w6'
                  go_wp2
                  go_roundw
                  case rel => exact ⟨k + 1, by have := HKL.out; omega, by go_num, Lib.hid ((H6.out.below (pw_below_drewN (Below.refl _ _) _)).fire HQL.out HQG.out HI1.out HNOT.out HTR.out HX.out)⟩
                  case measure => have := HKL.out; simp [RowKit.intOf]; omega
                · have hip := of_decide_eq_true d1
                  have hz : t.ivl ≠ 0 := by omega
                  obtain ⟨b0, b1, b2, b3⟩ := overs_bound HTK.out HF1.out HB.out.2 hz
                  have k0 := HTK.out.f0
                  have k1 := HF1.out
                  have k2 := HB.out.2
                  have w1 : IntKind.i64.wrap (now - t.fst) = now - t.fst := IntWalk.i64_in _ (by omega)
                  have w2 : IntKind.i64.wrap ((now - t.fst).tdiv t.ivl) = (now - t.fst) / t.ivl := IntWalk.i64_quo _ _ (by have := HF1.out; omega)
                  have HOV := Lib.hid (show overs t now = (now - t.fst) / t.ivl by unfold overs; rw [if_neg hz])
                  have d0 : (t.ivl == 0) = false := by simpa using hz
                  clear hip
                  go_wp2
                  go_quiet (fail)
                  clear w1 w2
                  generalize (now - t.fst) / t.ivl = ov at *
                  go_wp2
                  refine abs_w (FirI w q g cap now R (dueR R now) (.slice (some ⟨g9, 0, none⟩) (dueR R now).length c9) k u6) (hF.out.below (by first | exact pw_below_drewN (Below.refl _ _) _ | exact pw_below_drewN (pw_below_drewN (Below.refl _ _) _) _)) ?_
                  intro W5 h5
                  have H5 := Lib.hid h5
                  have h5sz := h5.keep.size
                  have hs5 := h5.set
                  rw [← rfire_len R now ((dueR R now).take k)] at hs5
                  obtain ⟨g5, cap5, cur5, he5, -, hb5, -, -, -, ht5⟩ := hs5.open (by rw [rfire_len]; exact HPOS.out)
                  obtain ⟨rfl, rfl⟩ : g = g5 ∧ cap = cap5 := by simpa using he5
                  obtain ⟨-, t2, t3, t4, t5, t6, -, -, -⟩ := rs_t hb5 ht5 HTI.out
                  obtain ⟨g9', c9', he9, o9⟩ := h5.ord.cell HI1.out
                  obtain ⟨rfl, rfl⟩ : g9 = g9' ∧ c9 = c9' := by simpa using he9
                  clear he5 he9 hb5 ht5 hs5 h5
                  have hFg : ¬ u6.ownBlock = some g := fun e => by have := (World.ownsRow.lt H5.out.out _ e).1; have := HQL.out g (.inr rfl); omega
                  have hF9 : ¬ u6.ownBlock = some g9 := fun e => H5.out.ap _ e rfl
                  have hKD : Keeps W5 W5.drew (fun j => u6.ownBlock = some j) := (Keeps.refl W5 _).drew
                  have k2 := cell_after t2 (fun j => u6.ownBlock = some j) hFg
                  have k3 := cell_after t3 (fun j => u6.ownBlock = some j) hFg
                  have k4 := cell_after t4 (fun j => u6.ownBlock = some j) hFg
                  have k5 := cell_after t5 (fun j => u6.ownBlock = some j) hFg
                  have k6 := cell_after t6 (fun j => u6.ownBlock = some j) hFg
                  have k9 := cell_after o9 (fun j => u6.ownBlock = some j) hF9
                  have hbD : Below W5.heap.size W5 W5.drew := below_drew (Below.refl _ _)
                  have HSZ5 := Lib.hid h5sz
                  clear t2 t3 t4 t5 t6 o9 h5sz hFg hF9
                  go_region_held3 (fun w' => Keeps W5 w' (fun j => u6.ownBlock = some j)) (first | assumption | exact Keeps.drew (Keeps.refl _ _) | exact Keeps.alloc (by assumption) _ | exact Keeps.grown (by assumption) hg' (fun _ e => .inl e))
                    (first | (refine step_append_lies _ (by rfl) _ _ _ (by rfl) w.heap.size 106 i6 _ 7 56 Try.underlying91 HI6.out.1 HI6.out.2.1 HI6.out.2.2.1 HI6.out.2.2.2 rfl (by decide) u6 k (rfd R now ((dueR R now).take k)) (by rfl) (H5.out.below (below_alloc hbD _)).out ⟨W5.heap.size, 0, none⟩ 1 1 (fdC (i : Int) { t with } now) (by rfl) (by rfl) (fun j u hu => by unfold fdC at hu; rw [HOV.out] at hu; exact World.news_of_block (blk_new _ _) j u hu) (by intro u hu; simp [fdC] at hu; rcases hu with rfl | rfl | rfl | rfl | rfl | rfl | rfl <;> rfl) (by omega) (by have := HKD.out; unfold maxLen; omega) (by have := HKD.out; omega) (by have := HSZ5.out; simp; omega) (W5.heap.size + 1) (by simp) ?_; intro gg cap1 w' hown' hg' hat' hlt'))
                  clear k2 k3 k4 k5 k6 k9 hbD hKD
                  have hblk' : (Value.slice (some ⟨gg, 0, none⟩) (k + 1) cap1).ownBlock = u6.ownBlock ∨ (Value.slice (some ⟨gg, 0, none⟩) (k + 1) cap1).ownBlock = some (W5.heap.size + 1) := hat'.elim (fun e => .inl e.symm) (fun e => .inr (by rw [e]; rfl))
                  clear hat' hlt'
                  have h6 := H5.out.app HQL.out HI1.out HTR.out hown' ⟨hg'.os, hg'.tape, hg'.output, hg'.size, hg'.block⟩ hblk'
                  have H6 := Lib.hid h6
                  have hs6 := h6.set
                  rw [← rfire_len R now ((dueR R now).take k)] at hs6
                  obtain ⟨g6, cap6, cur6, he6, -, hb6, -, -, -, ht6⟩ := hs6.open (by rw [rfire_len]; exact HPOS.out)
                  obtain ⟨rfl, rfl⟩ : g = g6 ∧ cap = cap6 := by simpa using he6
                  obtain ⟨-, -, -, -, -, -, r7, r8, -⟩ := rs_t hb6 ht6 HTI.out
                  have fz : w'.frozen? ⟨g, i * 10 + 7, none⟩ = false := blk_frozen hb6 _
                  clear hown' hg' hblk' h6 hs6 he6 hb6 ht6
                  have w4 : IntKind.i64.wrap (ov + 1) = ov + 1 := IntWalk.i64_in _ (by omega)
                  have w5 : IntKind.i64.wrap ((ov + 1) * t.ivl) = (ov + 1) * t.ivl := IntWalk.i64_in _ (by omega)
                  have k3 := HTK.out.f1
                  have w6 : IntKind.i64.wrap (t.fst + (ov + 1) * t.ivl) = t.fst + (ov + 1) * t.ivl := IntWalk.i64_in _ (by omega)
                  have HNX := Lib.hid (show nextF t now = if 1099511627776 < t.fst + (ov + 1) * t.ivl then 0 else t.fst + (ov + 1) * t.ivl by unfold nextF; rw [if_neg hz, HOV.out])
                  go_wp2
                  go_quiet (fail)
                  clear w4 w5 w6
                  generalize t.fst + (ov + 1) * t.ivl = X at *
                  cases d9 : decide (1099511627776 < X)
                  · have HX := Lib.hid (show X = nextF t now by rw [HNX.out, if_neg (of_decide_eq_false d9)])
                    go_wp2
                    go_roundw
                    case rel => exact ⟨k + 1, by have := HKL.out; omega, by go_num, Lib.hid ((H6.out.below (pw_below_drewN (Below.refl _ _) _)).fire HQL.out HQG.out HI1.out HNOT.out HTR.out HX.out)⟩
                    case measure => have := HKL.out; simp [RowKit.intOf]; omega
                  · have HX := Lib.hid (show 0 = nextF t now by rw [HNX.out, if_pos (of_decide_eq_true d9)])
                    go_wp2
                    go_roundw
                    case rel => exact ⟨k + 1, by have := HKL.out; omega, by go_num, Lib.hid ((H6.out.below (pw_below_drewN (Below.refl _ _) _)).fire HQL.out HQG.out HI1.out HNOT.out HTR.out HX.out)⟩
                    case measure => have := HKL.out; simp [RowKit.intOf]; omega
              · obtain rfl : k = (dueR R now).length := by omega
                have HX := Lib.hid (fir_end hF.out HE.out HD.out HC.out)
                go_wp2
                go_ret2
                exact HX.out
end
end Go.Proofs.Ytodgbpggkikbcaa
