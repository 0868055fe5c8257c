/- Timers: the order of armed. -/
import Derived.Test.YtodgbpggkikbcaaMB
import Derived.Sort.Grow
import Derived.Test.YtodgbpggkikbcaaLay
import Derived.Test.YtodgbpggkikbcaaA0
namespace Go.Proofs.Ytodgbpggkikbcaa
section
set_option linter.unusedVariables false
set_option linter.unusedSimpArgs false
open Go.RowKit Go.Maps Go.Sort Go.Proofs.YtodgbpggkikbcaaW.PrintWords Go.Proofs.YtodgbpggkikbcaaW.PrintLast Go.Proofs.YtodgbpggkikbcaaW.PrintMore FLib
attribute [local go_sem] below_alloc_T below_drew_T below_drewN_T

theorem nan60 (x : Int) (w : World) : Calls Try.prog 60 #[.int .i64 x] w fun e w' => e = .returned (.bool false) ∧ w = w' := by
  go_enter Try.func60, Try.ntmps60
  go_wp2
  go_ret
  exact ⟨rfl, rfl⟩
theorem nan61 (x : Int) (w : World) : Calls Try.prog 61 #[.int .i64 x] w fun e w' => e = .returned (.bool false) ∧ w = w' := by
  go_enter Try.func61, Try.ntmps61
  go_wp2
  go_ret
  exact ⟨rfl, rfl⟩
def cmpI (x y : Int) : Int := if x < y then -1 else if y < x then 1 else 0
theorem cmp47 (x y : Int) (w : World) : Calls Try.prog 47 #[.int .i64 x, .int .i64 y] w fun e w' => e = .returned (.int .i64 (cmpI x y)) ∧ w = w' := by
  have HX := Lib.hid (fun w => nan60 x w)
  have HY := Lib.hid (fun w => nan60 y w)
  have HE := Lib.hid (show cmpI x y = if x < y then -1 else if y < x then 1 else 0 from rfl)
  have hc : (decide (x < y) = true) ∨ (decide (x < y) = false ∧ decide (y < x) = true) ∨ (decide (x < y) = false ∧ decide (y < x) = false) := by
    by_cases h1 : x < y <;> by_cases h2 : y < x <;> simp [h1, h2]
  rcases hc with d1 | ⟨d1, d2⟩ | ⟨d1, d2⟩
  all_goals
    go_enter Try.func47, Try.ntmps47
    go_wp2_with fail
    refine (HX.out _).mono ?_
    rintro e w1 ⟨rfl, rfl⟩
    go_wp2_with fail
    refine (HY.out _).mono ?_
    rintro e w1 ⟨rfl, rfl⟩
    go_wp2
    go_ret
    refine ⟨?_, rfl⟩
    rw [HE.out]
    simp only [decide_eq_true_eq, decide_eq_false_iff_not] at *
    simp [*]
    done
theorem cmp48 (x y : Int) (w : World) : Calls Try.prog 48 #[.int .i64 x, .int .i64 y] w fun e w' => e = .returned (.int .i64 (cmpI x y)) ∧ w = w' := by
  have HX := Lib.hid (fun w => nan61 x w)
  have HY := Lib.hid (fun w => nan61 y w)
  have HE := Lib.hid (show cmpI x y = if x < y then -1 else if y < x then 1 else 0 from rfl)
  have hc : (decide (x < y) = true) ∨ (decide (x < y) = false ∧ decide (y < x) = true) ∨ (decide (x < y) = false ∧ decide (y < x) = false) := by
    by_cases h1 : x < y <;> by_cases h2 : y < x <;> simp [h1, h2]
  rcases hc with d1 | ⟨d1, d2⟩ | ⟨d1, d2⟩
  all_goals
    go_enter Try.func48, Try.ntmps48
    go_wp2_with fail
    refine (HX.out _).mono ?_
    rintro e w1 ⟨rfl, rfl⟩
    go_wp2_with fail
    refine (HY.out _).mono ?_
    rintro e w1 ⟨rfl, rfl⟩
    go_wp2
    go_ret
    refine ⟨?_, rfl⟩
    rw [HE.out]
    simp only [decide_eq_true_eq, decide_eq_false_iff_not] at *
    simp [*]
    done
def orI (a b : Int) : Int := if a = 0 then b else a
set_option maxRecDepth 100000 in
theorem or_any (a b : Int) (q ty : Nat) (w : World) (h : w.heap[q]? = some (.cells #[.int .i64 a, .int .i64 b] ty (0, 0))) :
    Calls Try.prog 46 #[.slice (some ⟨q, 0, none⟩) 2 2] w fun e w' => e = .returned (.int .i64 (orI a b)) ∧ w = w' := by
  have HE := Lib.hid (show orI a b = if a = 0 then b else a from rfl)
  have c0 : w.cell? ⟨q, 0, none⟩ = some (.int .i64 a) := blk_cell h 0
  have c1 : w.cell? ⟨q, 1, none⟩ = some (.int .i64 b) := blk_cell h 1
  clear h
  by_cases ha : a = 0
  · subst ha
    rw [if_pos rfl] at HE
    rw [HE.out]
    by_cases hb : b = 0
    · subst hb
      go_enter Try.func46, Try.ntmps46
      go_wp2
      refine wp_loop_rounds 3 ?_
      rw [rounds_succ]
      go_wp2
      rw [rounds_succ]
      go_wp2
      rw [rounds_succ]
      go_wp2
      go_ret
      exact ⟨rfl, rfl⟩
    · have d1 : (b != 0) = true := by simpa using hb
      have d2 : (b == 0) = false := by simpa using hb
      clear hb
      go_enter Try.func46, Try.ntmps46
      go_wp2
      refine wp_loop_rounds 3 ?_
      rw [rounds_succ]
      go_wp2
      rw [rounds_succ]
      go_wp2
      go_ret
      exact ⟨rfl, rfl⟩
  · rw [if_neg ha] at HE
    rw [HE.out]
    have d1 : (a != 0) = true := by simpa using ha
    have d2 : (a == 0) = false := by simpa using ha
    clear ha
    go_enter Try.func46, Try.ntmps46
    go_wp2
    refine wp_loop_rounds 3 ?_
    rw [rounds_succ]
    go_wp2
    go_ret
    exact ⟨rfl, rfl⟩
end
section
set_option linter.unusedVariables false
set_option linter.unusedSimpArgs false
open Go.RowKit Go.Maps Go.Sort Go.Proofs.YtodgbpggkikbcaaW.PrintWords Go.Proofs.YtodgbpggkikbcaaW.PrintLast Go.Proofs.YtodgbpggkikbcaaW.PrintMore FLib
attribute [local go_sem] below_alloc_T below_drew_T below_drewN_T

set_option maxRecDepth 100000 in
set_option maxHeartbeats 1000000 in
theorem clo_any (g p mb : Nat) (clk : Int) (L : Slots) (i j : Nat) (b c : Nat) (t u : TT) (hi : L[i]? = some (some (b, t))) (hj : L[j]? = some (some (c, u))) (w : World) (hg : w.cell? ⟨g, 0, none⟩ = some (.pointer (some ⟨p, 0, none⟩))) (h : TS w p mb clk L) :
    Calls Try.prog 45 #[.int .i64 i, .int .i64 j, .pointer (some ⟨g, 0, none⟩)] w fun e w' => e = .returned (.int .i64 (orI (cmpI t.fst u.fst) (cmpI i j))) ∧ ∃ q os, w' = grow (w.drewN q) os := by
  have hli := (List.getElem?_eq_some_iff.1 hi).1
  have hlj := (List.getElem?_eq_some_iff.1 hj).1
  have hlen := h.len
  have l1 := (h.below (below_drew (Below.refl _ _))).run_look (k := (i : Int)) (wfI (by omega))
  have l2 := (h.below (below_drew (Below.refl _ _))).run_look (k := (j : Int)) (wfI (by omega))
  rw [at_nat_some.2 hi] at l1
  rw [at_nat_some.2 hj] at l2
  simp only [ptrV] at l1 l2
  have c0 : w.cell? ⟨p, 0, none⟩ = some (.map (some mb)) := blk_cell h.hdr 0
  have t6 : w.cell? ⟨b, 6, none⟩ = some (.int .i64 t.fst) := blk_cell (h.blk _ _ _ hi) 6
  have u6 : w.cell? ⟨c, 6, none⟩ = some (.int .i64 u.fst) := blk_cell (h.blk _ _ _ hj) 6
  have H47 := Lib.hid (fun x y w => (cmp47 x y w).mono (R' := fun e w' => e = .returned (.int .i64 (cmpI x y)) ∧ w' = w) (fun e w' h => ⟨h.1, h.2.symm⟩))
  have H48 := Lib.hid (fun x y w => (cmp48 x y w).mono (R' := fun e w' => e = .returned (.int .i64 (cmpI x y)) ∧ w' = w) (fun e w' h => ⟨h.1, h.2.symm⟩))
  have HO := Lib.hid (fun a b q ty w h => or_any a b q ty w h)
  clear hi hj hli hlj hlen h
  go_enter Try.func45, Try.ntmps45
  go_wp2
  refine still_tail 24 (by kernel_rfl) (by kernel_rfl) ?_
  simp only [List.take_succ_cons, List.take_zero, List.drop_succ_cons, List.drop_zero]
  repeat still_step
  still_call (H47.out _ _ _)
  repeat still_step
  still_call (H48.out _ _ _)
  repeat still_step
  refine wpStill_nil ?_
  clear l1 l2 c0 t6 u6 hg
  go_wp2_with fail
  refine (HO.out _ _ _ _ _ (blk_drew (blk_new w _))).mono ?_
  rintro e w1 ⟨rfl, rfl⟩
  go_wp2
  go_ret
  refine ⟨by rfl, 1, #[.cells #[.int .i64 (cmpI t.fst u.fst), .int .i64 (cmpI i j)] 3], ?_⟩
  rw [← alloc_eq_grow]
  rfl
end
section
set_option linter.unusedVariables false
set_option linter.unusedSimpArgs false
open Go.RowKit Go.Maps Go.Sort Go.Lib Go.Proofs.YtodgbpggkikbcaaW.PrintWords Go.Proofs.YtodgbpggkikbcaaW.PrintLast Go.Proofs.YtodgbpggkikbcaaW.PrintMore FLib

/-- Is there a timer? -/
def isT (L : Slots) (i : Nat) : Bool := (at' L (i : Int)).isSome
def fstAt (L : Slots) (i : Nat) : Int := match at' L (i : Int) with | some (_, t) => t.fst | none => 0
def blkAt (L : Slots) (i : Nat) : Nat := match at' L (i : Int) with | some (b, _) => b | none => 0
def ids (L : Slots) : List Nat := (List.range L.length).filter (isT L)
/-- i is due no later than j. -/
def leT (L : Slots) (i j : Nat) : Bool := decide (fstAt L i < fstAt L j) || (decide (fstAt L i = fstAt L j) && decide (i ≤ j))
def ord (L : Slots) : List Nat := (ids L).mergeSort (leT L)
def arm (L : Slots) : List Nat := (ord L).filter (fun i => decide (0 < fstAt L i))

theorem isT_iff {L : Slots} {i : Nat} : isT L i = true ↔ ∃ b t, L[i]? = some (some (b, t)) := by
  unfold isT
  rw [Option.isSome_iff_exists]
  exact ⟨fun ⟨x, h⟩ => ⟨x.1, x.2, at_nat_some.1 h⟩, fun ⟨b, t, h⟩ => ⟨(b, t), at_nat_some.2 h⟩⟩
theorem fst_of {L : Slots} {i b : Nat} {t : TT} (h : L[i]? = some (some (b, t))) : fstAt L i = t.fst := by unfold fstAt; rw [at_nat_some.2 h]
theorem blk_of {L : Slots} {i b : Nat} {t : TT} (h : L[i]? = some (some (b, t))) : blkAt L i = b := by unfold blkAt; rw [at_nat_some.2 h]
theorem mem_ids {L : Slots} {i : Nat} : i ∈ ids L ↔ isT L i = true := by
  unfold ids
  rw [List.mem_filter, List.mem_range]
  exact ⟨fun h => h.2, fun h => ⟨by obtain ⟨b, t, hi⟩ := isT_iff.1 h; exact (List.getElem?_eq_some_iff.1 hi).1, h⟩⟩
theorem ids_nodup (L : Slots) : (ids L).Nodup := List.nodup_range.filter _
theorem ids_len (L : Slots) : (ids L).length ≤ L.length := by
  have := List.length_filter_le (isT L) (List.range L.length)
  simpa [ids] using this
theorem ord_perm (L : Slots) : (ord L).Perm (ids L) := List.mergeSort_perm _ _
theorem mem_ord {L : Slots} {i : Nat} : i ∈ ord L ↔ isT L i = true := (ord_perm L).mem_iff.trans mem_ids
theorem ord_nodup (L : Slots) : (ord L).Nodup := (ord_perm L).nodup_iff.2 (ids_nodup L)
theorem ord_len (L : Slots) : (ord L).length = (ids L).length := (ord_perm L).length_eq
theorem mem_arm {L : Slots} {i : Nat} : i ∈ arm L ↔ isT L i = true ∧ 0 < fstAt L i := by
  unfold arm
  rw [List.mem_filter, mem_ord]
  simp
theorem leT_iff {L : Slots} {i j : Nat} : leT L i j = true ↔ fstAt L i < fstAt L j ∨ (fstAt L i = fstAt L j ∧ i ≤ j) := by simp [leT]
theorem leT_trans (L : Slots) (a b c : Nat) (h1 : leT L a b = true) (h2 : leT L b c = true) : leT L a c = true := by
  rw [leT_iff] at *; omega
theorem leT_total (L : Slots) (a b : Nat) : (leT L a b || leT L b a) = true := by
  rw [Bool.or_eq_true, leT_iff, leT_iff]; omega
theorem ord_sorted (L : Slots) : (ord L).Pairwise (fun a b => leT L a b = true) := List.pairwise_mergeSort (leT_trans L) (leT_total L) _
theorem sort_unique (L : Slots) {l l' : List Nat} (h : l.Perm l') : l.mergeSort (leT L) = l'.mergeSort (leT L) := by
  refine List.Perm.eq_of_pairwise (le := fun a b => leT L a b = true) (fun a b _ _ h1 h2 => ?_) (List.pairwise_mergeSort (leT_trans L) (leT_total L) _) (List.pairwise_mergeSort (leT_trans L) (leT_total L) _) ((List.mergeSort_perm _ _).trans (h.trans (List.mergeSort_perm _ _).symm))
  rw [leT_iff] at h1 h2; omega

/-- The keys of the map. -/
theorem keys_perm {W : World} {mb n : Nat} {D : DataW Unit} {L : Slots} (hD : W.ownsMap Try.prog 3 Rd mb n D) (h : DL D L) {ss : List Int} (hs : ss.Perm (intKeys D)) :
    (∀ s ∈ ss, ∃ i : Nat, s = i ∧ isT L i = true) ∧ (ss.map Int.toNat).Perm (ids L) := by
  have h1 : ((ids L).map (fun i : Nat => (i : Int))).Perm (intKeys D) := by
    refine CollectedI.perm (left := fun _ => false) ⟨?_, fun x => ?_⟩ hD keyI Try.underlying3 (fun _ => rfl)
    · exact List.Pairwise.map _ (fun a b hab he => hab (Int.ofNat.inj he)) (ids_nodup L)
    · simp only [List.mem_map, mem_ids, and_true]
      rw [h.has]
      constructor
      · rintro ⟨i, hi, rfl⟩; exact hi
      · intro hx
        obtain ⟨y, hy⟩ := Option.isSome_iff_exists.1 hx
        obtain ⟨i, rfl, -⟩ := at_some hy
        exact ⟨i, hx, rfl⟩
  have h2 := hs.trans h1.symm
  refine ⟨fun s hs => ?_, ?_⟩
  · obtain ⟨i, hi, rfl⟩ := List.mem_map.1 (h2.mem_iff.1 hs)
    exact ⟨i, rfl, mem_ids.1 hi⟩
  · have := h2.map Int.toNat
    rw [List.map_map] at this
    have e : (Int.toNat ∘ fun i : Nat => (i : Int)) = id := by funext i; simp
    rwa [e, List.map_id] at this
end
section
set_option linter.unusedVariables false
set_option linter.unusedSimpArgs false
open Go.RowKit Go.Maps Go.Sort Go.Lib Go.Proofs.YtodgbpggkikbcaaW.PrintWords Go.Proofs.YtodgbpggkikbcaaW.PrintLast Go.Proofs.YtodgbpggkikbcaaW.PrintMore FLib

theorem keeps_sortWorld {α : Type} [Inhabited α] (enc : α → Value) (w : World) (b o m : Nat) (d : Array α) (os : Array Obj) : Keeps w (sortWorld enc w b o m d os) (fun k => k = b) := by
  refine ⟨rfl, rfl, rfl, by simp [sortWorld, grow, putRow, mapBlock, Sort.ahead], fun k hk hne => ?_⟩
  unfold sortWorld
  rw [heap_grow_old _ _ (by simpa [putRow, mapBlock, Sort.ahead] using hk)]
  unfold putRow mapBlock
  show (w.heap.modify b _)[k]? = _
  rw [Array.getElem?_modify, if_neg (fun e => hne e.symm)]
theorem size_sortWorld {α : Type} [Inhabited α] (enc : α → Value) (w : World) (b o m : Nat) (d : Array α) (os : Array Obj) : w.heap.size ≤ (sortWorld enc w b o m d os).heap.size := (keeps_sortWorld enc w b o m d os).size
theorem holds_sortWorld {α : Type} [Inhabited α] (enc : α → Value) {w : World} {b o : Nat} {d0 : Array α} (m : Nat) (d : Array α) (os : Array Obj) (hb : b < w.heap.size) (h : Holds enc w b o d0) (hs : d.size = d0.size) : Holds enc (sortWorld enc w b o m d os) b o d := by
  unfold sortWorld
  refine holds_grow enc _ os b o d (by simpa [putRow, mapBlock, Sort.ahead] using hb) ?_
  rw [putRow_ahead]
  exact holds_putRow enc w b o d0 d h hs

/-- A timer's number. -/
abbrev Pres (L : Slots) := { i : Nat // isT L i = true }
def encP {L : Slots} (x : Pres L) : Value := .int .i64 (x.1 : Int)
def cfP {L : Slots} (x y : Pres L) : Int := orI (cmpI (fstAt L x.1) (fstAt L y.1)) (cmpI x.1 y.1)
theorem ltP {L : Slots} (x y : Pres L) : ltOf cfP x y = true ↔ fstAt L x.1 < fstAt L y.1 ∨ (fstAt L x.1 = fstAt L y.1 ∧ x.1 < y.1) := by
  unfold ltOf cfP orI cmpI
  rw [decide_eq_true_eq]
  split <;> split <;> (try split) <;> (try split) <;> omega
theorem leP {L : Slots} (x y : Pres L) : (!ltOf cfP y x) = leT L x.1 y.1 := by
  cases h : ltOf cfP y x with
  | true =>
    have := (ltP y x).1 h
    cases h2 : leT L x.1 y.1 with
    | false => rfl
    | true => have := leT_iff.1 h2; omega
  | false =>
    cases h2 : leT L x.1 y.1 with
    | true => rfl
    | false =>
      have h3 : ¬ ltOf cfP y x = true := by rw [h]; decide
      have h4 : ¬ leT L x.1 y.1 = true := by rw [h2]; decide
      rw [ltP] at h3
      rw [leT_iff] at h4
      omega
theorem ltP_no {L : Slots} {x y : Pres L} : ltOf cfP x y = false ↔ ¬ (fstAt L x.1 < fstAt L y.1 ∨ (fstAt L x.1 = fstAt L y.1 ∧ x.1 < y.1)) := by
  rw [← ltP]; simp
theorem swoP (L : Slots) [Inhabited (Pres L)] : SWO (ltOf (α := Pres L) cfP) := by
  refine ⟨fun x => ltP_no.2 (by omega), fun x y z h1 h2 => ?_, fun x y z h1 h2 => ?_⟩
  · rw [ltP] at *; omega
  · rw [ltP_no] at *; omega

set_option maxHeartbeats 1000000 in
theorem sort_any (g p mb : Nat) (clk : Int) (L : Slots) (gb cap ty : Nat) (cur : Array Value) (ss : List Int) (w : World) (hg : w.cell? ⟨g, 0, none⟩ = some (.pointer (some ⟨p, 0, none⟩))) (hgg : g ≠ gb) (h : TS w p mb clk L) (hgb : ¬ TOwn p mb L gb)
    (hrow : w.heap[gb]? = some (.cells cur ty (0, 0))) (hcur : cur.toList.take ss.length = ss.map encZ) (hss : ∀ s ∈ ss, ∃ i : Nat, s = i ∧ isT L i = true) (hperm : (ss.map Int.toNat).Perm (ids L)) (hpos : ss ≠ []) :
    Calls Try.prog 44 #[.slice (some ⟨gb, 0, none⟩) ss.length cap, .func (.func 45) #[] #[.pointer (some ⟨g, 0, none⟩)]] w fun e w' =>
      e = .returned (.tuple #[]) ∧ (∀ k i : Nat, (ord L)[k]? = some i → w'.cell? ⟨gb, k, none⟩ = some (.int .i64 (i : Int))) ∧ Keeps w w' (fun k => k = gb) := by
  have hp1 : ∀ s ∈ ss, isT L s.toNat = true := fun s hs => by obtain ⟨i, rfl, hi⟩ := hss s hs; simpa using hi
  obtain ⟨d, hd⟩ : ∃ d : List (Pres L), d = ss.pmap (fun s hs => (⟨s.toNat, hs⟩ : Pres L)) hp1 := ⟨_, rfl⟩
  have hdl : d.length = ss.length := by rw [hd, List.length_pmap]
  have hdm : d.map (·.1) = ss.map Int.toNat := by rw [hd, List.map_pmap, List.pmap_eq_map]
  haveI : Inhabited (Pres L) := ⟨d.head (by intro e; apply hpos; apply List.eq_nil_of_length_eq_zero; rw [← hdl, e]; rfl)⟩
  have hblk : gb < w.heap.size := blk_lt hrow
  have hlen1 : ss.length ≤ 1000 := by
    have h1 := hperm.length_eq
    rw [List.length_map] at h1
    have h2 := ids_len L
    have h3 := h.len
    omega
  have hH : Holds encP w gb 0 d.toArray := fun j hj => by
    have hj' : j < ss.length := by simpa [hdl] using hj
    refine ⟨?_, blk_frozen hrow _⟩
    rw [Nat.zero_add, blk_cell hrow, ← Array.getElem?_toList]
    have e1 : (cur.toList.take ss.length)[j]? = (ss.map encZ)[j]? := by rw [hcur]
    rw [List.getElem?_take, if_pos hj'] at e1
    rw [e1, List.getElem?_map, List.getElem?_eq_getElem hj']
    have e2 : (d.toArray[j]!).1 = (ss[j]).toNat := by
      rw [getElem!_pos _ j hj]
      simp [hd]
    show some (encZ ss[j]) = some (encP d.toArray[j]!)
    unfold encP
    rw [e2]
    obtain ⟨i, hi, -⟩ := hss _ (List.getElem_mem hj')
    rw [hi]; simp [encZ]
  have hcmp : CmpLays1 Try.prog 45 #[.pointer (some ⟨g, 0, none⟩)] (encP (L := L)) cfP gb 0 d.toArray.size w := fun m os dk hs x y => by
    have hk := keeps_sortWorld (encP (L := L)) w gb 0 m dk os
    obtain ⟨b, t, hx⟩ := isT_iff.1 x.2
    obtain ⟨c, u, hy⟩ := isT_iff.1 y.2
    have := clo_any g p mb clk L x.1 y.1 b c t u hx hy (sortWorld encP w gb 0 m dk os)
      ((World.cell?_of_block (hk.block g (by
        obtain ⟨o, ho, -⟩ := cells_of_cell hg
        exact blk_lt ho) (fun e => hgg e))).trans hg) (h.keep hk (fun k e => by subst e; exact hgb))
    refine this.mono (fun e w' ⟨he, q, os', hw⟩ => ⟨?_, q, os', hw⟩)
    rw [he]
    unfold cfP
    rw [fst_of hx, fst_of hy]
  have hcon := Any.slices_SortFunc_total laySortF (encP (L := L)) (fun _ => rfl) cfP (swoP L) 45 #[.pointer (some ⟨g, 0, none⟩)] gb 0 cap d.toArray w (enters_of Try.func45 (by kernel_rfl) rfl) hcmp hH hblk (by simp [hdl]; omega)
    (fun x y h1 h2 => Subtype.ext (by rw [ltP_no] at h1 h2; omega))
  change Calls Try.prog 44 _ _ _ at hcon
  have hsz : d.toArray.size = ss.length := by simp [hdl]
  rw [hsz] at hcon
  refine hcon.mono ?_
  rintro e w' ⟨rfl, n, os, rfl⟩
  refine ⟨rfl, fun k i hk => ?_, keeps_sortWorld _ _ _ _ _ _ _⟩
  obtain ⟨D, hDe⟩ : ∃ D : List (Pres L), D = d.mergeSort (fun x y => !ltOf cfP y x) := ⟨_, rfl⟩
  have hDl : D.length = ss.length := by rw [hDe, List.length_mergeSort, hdl]
  have hDm : D.map (·.1) = ord L := by
    rw [hDe, List.map_mergeSort (s := leT L) (fun a _ b _ => leP a b), hdm]
    exact sort_unique L hperm
  have hho := holds_sortWorld (encP (L := L)) n D.toArray os hblk hH (by simp [hDl, hdl])
  have hkl : k < D.length := by
    have h1 := (List.getElem?_eq_some_iff.1 hk).1
    rw [← hDm, List.length_map] at h1
    exact h1
  have h1 := (hho k (by simpa using hkl)).1
  rw [Nat.zero_add] at h1
  rw [show (d.toArray.toList.mergeSort fun x y => !ltOf cfP y x) = D by rw [hDe]]
  rw [h1]
  have e2 : (D.toArray[k]!).1 = i := by
    rw [getElem!_pos _ k (by simpa using hkl)]
    rw [← hDm, List.getElem?_map, List.getElem?_eq_getElem hkl] at hk
    simpa using hk
  unfold encP
  rw [e2]
theorem sort_none (p : Option Addr) (cap : Nat) (fv : Value) (w : World) : Calls Try.prog 44 #[.slice p 0 cap, fv] w fun e w' => e = .returned (.tuple #[]) ∧ w = w' :=
  (AnyF.slices_SortFunc_none { laySortF with } p cap fv w).mono fun e w' h => ⟨h.1, h.2.symm⟩
end
end Go.Proofs.Ytodgbpggkikbcaa
