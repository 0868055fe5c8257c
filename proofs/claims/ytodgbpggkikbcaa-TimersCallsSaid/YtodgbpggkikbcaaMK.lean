/- Timers: List and Drop. -/
import Derived.Test.YtodgbpggkikbcaaMF
import Derived.Test.YtodgbpggkikbcaaMR
import Derived.Sort.OwnSorted
import Derived.Lib.SlMapEqual
namespace Go.Proofs.Ytodgbpggkikbcaa
section
set_option linter.unusedVariables false
set_option linter.unusedSimpArgs false
open Go.RowKit Go.Maps Go.Sort Go.Lib Go.Shelf Go.Proofs.YtodgbpggkikbcaaW.PrintWords Go.Proofs.YtodgbpggkikbcaaW.PrintLast Go.Proofs.YtodgbpggkikbcaaW.PrintMore FLib
attribute [local go_sem] Oper.semAt_some
attribute [local go_sem] below_alloc_T below_drew_T below_drewN_T

theorem sorts (m : Nat) : AnyZI.SortsIn Try.prog laySortedR Fence.wide m := by
  refine ⟨fun blk off cap ss W hH hb hs => ?_, fun p cap W => ?_⟩
  · exact (callsIn_wide (n := m)).2 (AnyM.slices_Sort_int (P := Try.prog) (ρ := laySortR) { laySort with } blk off cap ss W hH hb hs)
  · exact (callsIn_wide (n := m)).2 (AnyM.slices_Sort_int_none (P := Try.prog) (ρ := laySortR) { laySort with } p cap W)
theorem merge_ids {ss : List Int} {L : Slots} (h : ∀ s ∈ ss, ∃ i : Nat, s = i ∧ isT L i = true) (hp : (ss.map Int.toNat).Perm (ids L)) : ss.mergeSort (fun x y => decide (x ≤ y)) = (ids L).map (fun i : Nat => (i : Int)) := by
  have hp2 : ss.Perm ((ids L).map (fun i : Nat => (i : Int))) := by
    have e : (ss.map Int.toNat).map (fun i : Nat => (i : Int)) = ss := by
      rw [List.map_map]
      refine (List.map_congr_left (fun s hs => ?_)).trans (List.map_id ss)
      obtain ⟨i, rfl, -⟩ := h s hs
      simp
    rw [← e]
    exact hp.map _
  have hs : ((ids L).map (fun i : Nat => (i : Int))).Pairwise (fun x y => decide (x ≤ y) = true) := by
    refine List.Pairwise.map _ (fun a b hab => ?_) ((List.pairwise_lt_range (n := L.length)).filter _)
    simp only [decide_eq_true_eq]
    omega
  refine List.Perm.eq_of_pairwise (le := fun x y : Int => decide (x ≤ y) = true) (fun a b _ _ h1 h2 => ?_) (List.pairwise_mergeSort (le := fun x y : Int => decide (x ≤ y)) (fun a b c h1 h2 => ?_) (fun a b => ?_) _) hs ((List.mergeSort_perm _ _).trans hp2)
  · simp only [decide_eq_true_eq] at h1 h2; omega
  · simp only [decide_eq_true_eq] at *; omega
  · simp only [Bool.or_eq_true, decide_eq_true_eq]; omega
set_option maxRecDepth 100000 in
set_option maxHeartbeats 2000000 in
theorem list_any (p mb : Nat) (clk : Int) (L : Slots) (w : World) (h : TS w p mb clk L) :
    Calls Try.prog 16 #[.pointer (some ⟨p, 0, none⟩)] w fun e w' => (∃ u, e = .returned u ∧ NRow w' w.heap.size u (ids L)) ∧ Below w.heap.size w w' := by
  refine (callsIn_wide (n := 20)).1 ?_
  obtain ⟨D, hD, hL⟩ := h.map
  have cK : ∀ W', CallsIn Fence.wide (20 - 1) Try.prog 31 #[.map (some mb)] W' fun e w' => e = .returned (.func (.func 50) #[] #[.pointer (some ⟨W'.heap.size, 0, none⟩)]) ∧ w' = W'.alloc (.cells #[.map (some mb)] 71) :=
    fun W' => AnyZI.keys_in layKeys Fence.wide (20 - 1) trivial rfl (some mb) W'
  have hsz1 : size D ≤ 1000 := by rw [hL.size]; exact Nat.le_trans (cnt_le L) h.len
  obtain ⟨Wb, hWb⟩ : ∃ Wb, w.alloc (.cells #[.map (some mb)] 71) = Wb := ⟨_, rfl⟩
  have hseq : SeqGives Fence.wide (20 - 1 - 1 - 1 - 1) Try.prog 50 #[.pointer (some ⟨w.heap.size, 0, none⟩)] encZ (fun ss => ss.Perm (intKeys D)) (size D) Wb :=
    AnyZI.keys_gives (P := Try.prog) (ρ := layKeysR) { layKeys with } Fence.wide _ trivial rfl (by omega) w.heap.size mb 1000 D Wb (by rw [← hWb]; simp)
      (by rw [← hWb]; simp)
      (by rw [← hWb]; exact hD.alloc _)
  have cC := AnyZI.sorted_in (P := Try.prog) (ρ := laySortedR) { laySorted with } Fence.wide (20 - 1) trivial trivial trivial trivial rfl (by omega) (sorts _) (enters_of Try.func49 (by kernel_rfl) rfl) 50 #[.pointer (some ⟨w.heap.size, 0, none⟩)] trivial (enters_of Try.func50 (by kernel_rfl) rfl) _ _ (by unfold maxLen; omega) (by omega) _ hseq
  change CallsIn _ _ Try.prog 30 _ _ _ at cC
  have HC := Lib.hid cC
  have HK := Lib.hid cK
  have HD := Lib.hid hD
  have HL := Lib.hid hL
  have HWB := Lib.hid hWb
  have h31 : Fence.wide.fn 31 := trivial
  have h30 : Fence.wide.fn 30 := trivial
  have c0 := later_cell (v := .map (some mb)) (blk_cell h.hdr 0)
  have hs := Below.refl w.heap.size w
  clear cK cC hseq hD hL hWb h
  refine callsIn_of_wp Try.func16 rfl trivial ?_ rfl
  simp only [Try.ntmps16, List.size_toArray, List.length_cons, List.length_nil, Nat.reduceAdd, Nat.reduceSub, Array.replicate_succ, Array.replicate_zero, List.push_toArray, List.append_toArray, List.nil_append, List.cons_append]
  gi_wp2_with fail
  refine (HK.out _).mono ?_
  rintro e w' ⟨rfl, rfl⟩
  have hwb := HWB.out
  rw [hwb]
  clear hwb
  gi_wp2_with fail
  refine HC.out.mono ?_
  rintro e w3 ⟨v, ss, rfl, hS, hrow, hnil, hb3⟩
  obtain ⟨hmem, hperm⟩ := keys_perm HD.out HL.out hS
  have hbW : Below w.heap.size w w3 := below_step (show Below w.heap.size w Wb by rw [← HWB.out]; exact below_alloc (Below.refl _ _) _) hb3
  have HR := Lib.hid (show NRow w3 w.heap.size v (ids L) from by
    rw [merge_ids hmem hperm] at hrow
    unfold NRow
    have e : ss.length = (ids L).length := by rw [← hperm.length_eq, List.length_map]
    rw [e, List.map_map] at hrow
    exact own_base hrow (by rw [← HWB.out]; simp))
  have HB := Lib.hid hbW
  clear hS hrow hnil hb3 hmem hperm hbW
  gi_wp2
  go_ret
  exact ⟨⟨_, rfl, HR.out⟩, HB.out⟩
end
section
set_option linter.unusedVariables false
set_option linter.unusedSimpArgs false
open Go.RowKit Go.Maps Go.Sort Go.Lib Go.Shelf Go.Proofs.YtodgbpggkikbcaaW.PrintWords Go.Proofs.YtodgbpggkikbcaaW.PrintLast Go.Proofs.YtodgbpggkikbcaaW.PrintMore FLib
attribute [local go_sem] below_alloc_T below_drew_T below_drewN_T

/-- Has the timer this owner? -/
def isOwnL (own : Int) : Option (Nat × TT) → Bool
  | some (_, t) => decide (t.own = own)
  | none => false
def dropO' (own : Int) (o : Option (Nat × TT)) : Option (Nat × TT) := if isOwnL own o then none else o
def dropL (L : Slots) (own : Int) : Slots := L.map (dropO' own)
theorem dropL_get (L : Slots) (own : Int) (i : Nat) : (dropL L own)[i]? = (L[i]?).map (dropO' own) := by unfold dropL; rw [List.getElem?_map]
theorem dropL_some {L : Slots} {own : Int} {i b : Nat} {t : TT} : (dropL L own)[i]? = some (some (b, t)) ↔ L[i]? = some (some (b, t)) ∧ t.own ≠ own := by
  rw [dropL_get]
  cases hi : L[i]? with
  | none => simp
  | some o =>
    cases o with
    | none => simp [dropO', isOwnL]
    | some x =>
      obtain ⟨b', t'⟩ := x
      by_cases h : t'.own = own
      · simp only [Option.map_some, dropO', isOwnL, h, decide_true, if_true, Option.some.injEq, Prod.mk.injEq]
        constructor
        · intro e; cases e
        · rintro ⟨⟨rfl, rfl⟩, h2⟩; exact absurd h h2
      · simp only [Option.map_some, dropO', isOwnL, h, decide_false, Bool.false_eq_true, if_false, Option.some.injEq, Prod.mk.injEq]
        constructor
        · rintro ⟨rfl, rfl⟩; exact ⟨⟨rfl, rfl⟩, h⟩
        · rintro ⟨⟨rfl, rfl⟩, -⟩; exact ⟨rfl, rfl⟩
theorem at_drop (L : Slots) (own : Int) (k : Int) : at' (dropL L own) k = dropO' own (at' L k) := by
  unfold at'
  split
  · rw [dropL_get]
    cases L[k.toNat]? <;> rfl
  · rfl
theorem cnt_ids (L : Slots) : (ids L).length = cnt L := by
  unfold ids cnt
  rw [← List.countP_eq_length_filter]
  induction L with
  | nil => rfl
  | cons o L ih =>
    rw [List.length_cons, List.range_succ_eq_map, List.countP_cons, List.countP_cons, List.countP_map]
    have e1 : (isT (o :: L) ∘ Nat.succ) = isT L := by
      funext i
      unfold isT
      simp only [Function.comp]
      rw [at_nat, at_nat]; rfl
    have e2 : isT (o :: L) 0 = o.isSome := by
      unfold isT
      rw [at_nat]
      cases o <;> rfl
    rw [e1, ih, e2]
theorem intKeys_len (D : DataW Unit) : (intKeys D).length = size D := by
  cases D <;> simp [intKeys, Maps.size]
theorem size_of {W : World} {mb n : Nat} {D : DataW Unit} {L : Slots} (hD : W.ownsMap Try.prog 3 Rd mb n D) (hh : ∀ k : Int, has D (.int .i64 k) = (at' L k).isSome) : size D = cnt L := by
  have h1 : ((ids L).map (fun i : Nat => (i : Int))).Perm (intKeys D) := by
    refine CollectedI.perm (left := fun _ => false) ⟨?_, fun x => ?_⟩ hD keyI Try.underlying3 (fun _ => rfl)
    · exact List.Pairwise.map _ (fun a b hab he => hab (Int.ofNat.inj he)) (ids_nodup L)
    · simp only [List.mem_map, mem_ids, and_true]
      rw [hh]
      constructor
      · rintro ⟨i, hi, rfl⟩; exact hi
      · intro hx
        obtain ⟨y, hy⟩ := Option.isSome_iff_exists.1 hx
        obtain ⟨i, rfl, -⟩ := at_some hy
        exact ⟨i, hx, rfl⟩
  have := h1.length_eq
  rw [List.length_map, cnt_ids, intKeys_len] at this
  exact this.symm

open Classical in
/-- How a pointer to a timer of the set reads. -/
noncomputable def RdL (L : Slots) : Value → Option (DataW Unit × List MemPlace)
  | .pointer (some ⟨b, 0, none⟩) => if ∃ (i : Nat) (t : TT), L[i]? = some (some (b, t)) then some (.lit (.int .i64 b), []) else none
  | _ => none
theorem RdL_rd {L : Slots} {v : Value} {z : DataW Unit × List MemPlace} (h : RdL L v = some z) : Rd v = some z ∧ ∃ (b i : Nat) (t : TT), v = .pointer (some ⟨b, 0, none⟩) ∧ z = (.lit (.int .i64 b), []) ∧ L[i]? = some (some (b, t)) := by
  unfold RdL at h
  split at h
  · rename_i b
    split at h
    · rename_i hx
      obtain ⟨i, t, hit⟩ := hx
      exact ⟨h, b, i, t, rfl, (Option.some.inj h).symm, hit⟩
    · cases h
  · cases h
theorem RdL_of {L : Slots} {i b : Nat} {t : TT} (h : L[i]? = some (some (b, t))) : RdL L (.pointer (some ⟨b, 0, none⟩)) = some (.lit (.int .i64 b), []) := by
  exact if_pos ⟨i, t, h⟩
open Classical in
/-- Is the timer in this block the owner's? -/
noncomputable def pdL (L : Slots) (own : Int) (_ : Lit) (d : DataW Unit) : Bool :=
  match d with
  | .lit (.int .i64 b) => if ∃ (i : Nat) (t : TT), L[i]? = some (some (b.toNat, t)) ∧ t.own = own then true else false
  | _ => false
open Classical in
theorem pdL_of {L : Slots} (hinj : ∀ (i j b : Nat) (t t' : TT), L[i]? = some (some (b, t)) → L[j]? = some (some (b, t')) → i = j) {i b : Nat} {t : TT} (h : L[i]? = some (some (b, t))) (own : Int) (kl : Lit) : pdL L own kl (.lit (.int .i64 (b : Int))) = decide (t.own = own) := by
  have e : pdL L own kl (.lit (.int .i64 (b : Int))) = if ∃ (i : Nat) (t : TT), L[i]? = some (some ((b : Int).toNat, t)) ∧ t.own = own then true else false := rfl
  rw [e]
  by_cases ho : t.own = own
  · rw [if_pos ⟨i, t, by rw [Int.toNat_natCast]; exact h, ho⟩, ho]; simp
  · rw [if_neg]
    · simp [ho]
    · rintro ⟨j, t', hj, ho'⟩
      rw [Int.toNat_natCast] at hj
      obtain rfl := hinj _ _ _ _ _ h hj
      rw [h] at hj
      simp only [Option.some.injEq, Prod.mk.injEq, true_and] at hj
      exact ho (hj ▸ ho')
/-- The map read so that a pointer tells its timer. -/
theorem TS.mapL {W : World} {p mb : Nat} {clk : Int} {L : Slots} (h : TS W p mb clk L) : ∃ D, W.ownsMap Try.prog 3 (RdL L) mb 1000 D ∧ DL D L := by
  obtain ⟨D, hD, hL⟩ := h.map
  have hD0 := hD
  obtain ⟨es, clock, ho, F, hs, e⟩ := hD
  obtain ⟨es0, he0, hap, hkeys⟩ := hD0.entries keyI
  refine ⟨D, ⟨es, clock, ho, ?_⟩, hL⟩
  have hst : ∀ x ∈ es.toList, ∀ z, Rd x.val = some z → RdL L x.val = some z := by
    intro x hx z hz
    obtain ⟨y, hy⟩ := F.reads x hx
    have hk := Go.WideElems.rd_key hy
    obtain ⟨z', hz', e2⟩ := Go.WideElems.rd_val hy
    rw [hz] at hz'
    cases hz'
    have hmem : (y.1, y.2) ∈ es0 := by
      have : D = .map ((es.toList.map (Go.WideElems.rg Try.prog 3 Rd)).foldr DataW.insert []) := e
      rw [he0] at this
      injection this with this
      rw [this]
      exact mem_sorted.2 (List.mem_map.2 ⟨x, hx, Go.WideElems.rg_of hy⟩)
    obtain ⟨k, -, hkl, -⟩ := Maps.keyOf_i64 Try.underlying3 hk
    have hat : D.atKey (.int .i64 k) .nil = y.2 := by
      rw [he0]
      exact WideAt.atKey_mem _ (by rw [← hkl]; exact hkeys _ hmem) hap (by rw [← hkl]; exact hmem)
    have hh : has D (.int .i64 k) = true := by
      rw [he0]
      exact List.any_eq_true.2 ⟨_, hmem, by rw [hkl]; exact WideAt.sameKey_self (by rw [← hkl]; exact hkeys _ hmem)⟩
    rw [hL.look] at hat
    rw [hL.has] at hh
    obtain ⟨b0, hb0⟩ := Option.isSome_iff_exists.1 hh
    obtain ⟨b, t⟩ := b0
    obtain ⟨i, rfl, hi⟩ := at_some hb0
    rw [hb0] at hat
    have hv : x.val = .pointer (some ⟨b, 0, none⟩) := by
      refine Rd_inv (o := some (b, t)) (ps := z.2) ?_
      rw [hz, hat, e2]
    rw [hv, RdL_of hi]
    rw [hv] at hz
    exact hz
  obtain ⟨F1, hmap, hpl⟩ := F.stay hst
  exact ⟨F1, hs, by rw [hmap]; exact e⟩
theorem owns_back {W : World} {mb n : Nat} {D : DataW Unit} {L : Slots} (h : W.ownsMap Try.prog 3 (RdL L) mb n D) : W.ownsMap Try.prog 3 Rd mb n D := by
  obtain ⟨es, clock, ho, F, hs, e⟩ := h
  obtain ⟨F1, hmap, hpl⟩ := F.stay (R' := Rd) (fun x hx z hz => (RdL_rd hz).1)
  exact ⟨es, clock, ho, F1, hs, by rw [hmap]; exact e⟩

theorem RdL_inv {L : Slots} {v : Value} {z : DataW Unit × List MemPlace} (h : RdL L v = some z) : ∃ (b i : Nat) (t : TT), v = .pointer (some ⟨b, 0, none⟩) ∧ z = (.lit (.int .i64 b), []) ∧ L[i]? = some (some (b, t)) := (RdL_rd h).2
/-- The map behind DeleteFunc. -/
theorem DL.dropped {W : World} {p mb : Nat} {clk : Int} {L : Slots} (h : TS W p mb clk L) {D : DataW Unit} (hD : W.ownsMap Try.prog 3 (RdL L) mb 1000 D) (hL : DL D L) (own : Int) {W' : World} (hD' : W'.ownsMap Try.prog 3 (RdL L) mb 1000 (Lib.deleteFuncD (pdL L own) D)) : DL (Lib.deleteFuncD (pdL L own) D) (dropL L own) := by
  obtain ⟨es, rfl, hap, hkeys⟩ := hD.entries keyI
  have hkey : ∀ k : Int, WideAt.IsKeyLit (Lit.int .i64 k) := fun k => trivial
  have hmem : ∀ k : Int, ∀ b t, at' L k = some (b, t) → (Lit.int .i64 k, (.lit (.int .i64 (b : Int)) : DataW Unit)) ∈ es := fun k b t hk => by
    refine came_mem hap hkeys (kl := .int .i64 k) (fun zd => ?_)
    have hh : Maps.has (.map es : DataW Unit) (.int .i64 k) = true := by rw [hL.has, hk]; rfl
    rw [atKey_indep hh zd .nil, hL.look, hk]; rfl
  have hhas : ∀ k : Int, Maps.has (Lib.deleteFuncD (pdL L own) (.map es)) (.int .i64 k) = (at' (dropL L own) k).isSome := fun k => by
    rw [at_drop]
    cases hk : at' L k with
    | none =>
      have h0 : Maps.has (.map es : DataW Unit) (.int .i64 k) = false := by rw [hL.has, hk]; rfl
      have e : (dropO' own none).isSome = false := rfl
      rw [e]
      rw [← Bool.not_eq_true] at h0 ⊢
      intro hx
      obtain ⟨q, hq, hq2⟩ := List.any_eq_true.1 hx
      exact h0 (List.any_eq_true.2 ⟨q, (List.mem_filter.1 hq).1, hq2⟩)
    | some x =>
      obtain ⟨b, t⟩ := x
      have hm := hmem k b t hk
      obtain ⟨i, -, hi⟩ := at_some hk
      have hpd := pdL_of h.inj hi own (.int .i64 k)
      by_cases ho : t.own = own
      · have e : (dropO' own (some (b, t))).isSome = false := by simp [dropO', isOwnL, ho]
        rw [e, ← Bool.not_eq_true]
        intro hx
        obtain ⟨q, hq, hq2⟩ := List.any_eq_true.1 hx
        obtain ⟨hq0, hq1⟩ := List.mem_filter.1 hq
        have hqk : q.1 = .int .i64 k := WideAt.sameKey_eq hq2
        have : q = (Lit.int .i64 k, (.lit (.int .i64 (b : Int)) : DataW Unit)) := by
          have a1 := WideAt.atKey_mem .nil (hkey k) hap (show (Lit.int .i64 k, q.2) ∈ es by rw [← hqk]; exact hq0)
          have a2 := WideAt.atKey_mem .nil (hkey k) hap hm
          rw [a1] at a2
          exact Prod.ext hqk a2
        rw [this] at hq1
        simp only at hq1
        rw [hpd, ho] at hq1
        simp at hq1
      · have e : (dropO' own (some (b, t))).isSome = true := by simp [dropO', isOwnL, ho]
        rw [e]
        refine List.any_eq_true.2 ⟨_, List.mem_filter.2 ⟨hm, ?_⟩, WideAt.sameKey_self (hkey k)⟩
        simp only
        rw [hpd]
        simp [ho]
  refine ⟨fun k => ?_, hhas, size_of (owns_back hD') hhas⟩
  cases hx : Maps.has (Lib.deleteFuncD (pdL L own) (.map es)) (.int .i64 k) with
  | false =>
    rw [atKey_of_not_has hx]
    rw [hhas] at hx
    cases ho : at' (dropL L own) k with
    | none => rfl
    | some y => rw [ho] at hx; cases hx
  | true =>
    rw [hhas] at hx
    obtain ⟨y, hy⟩ := Option.isSome_iff_exists.1 hx
    obtain ⟨b, t⟩ := y
    rw [hy]
    obtain ⟨i, rfl, hi⟩ := at_some hy
    obtain ⟨hi2, ho⟩ := dropL_some.1 hi
    have hm := hmem i b t (at_nat_some.2 hi2)
    refine WideAt.atKey_mem _ (hkey _) (hap.filter _) (List.mem_filter.2 ⟨hm, ?_⟩)
    have e := pdL_of h.inj hi2 own (.int .i64 (i : Int))
    show (!pdL L own (.int .i64 (i : Int)) (.lit (.int .i64 (b : Int)))) = true
    rw [e]
    simp [ho]
theorem TS.dropped {W W' : World} {p mb : Nat} {clk : Int} {L : Slots} (h : TS W p mb clk L) (own : Int) {D : DataW Unit} (hD : W.ownsMap Try.prog 3 (RdL L) mb 1000 D) (hL : DL D L) (hD' : W'.ownsMap Try.prog 3 (RdL L) mb 1000 (Lib.deleteFuncD (pdL L own) D)) (hg : W.grownBy W' (some mb)) : TS W' p mb clk (dropL L own) := by
  have hdl := DL.dropped h hD hL own hD'
  obtain ⟨es, clock, ho, -⟩ := hD
  have hne : ∀ {b : Nat} {cs : Array Value} {ty : Nat}, W.heap[b]? = some (.cells cs ty (0, 0)) → some b ≠ some mb := fun hb e => by
    injection e with e; subst e; rw [ho] at hb; cases hb
  refine ⟨blk_grown h.hdr hg (hne h.hdr), ⟨_, owns_back hD', hdl⟩, fun i b t hi => ?_, fun i j b t t' hi hj => h.inj _ _ _ _ _ (dropL_some.1 hi).1 (dropL_some.1 hj).1, by unfold dropL; rw [List.length_map]; exact h.len⟩
  exact blk_grown (h.blk _ _ _ (dropL_some.1 hi).1) hg (hne (h.blk _ _ _ (dropL_some.1 hi).1))
theorem dropL_own {L : Slots} {own : Int} {p mb k : Nat} (h : TOwn p mb (dropL L own) k) : TOwn p mb L k := by
  rcases h with h | h | ⟨i, t, h⟩
  · exact .inl h
  · exact .inr (.inl h)
  · exact .inr (.inr ⟨i, t, (dropL_some.1 h).1⟩)
theorem cnt_drop (L : Slots) (own : Int) : cnt (dropL L own) ≤ cnt L := by
  unfold cnt dropL
  rw [List.countP_map]
  refine List.countP_mono_left (fun o _ h => ?_)
  simp only [Function.comp] at h
  unfold dropO' at h
  split at h
  · cases h
  · exact h

set_option maxRecDepth 100000 in
/-- What DeleteFunc asks. -/
theorem own_clo (p mb : Nat) (clk : Int) (L : Slots) (own : Int) (q : Nat) (w : World) (h : TS w p mb clk L) (hq : w.heap[q]? = some (.cells #[.int .i64 own] 3 (0, 0))) (hqm : q ≠ mb) (W : World) (key val : Value) (kl : Lit) (yd : DataW Unit) (yp : List MemPlace) (hg : w.grownBy W (some mb)) (hk : keyOf Try.prog 3 key = some kl) (hv : RdL L val = some (yd, yp)) :
    Calls Try.prog 33 (#[key, val] ++ #[.pointer (some ⟨q, 0, none⟩)]) W fun e w' => e = .returned (.bool (pdL L own kl yd)) ∧ W.grownBy w' none := by
  obtain ⟨b, i, t, rfl, hz, hi⟩ := RdL_inv hv
  obtain ⟨rfl, rfl⟩ : yd = .lit (.int .i64 (b : Int)) ∧ yp = [] := by simpa using hz
  rw [pdL_of h.inj hi]
  have hb := blk_grown (h.blk i b t hi) hg (fun e => by
    injection e with e
    have h1 := h.blk i b t hi
    obtain ⟨D, hD, -⟩ := h.map
    obtain ⟨es, clock, ho, -⟩ := hD
    rw [e, ho] at h1; cases h1)
  have hq2 := blk_grown hq hg (fun e => by injection e with e; exact hqm e)
  have c0 : W.cell? ⟨b, 0, none⟩ = some (.int .i64 t.own) := blk_cell hb 0
  have c1 : W.cell? ⟨q, 0, none⟩ = some (.int .i64 own) := blk_cell hq2 0
  have HE := Lib.hid (show (t.own == own) = decide (t.own = own) by by_cases h : t.own = own <;> simp [h])
  rw [← HE.out]
  clear h hq hqm hg hk hv hz hi hb hq2
  simp only [List.append_toArray, List.cons_append, List.nil_append]
  go_enter Try.func33, Try.ntmps33
  go_wp2
  go_quiet (fail)
  go_wp2
  go_ret
  exact ⟨rfl, rfl, rfl, rfl, Nat.le_refl _, fun _ _ _ => rfl⟩

set_option maxRecDepth 100000 in
set_option maxHeartbeats 1000000 in
theorem drop_any (p mb : Nat) (clk : Int) (L : Slots) (own : Int) (w : World) (h : TS w p mb clk L) :
    Calls Try.prog 18 #[.pointer (some ⟨p, 0, none⟩), .int .i64 own] w fun e w' => e = .returned (.int .i64 ((cnt L : Int) - (cnt (dropL L own) : Int))) ∧ TS w' p mb clk (dropL L own) ∧ Keeps w w' (TOwn p mb L) := by
  obtain ⟨w1, hw1⟩ : ∃ w1, w.alloc (.cells #[.int .i64 own] 3) = w1 := ⟨_, rfl⟩
  have hb1 : Below w.heap.size w w1 := by rw [← hw1]; exact below_alloc (Below.refl _ _) _
  have hT1 := h.below hb1
  have hq : w1.heap[w.heap.size]? = some (.cells #[.int .i64 own] 3 (0, 0)) := by rw [← hw1]; exact blk_new w _
  obtain ⟨D, hD, hL⟩ := hT1.mapL
  have hmb : w.heap.size ≠ mb := fun e => by have := h.own_lt (k := mb) (.inr (.inl rfl)); omega
  have hdel := AnyDf.maps_DeleteFunc (P := Try.prog) (ρ := layDelR) { layDel with } keyI (RdL L) (pdL L own) 33 #[.pointer (some ⟨w.heap.size, 0, none⟩)] mb 1000 D w1 (enters_of Try.func33 (by kernel_rfl) rfl) hD
    (fun W key val kl yd yp hg hk hv => own_clo p mb clk L own w.heap.size w1 hT1 hq hmb W key val kl yd yp hg hk hv)
  change Calls Try.prog 32 _ _ _ at hdel
  have HDEL := Lib.hid hdel
  have HT1 := Lib.hid hT1
  have HDD := Lib.hid (And.intro hD hL)
  have HB1 := Lib.hid hb1
  have hl := hT1.run_len
  have c0 : w1.cell? ⟨p, 0, none⟩ = some (.map (some mb)) := blk_cell hT1.hdr 0
  have hc1 := Nat.le_trans (cnt_le L) h.len
  have hc2 := cnt_drop L own
  clear hb1 hT1 hq hD hL hdel h
  subst hw1
  go_enter Try.func18, Try.ntmps18
  go_wp2_with fail
  refine HDEL.out.mono ?_
  rintro e w2 ⟨rfl, hown, hg⟩
  have hT2 := HT1.out.dropped own HDD.out.1 HDD.out.2 hown hg
  have HT2 := Lib.hid hT2
  have HK2 := Lib.hid (show Keeps w w2 (TOwn p mb L) from (Keeps.of_below HB1.out _).grown hg (fun k e => by cases e; exact .inl (.inr (.inl rfl))))
  have hl2 := hT2.run_len
  have c2 : w2.cell? ⟨p, 0, none⟩ = some (.map (some mb)) := blk_cell hT2.hdr 0
  clear hown hg hT2 hl c0
  go_wp2
  go_ret
  exact ⟨rfl, HT2.out, HK2.out⟩
end
end Go.Proofs.Ytodgbpggkikbcaa
