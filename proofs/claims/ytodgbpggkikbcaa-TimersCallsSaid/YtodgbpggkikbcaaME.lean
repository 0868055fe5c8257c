/- Timers: armed and Next. -/
import Derived.Test.YtodgbpggkikbcaaMD
import Derived.RangeFuncNested
import Derived.RangeFuncBound
import Derived.RangeFuncCalls
import Derived.RangeFuncLeaves
import Derived.Shelf.Abstract
import Derived.Shelf.RegionOpen
import Derived.OwnWalkIn
import Derived.TacticsInMore
import Derived.LoopNIn
import Derived.LoopIn
import Derived.Maps.OwnIn
import Derived.Test.YtodgbpggkikbcaaMC
namespace Go.Proofs.Ytodgbpggkikbcaa
section
set_option linter.unusedVariables false
set_option linter.unusedSimpArgs false
open Go.RowKit Go.Maps Go.Sort Go.Lib Go.Shelf Go.Proofs.YtodgbpggkikbcaaW.PrintWords Go.Proofs.YtodgbpggkikbcaaW.PrintLast Go.Proofs.YtodgbpggkikbcaaW.PrintMore FLib
attribute [local go_sem] Oper.semAt_some
attribute [local go_sem] below_alloc_T below_drew_T below_drewN_T

/-- What the k-th round is handed. -/
def encA (L : Slots) (k : Nat) : Array Value := match (arm L)[k]? with | some i => #[.int .i64 (i : Int), .pointer (some ⟨blkAt L i, 0, none⟩)] | none => #[.int .i64 0, .pointer none]
theorem encA_size (L : Slots) (k : Nat) : (encA L k).size = 2 := by unfold encA; split <;> rfl
/-- Behind k rounds: the timers that are to come are as they were. -/
def Sim (k : Nat) (L L' : Slots) : Prop := ∀ (i b : Nat) (t : TT), L[i]? = some (some (b, t)) → ∃ t' : TT, L'[i]? = some (some (b, t')) ∧ (i ∉ (arm L).take k → t'.fst = t.fst)
def RdA (p mb : Nat) (L : Slots) (k : Nat) (W : World) : Prop := ∃ clk' L', TS W p mb clk' L' ∧ Sim k L L'
def cntA (L : Slots) (k : Nat) : Nat := ((ord L).take k).countP (fun i => decide (0 < fstAt L i))

theorem cntA_zero (L : Slots) : cntA L 0 = 0 := by simp [cntA]
theorem cntA_all (L : Slots) : cntA L (ord L).length = (arm L).length := by
  unfold cntA arm
  rw [List.take_length, List.countP_eq_length_filter]
theorem cntA_succ {L : Slots} {k i : Nat} (h : (ord L)[k]? = some i) : cntA L (k + 1) = cntA L k + (if 0 < fstAt L i then 1 else 0) := by
  unfold cntA
  rw [List.take_add_one, h, List.countP_append]
  by_cases hp : 0 < fstAt L i <;> simp [hp]
theorem arm_take (L : Slots) (k : Nat) : (arm L).take (cntA L k) = ((ord L).take k).filter (fun i => decide (0 < fstAt L i)) := by
  unfold cntA arm
  rw [List.countP_eq_length_filter]
  have e := List.filter_append (p := fun i => decide (0 < fstAt L i)) ((ord L).take k) ((ord L).drop k)
  rw [List.take_append_drop] at e
  rw [e, List.take_left]
theorem arm_get {L : Slots} {k i : Nat} (h : (ord L)[k]? = some i) (hp : 0 < fstAt L i) : (arm L)[cntA L k]? = some i := by
  have h1 := arm_take L (k + 1)
  have h2 := arm_take L k
  rw [cntA_succ h, if_pos hp, List.take_add_one, h2] at h1
  rw [List.take_add_one, h, List.filter_append] at h1
  have h3 := List.append_cancel_left h1
  cases h4 : (arm L)[cntA L k]? with
  | none => rw [h4] at h3; simp [hp] at h3
  | some j => rw [h4] at h3; simp [hp] at h3; rw [h3]
theorem arm_lt {L : Slots} {k i : Nat} (h : (ord L)[k]? = some i) (hp : 0 < fstAt L i) : cntA L k < (arm L).length := (List.getElem?_eq_some_iff.1 (arm_get h hp)).1
theorem not_taken {L : Slots} {k i : Nat} (h : (ord L)[k]? = some i) : i ∉ (arm L).take (cntA L k) := by
  rw [arm_take, List.mem_filter]
  rintro ⟨h1, -⟩
  obtain ⟨j, hj, he⟩ := List.getElem_of_mem h1
  rw [List.length_take] at hj
  rw [List.getElem_take] at he
  obtain ⟨hk, he2⟩ := List.getElem?_eq_some_iff.1 h
  exact List.pairwise_iff_getElem.1 (ord_nodup L) j k (by omega) hk (by omega) (he.trans he2.symm)
end
section
set_option linter.unusedVariables false
set_option linter.unusedSimpArgs false
open Go.RowKit Go.Maps Go.Sort Go.Lib Go.Shelf Go.Proofs.YtodgbpggkikbcaaW.PrintWords Go.Proofs.YtodgbpggkikbcaaW.PrintLast Go.Proofs.YtodgbpggkikbcaaW.PrintMore FLib
attribute [local go_sem] Oper.semAt_some
attribute [local go_sem] below_alloc_T below_drew_T below_drewN_T


theorem cell_same {W W' : World} {b o : Nat} (h : W'.heap[b]? = W.heap[b]?) : W'.cell? ⟨b, o, none⟩ = W.cell? ⟨b, o, none⟩ := World.cell?_of_block h
theorem TS.own_lt {W : World} {p mb : Nat} {clk : Int} {L : Slots} (h : TS W p mb clk L) {k : Nat} (hk : TOwn p mb L k) : k < W.heap.size := by
  rcases hk with rfl | rfl | ⟨i, t, hi⟩
  · exact blk_lt h.hdr
  · obtain ⟨D, hD, -⟩ := h.map
    exact hD.lt
  · exact blk_lt (h.blk _ _ _ hi)
set_option maxRecDepth 100000 in
set_option maxHeartbeats 2000000 in
theorem armed_at (m : Nat) (hm : 6 ≤ m) (p mb : Nat) (clk : Int) (L : Slots) (w : World) (h : TS w p mb clk L) :
    SeqAt m Try.prog 26 #[.pointer (some ⟨p, 0, none⟩)] #[] (arm L).length (encA L) (RdA p mb L) w := by
  intro l J Jx W hW hRd hY h0
  have hT := h.below hW
  have HRD := Lib.hid hRd
  have HY := Lib.hid hY
  have HJ0 := Lib.hid h0
  have HT := Lib.hid hT
  clear h hW hRd hY h0
  obtain ⟨D, hD, hL⟩ := hT.map
  have cK : ∀ W', CallsIn Fence.wide (m - 1) Try.prog 31 #[.map (some mb)] W' fun e w' => e = .returned (.func (.func 50) #[] #[.pointer (some ⟨W'.heap.size, 0, none⟩)]) ∧ w' = W'.alloc (.cells #[.map (some mb)] 71) :=
    fun W' => AnyZI.keys_in layKeys Fence.wide (m - 1) trivial rfl (some mb) W'
  have hsz1 : size D ≤ 1000 := by rw [hL.size]; exact Nat.le_trans (cnt_le L) hT.len
  obtain ⟨Wb, hWb⟩ : ∃ Wb, (W.alloc (.cells #[.pointer (some ⟨p, 0, none⟩)] 23)).alloc (.cells #[.map (some mb)] 71) = Wb := ⟨_, rfl⟩
  have hseq : SeqGives Fence.wide (m - 1 - 1 - 1) Try.prog 50 #[.pointer (some ⟨W.heap.size + 1, 0, none⟩)] encZ (fun ss => ss.Perm (intKeys D)) (size D) Wb :=
    AnyZI.keys_gives (P := Try.prog) (ρ := layKeysR) { layKeys with } Fence.wide _ trivial rfl (by omega) (W.heap.size + 1) mb 1000 D Wb (by rw [← hWb]; simp)
      (by rw [← hWb]; simp)
      (by rw [← hWb]; exact (hD.alloc _).alloc _)
  have cC := AnyZI.collect_in (P := Try.prog) (ρ := laySortedR) { laySorted with } Fence.wide (m - 1) trivial trivial rfl (by omega) 50 #[.pointer (some ⟨W.heap.size + 1, 0, none⟩)] trivial (enters_of Try.func50 (by kernel_rfl) rfl) _ _ (by unfold maxLen; omega) (by omega) _ hseq
  change CallsIn _ _ Try.prog 43 _ _ _ at cC
  have HC := Lib.hid cC
  have HK := Lib.hid cK
  have HD := Lib.hid hD
  have HL := Lib.hid hL
  have HWB := Lib.hid hWb
  clear cK cC hseq hD hL hWb
  have hm1 : 1 ≤ m := by omega
  have h31 : Fence.wide.fn 31 := trivial
  have h43 : Fence.wide.fn 43 := trivial
  have h44 : Fence.wide.fn 44 := trivial
  have c0 := later_cell (v := .map (some mb)) (blk_cell hT.hdr 0)
  have hs := Below.refl W.heap.size W
  clear hT
  refine callsIn_of_wp Try.func26 rfl trivial ?_ rfl
  simp only [Try.ntmps26, List.size_toArray, List.length_cons, List.length_nil, Nat.reduceAdd, Nat.reduceSub, Array.replicate_succ, Array.replicate_zero, List.push_toArray, List.append_toArray, List.nil_append, List.cons_append]
  gi_wp2_with fail
  refine (HK.out _).mono ?_
  rintro e w' ⟨rfl, rfl⟩
  have hwb := HWB.out
  simp only [World.size_alloc]
  rw [hwb]
  have c1 : Wb.cell? ⟨W.heap.size, 0, none⟩ = some (.pointer (some ⟨p, 0, none⟩)) := by rw [← hwb]; exact blk_cell (blk_alloc (blk_new W _) _) 0
  clear hwb
  gi_wp2_with fail
  refine HC.out.mono ?_
  rintro e w3 ⟨v, ss, rfl, hS, hrow, hnil, hb3⟩
  obtain ⟨hmem, hperm⟩ := keys_perm HD.out HL.out hS
  have hbW : Below W.heap.size W w3 := ((Below.refl W.heap.size W).alloc (Nat.le_refl _) _ |>.alloc (by simp) _).trans (HWB.out ▸ (hb3.mono (by rw [← HWB.out]; simp; omega)))
  have hT3 := HT.out.below hbW
  have c3 : w3.cell? ⟨W.heap.size, 0, none⟩ = some (.pointer (some ⟨p, 0, none⟩)) := pw_cell_below hb3 c1
  have hz3 : W.heap.size + 2 ≤ w3.heap.size := by have := hb3.size; rw [← HWB.out] at this; simpa using this
  have HB3 := Lib.hid hbW
  have HT3 := Lib.hid hT3
  have hlo : (ord L).length = ss.length := by rw [ord_len, ← hperm.length_eq, List.length_map]
  have hbb : W.heap.size + 2 ≤ Wb.heap.size := by rw [← HWB.out]; simp
  have HBB := Lib.hid hbb
  have HZ3 := Lib.hid hz3
  clear hb3 c1 hs c0 hS hbW hT3 hbb hz3
  rcases hrow.2 with ⟨rfl, hz⟩ | ⟨gb, cap, cur, rfl, hbase, hgb, r1, r2, r3, r4⟩
  · -- no timer at all
    have hss : ss = [] := List.eq_nil_of_length_eq_zero hz
    subst hss
    have h0 : (arm L).length = 0 := by
      have := List.length_filter_le (fun i => decide (0 < fstAt L i)) (ord L)
      rw [hlo] at this
      simpa [arm] using this
    have HN0 := Lib.hid h0
    have HS0 := Lib.hid (fun w => (callsIn_wide (n := m - 1)).2 (sort_none none 0 (.func (.func 45) #[] #[.pointer (some ⟨W.heap.size, 0, none⟩)]) w))
    clear hrow hnil hmem hperm hlo hz h0
    gi_wp2_with fail
    refine (HS0.out _).mono ?_
    rintro e w4 ⟨rfl, rfl⟩
    gi_wp2
    gi_loopw [18] (fun i wr => i = .int .i64 0 ∧ wr = w3) (fun _ _ => 0)
    case atStart => exact ⟨rfl, rfl⟩
    case round =>
      obtain ⟨rfl, rfl⟩ := hrel
      gi_wp2
      go_end0
      exact ⟨⟨_, rfl⟩, .inl ⟨_, by rw [HN0.out]; exact HJ0.out _ HB3.out⟩⟩
  · have hpos : ss ≠ [] := fun e => by have := hnil.2 e; cases this
    have hgz : gb < w3.heap.size := blk_lt hgb
    have hgo : ¬ TOwn p mb L gb := fun hk => by have := HT.out.own_lt hk; have := HBB.out; omega
    have HS0 := Lib.hid ((callsIn_wide (n := m - 1)).2 (sort_any W.heap.size p mb clk L gb cap _ cur ss w3 c3 (by have := HBB.out; omega) HT3.out hgo hgb (by simpa using r4) hmem hperm hpos))
    have HGB := Lib.hid (And.intro hbase hgz)
    have HGO := Lib.hid hgo
    rw [← hlo] at HS0 ⊢
    clear hrow hnil hmem hperm hlo r1 r2 r3 r4 hgb hbase hpos hgz hgo
    gi_wp2_with fail
    refine (HS0.out).mono ?_
    rintro e w4 ⟨rfl, hcells, hk4⟩
    have hb4 : Below W.heap.size W w4 := by
      have := HB3.out
      exact ⟨hk4.os.trans this.os, hk4.tape.trans this.tape, hk4.output.trans this.output, Nat.le_trans this.size hk4.size, fun k hk => (hk4.block k (by have := HZ3.out; omega) (by have := HGB.out; have := HBB.out; omega)).trans (this.block k hk)⟩
    have c4 : w4.cell? ⟨W.heap.size, 0, none⟩ = some (.pointer (some ⟨p, 0, none⟩)) := (cell_same (hk4.block _ (by have := HZ3.out; omega) (by have := HGB.out; have := HBB.out; omega))).trans c3
    have HC4 := Lib.hid c4
    have HB4 := Lib.hid hb4
    have HCE := Lib.hid hcells
    have hz4 := Nat.le_trans HZ3.out hk4.size
    have HZ4 := Lib.hid (And.intro hz4 (Nat.lt_of_lt_of_le HGB.out.2 hk4.size))
    clear c3 hk4 hb4 c4 hcells hz4
    gi_wp2
    have HLL := Lib.hid HT.out.len
    have hol : (ord L).length ≤ 1000 := by rw [ord_len]; exact Nat.le_trans (ids_len L) HT.out.len
    gi_loopw [18] (fun i wr => ∃ k : Nat, k ≤ (ord L).length ∧ i = .int .i64 k ∧ Hid (J w4.heap.size (cntA L k) wr) ∧ Hid (SameIn W.heap.size w4.heap.size w4 wr)) (fun i _ => (ord L).length - (RowKit.intOf i).toNat)
    case atStart => exact ⟨0, Nat.zero_le _, rfl, Lib.hid (by rw [cntA_zero]; exact HJ0.out _ HB4.out), Lib.hid (SameIn.refl _ _ _)⟩
    case round =>
      obtain ⟨k, hk, rfl, hJ, hS⟩ := hrel
      by_cases hlt : k < (ord L).length
      · obtain ⟨i, hi⟩ : ∃ i, (ord L)[k]? = some i := ⟨_, List.getElem?_eq_getElem hlt⟩
        have hiT := mem_ord.1 (List.mem_of_getElem? hi)
        obtain ⟨b, t, hit⟩ := isT_iff.1 hiT
        obtain ⟨clk', L', hT', hSim⟩ := HRD.out _ _ _ hJ.out
        obtain ⟨t', hit', hf⟩ := hSim i b t hit
        have hfst := hf (not_taken hi)
        have hil := (List.getElem?_eq_some_iff.1 hit).1
        have b0 : wr.cell? ⟨W.heap.size, 0, none⟩ = some (.pointer (some ⟨p, 0, none⟩)) := (cell_same (hS.out _ (Nat.le_refl _) (by have := HZ4.out; omega))).trans HC4.out
        have b1 : wr.cell? ⟨gb, k, none⟩ = some (.int .i64 (i : Int)) := (cell_same (hS.out _ (by have := HGB.out; have := HBB.out; omega) HZ4.out.2)).trans (HCE.out k i hi)
        have b2 : wr.cell? ⟨p, 0, none⟩ = some (.map (some mb)) := blk_cell hT'.hdr 0
        have b3 := hT'.run_look (k := (i : Int)) (wfI (by have := HLL.out; omega))
        rw [at_nat_some.2 hit'] at b3
        simp only [ptrV] at b3
        have b4 : wr.cell? ⟨b, 6, none⟩ = some (.int .i64 t.fst) := by rw [← hfst]; exact blk_cell (hT'.blk _ _ _ hit') 6
        have hk0 : (0 : Int) ≤ (k : Int) := by omega
        have hk1 : (k : Int) < ((ord L).length : Int) := by omega
        have hfi := fst_of hit
        have hbi := blk_of hit
        clear hT' hSim hf hfst hil hit hit' hiT
        by_cases hpos : 0 < t.fst
        · have d1 : decide (0 < t.fst) = true := decide_eq_true hpos
          have hlt2 := arm_lt hi (by rw [hfi]; exact hpos)
          have henc : encA L (cntA L k) = #[.int .i64 (i : Int), .pointer (some ⟨b, 0, none⟩)] := by
            unfold encA
            rw [arm_get hi (by rw [hfi]; exact hpos)]
            simp only [hbi]
          have hcs : cntA L (k + 1) = cntA L k + 1 := by rw [cntA_succ hi, if_pos (by rw [hfi]; exact hpos)]
          obtain ⟨fn, tmps, assign, body, hy, hR⟩ := HY.out _ _ wr (Nat.le_of_lt (by have := HZ4.out; omega)) hlt2 hJ.out
          rw [henc] at hy
          have HR := Lib.hid hR
          have HCS := Lib.hid hcs
          clear hR hcs hlt2 henc hpos hfi hbi hJ hi
          gi_wp2
          refine HR.out.mono ?_
          rintro e W' (⟨rfl, hJ', hS'⟩ | ⟨rfl, hx⟩)
          · gi_wp2
            go_roundw
            case rel => exact ⟨k + 1, by omega, by go_num, Lib.hid (by rw [HCS.out]; exact hJ'), Lib.hid (hS.out.trans hS')⟩
            case measure => simp [RowKit.intOf]; omega
          · gi_wp2
            (try simp only [Exit.inBlock, Exit.then])
            refine bodyPost_ret (results_none rfl _ _ _) rfl ?_
            exact ⟨⟨_, rfl⟩, .inr hx⟩
        · have d1 : decide (0 < t.fst) = false := decide_eq_false hpos
          have hcs : cntA L (k + 1) = cntA L k := by rw [cntA_succ hi, if_neg (by rw [hfi]; exact hpos), Nat.add_zero]
          have HCS := Lib.hid hcs
          clear hcs hpos hfi hbi hi
          gi_wp2
          refine ⟨fun _ h => (by cases h), ?_⟩
          gi_wp2
          go_roundw
          case rel => exact ⟨k + 1, by omega, by go_num, Lib.hid (by rw [HCS.out]; exact hJ.out), hS⟩
          case measure => simp [RowKit.intOf]; omega
      · obtain rfl : k = (ord L).length := by omega
        rw [cntA_all] at hJ
        gi_wp2
        go_end0
        exact ⟨⟨_, rfl⟩, .inl ⟨_, hJ.out⟩⟩
end
section
set_option linter.unusedVariables false
set_option linter.unusedSimpArgs false
open Go.RowKit Go.Maps Go.Sort Go.Lib Go.Shelf Go.Proofs.YtodgbpggkikbcaaW.PrintWords Go.Proofs.YtodgbpggkikbcaaW.PrintLast Go.Proofs.YtodgbpggkikbcaaW.PrintMore FLib
attribute [local go_sem] Oper.semAt_some
attribute [local go_sem] below_alloc_T below_drew_T below_drewN_T


def tolAt (L : Slots) (i : Nat) : Int := match at' L (i : Int) with | some (_, t) => t.tol | none => 0
/-- One timer more is looked at. -/
def stepN (L : Slots) (s : Int × Bool) (i : Nat) : Int × Bool := if !s.2 || decide (fstAt L i + tolAt L i < s.1) then (fstAt L i + tolAt L i, true) else s
def nextS (L : Slots) (k : Nat) : Int × Bool := ((arm L).take k).foldl (stepN L) (0, false)
def nextV (L : Slots) : Int × Bool := (arm L).foldl (stepN L) (0, false)
theorem nextS_all (L : Slots) : nextS L (arm L).length = nextV L := by unfold nextS nextV; rw [List.take_length]
theorem nextS_succ {L : Slots} {k i : Nat} (h : (arm L)[k]? = some i) : nextS L (k + 1) = stepN L (nextS L k) i := by
  unfold nextS
  rw [List.take_add_one, h, List.foldl_append]
  rfl

def idV (L : Slots) (k : Nat) : Value := match (arm L)[k]? with | some i => .int .i64 (i : Int) | none => .int .i64 0
def ptV (L : Slots) (k : Nat) : Value := match (arm L)[k]? with | some i => .pointer (some ⟨blkAt L i, 0, none⟩) | none => .pointer none
theorem encA_eq (L : Slots) (k : Nat) : encA L k = #[idV L k, ptV L k] := by unfold encA idV ptV; cases (arm L)[k]? <;> rfl
theorem arm_at {L : Slots} {k : Nat} (hk : k < (arm L).length) : ∃ (i b : Nat) (t : TT), (arm L)[k]? = some i ∧ L[i]? = some (some (b, t)) ∧ idV L k = .int .i64 (i : Int) ∧ ptV L k = .pointer (some ⟨b, 0, none⟩) ∧ fstAt L i = t.fst ∧ 0 < t.fst ∧ tolAt L i = t.tol := by
  obtain ⟨i, hi⟩ : ∃ i, (arm L)[k]? = some i := ⟨_, List.getElem?_eq_getElem hk⟩
  obtain ⟨h1, h2⟩ := mem_arm.1 (List.mem_of_getElem? hi)
  obtain ⟨b, t, hit⟩ := isT_iff.1 h1
  rw [fst_of hit] at h2
  exact ⟨i, b, t, hi, hit, by unfold idV; rw [hi], by unfold ptV; rw [hi]; simp only [blk_of hit], fst_of hit, h2, by unfold tolAt; rw [at_nat_some.2 hit]⟩
theorem abs_in {c : Code} {F : Fence} {n : Nat} {P : Program} {Q : Exit → Act → World → Prop} {a : Act} {w : World} (Fp : World → Prop) (h0 : Fp w) (h : ∀ w2, Fp w2 → c.wpIn F n P Q a w2) : c.wpIn F n P Q a w := h w h0
/-- Next's two variables. -/
structure NxI (W0 : World) (qa qb : Nat) (s : Int × Bool) (W : World) : Prop where
  keep : Keeps W0 W (fun b => b = qa ∨ b = qb)
  ca : W.heap[qa]? = some (.cells #[.int .i64 s.1] 2 (0, 0))
  cb : W.heap[qb]? = some (.cells #[.bool s.2] 4 (0, 0))
theorem below_of_keeps {w W0 W : World} {F : Nat → Prop} (h : Keeps W0 W F) (hb : Below w.heap.size w W0) (hs : w.heap.size ≤ W0.heap.size) (hF : ∀ k, F k → w.heap.size ≤ k) : Below w.heap.size w W :=
  hb.trans (h.below hs hF)
theorem NxI.put {W0 : World} {qa qb : Nat} {s : Int × Bool} {W : World} (h : NxI W0 qa qb s W) {l : Nat} (hl : W0.heap.size ≤ l) (ha : qa < W0.heap.size) (hb : qb < W0.heap.size) (o : Obj) : NxI W0 qa qb s (W.putObj l o) :=
  ⟨h.keep.grown (grownBy_putObj' W l o) (fun k e => by cases e; exact .inr hl), (World.putObj_heap_other (by omega)).trans h.ca, (World.putObj_heap_other (by omega)).trans h.cb⟩

theorem NxI.store {W0 : World} {qa qb : Nat} {s : Int × Bool} {W : World} (h : NxI W0 qa qb s W) (hne : qa ≠ qb) (n : Nat) (d : Int) :
    NxI W0 qa qb (d, true) (((W.drewN n).setCell ⟨qa, 0, none⟩ (.int .i64 d)).setCell ⟨qb, 0, none⟩ (.bool true)) :=
  ⟨((h.keep.drewN n).set _ _ (.inl (.inl rfl))).set _ _ (.inl (.inr rfl)), (Below.heap_setCell _ _ _ _ hne).trans (blk_put (blk_drewN h.ca n) 0 _ rfl),
    blk_put (cs := #[.bool s.2]) ((Below.heap_setCell _ _ _ _ (Ne.symm hne)).trans (blk_drewN h.cb n)) 0 _ rfl⟩
theorem NxI.drewN {W0 : World} {qa qb : Nat} {s : Int × Bool} {W : World} (h : NxI W0 qa qb s W) (n : Nat) : NxI W0 qa qb s (W.drewN n) := ⟨h.keep.drewN n, blk_drewN h.ca n, blk_drewN h.cb n⟩
theorem SameIn.set {lo hi : Nat} {W W' : World} (h : SameIn lo hi W W') (p : Addr) (v : Value) (hp : p.block < lo) : SameIn lo hi W (W'.setCell p v) := fun b h1 h2 => (Below.heap_setCell _ _ _ _ (by omega)).trans (h b h1 h2)

set_option maxRecDepth 100000 in
set_option maxHeartbeats 2000000 in
theorem next_any (p mb : Nat) (clk : Int) (L : Slots) (hok : ∀ (i b : Nat) (t : TT), L[i]? = some (some (b, t)) → TOk t) (w : World) (h : TS w p mb clk L) :
    Calls Try.prog 11 #[.pointer (some ⟨p, 0, none⟩)] w fun e w' => e = .returned (.tuple #[.int .i64 (nextV L).1, .bool (nextV L).2]) ∧ Below w.heap.size w w' := by
  refine (callsIn_wide (n := 20)).1 ?_
  have HT := Lib.hid h
  have HOK := Lib.hid hok
  clear h hok
  refine callsIn_of_wp_marks Try.func11 rfl trivial ?_ rfl
  simp only [Try.ntmps11, List.size_toArray, List.length_cons, List.length_nil, Nat.reduceAdd, Nat.reduceSub, Array.replicate_succ, Array.replicate_zero, List.push_toArray, List.append_toArray, List.nil_append, List.cons_append]
  gi_wp2
  refine abs_in (fun W0 => W0.heap.size = w.heap.size + 2 ∧ NxI W0 w.heap.size (w.heap.size + 1) (0, false) W0 ∧ Below w.heap.size w W0)
    ⟨by simp, ⟨Keeps.refl _ _, blk_alloc (blk_new _ _) _, by simpa using blk_new (w.alloc (.cells #[.int .i64 0] 2)) (.cells #[.bool false] 4)⟩, below_alloc (below_alloc (Below.refl _ _) _) _⟩ ?_
  rintro W0 ⟨hz0, hN0, hB0⟩
  have HT0 := Lib.hid (HT.out.below hB0)
  have HQ := Lib.hid (fun k hk => HT.out.own_lt (k := k) hk)
  obtain ⟨qa, hqa⟩ : ∃ q, w.heap.size = q := ⟨_, rfl⟩
  obtain ⟨qb, hqb⟩ : ∃ q, w.heap.size + 1 = q := ⟨_, rfl⟩
  rw [hqb, hqa] at hN0 ⊢
  have HZ := Lib.hid hz0
  have HQA := Lib.hid hqa
  have HQB := Lib.hid hqb
  have HB0 := Lib.hid hB0
  have HN0 := Lib.hid hN0
  clear hz0 hqa hqb hB0 hN0
  have hmx : Try.prog.follows .mixedOrders = true := by kernel_rfl
  refine range_at (m := 20) (by omega) (gf := 26) (ba := #[.pointer (some ⟨p, 0, none⟩)]) (lb := #[]) rfl (enters_of Try.func26 (by kernel_rfl) rfl)
    (armed_at 19 (by omega) p mb clk L W0 HT0.out) (fun k => encA_size L k)
    (fun _ k W => NxI W0 qa qb (nextS L k) W) (fun _ _ => False) ?rd ?inv (fun _ _ _ _ h _ => h.elim) ?start
    (fun k => { tmps := #[.pointer (some ⟨p, 0, none⟩), undef, .pointer (some ⟨qa, 0, none⟩), .pointer (some ⟨qb, 0, none⟩), .func (.func 26) #[.pointer (some ⟨p, 0, none⟩)] #[], undef, ptV L k, undef, .pointer (some ⟨p, 0, none⟩), .bool false, .pointer (some ⟨p, 0, none⟩),
      .func (.func 26) #[.pointer (some ⟨p, 0, none⟩)] #[], .func (.func 26) #[.pointer (some ⟨p, 0, none⟩)] #[], idV L k, ptV L k, undef, undef, undef, undef, undef, undef, undef, undef, undef, undef, undef, undef, undef, undef, undef, undef, undef, undef, undef, undef, undef], defers := [] })
    ?assign ?body ?done (fun _ _ h _ => h.elim)
  case rd =>
    intro _ k W hI
    exact ⟨clk, L, HT0.out.keep hI.keep (fun b hb hk => by have := HQ.out b hk; have := HQA.out; have := HQB.out; omega), fun i b t hi => ⟨t, hi, fun _ => rfl⟩⟩
  case inv =>
    intro _ k W r o _ hI _
    exact hI.put (by omega) (by have := HZ.out; have := HQA.out; omega) (by have := HZ.out; have := HQB.out; omega) o
  case start =>
    intro W hb hz
    exact ⟨Keeps.of_below hb _, blk_below HN0.out.ca hb, blk_below HN0.out.cb hb⟩
  case assign =>
    intro k W K hK
    rw [encA_eq]
    gi_wp2
    exact hK
  case body =>
    intro hi k W hhi hk hI
    obtain ⟨i, b, t, hai, hit, e1, e2, e3, e4, e5⟩ := arm_at hk
    rw [e1, e2]
    have hs := nextS_succ hai
    have hT : TS W p mb clk L := HT0.out.keep hI.keep (fun b hb hk => by have := HQ.out b hk; have := HQA.out; have := HQB.out; omega)
    have hbl := hT.blk _ _ _ hit
    have b6 : W.cell? ⟨b, 6, none⟩ = some (.int .i64 t.fst) := blk_cell hbl 6
    have b8 : W.cell? ⟨b, 8, none⟩ = some (.int .i64 t.tol) := blk_cell hbl 8
    have ok := HOK.out _ _ _ hit
    have hsum : wrap64 (t.fst + t.tol) = t.fst + t.tol := IntWalk.wrap64_in _ (by have := ok.f0; have := ok.f1; have := ok.t0; have := ok.t1; omega)
    have HSB := Lib.hid (show -9223372036854775808 ≤ t.fst + t.tol ∧ t.fst + t.tol ≤ 9223372036854775807 by have := ok.f0; have := ok.f1; have := ok.t0; have := ok.t1; omega)
    have hca := hI.ca
    have hcb := hI.cb
    have hst : stepN L (nextS L k) i = if !(nextS L k).2 || decide (t.fst + t.tol < (nextS L k).1) then (t.fst + t.tol, true) else nextS L k := by unfold stepN; rw [e3, e5]
    have HI := Lib.hid hI
    have HS := Lib.hid (hs.trans hst)
    have HHI := Lib.hid hhi
    clear hI hs hst hai hit e1 e2 e3 e4 e5 hT hbl ok hk hhi
    generalize nextS L k = s at hca hcb HI HS
    generalize nextS L (k + 1) = s' at HS ⊢
    obtain ⟨l0, o0⟩ := s
    have a0 : W.cell? ⟨qa, 0, none⟩ = some (.int .i64 l0) := blk_cell hca 0
    have b0 : W.cell? ⟨qb, 0, none⟩ = some (.bool o0) := blk_cell hcb 0
    have a1 : W.frozen? ⟨qa, 0, none⟩ = false := blk_frozen hca 0
    have b1 : W.frozen? ⟨qb, 0, none⟩ = false := blk_frozen hcb 0
    have hqq : qa ≠ qb := by have := HQA.out; have := HQB.out; omega
    clear hca hcb
    gi_wp2
    refine quiet_round rfl (by simp) hmx (by kernel_rfl) ?_
    repeat (quiet_step_in (fail))
    refine wpQuietIn_nil ?_
    rintro _ ⟨nq, rfl⟩
    have hsum' : IntKind.i64.wrap (t.fst + t.tol) = t.fst + t.tol := IntWalk.i64_in _ (by have := HSB.out; omega)
    have hlo : qa < W0.heap.size ∧ qb < W0.heap.size := by have := HZ.out; have := HQA.out; have := HQB.out; omega
    have HLO := Lib.hid hlo
    clear hlo
    cases o0
    · have HS1 := Lib.hid (show s' = (t.fst + t.tol, true) from HS.out.trans (by simp))
      clear HS
      gi_wp2
      exact ⟨SameIn.set (SameIn.set (fun _ _ _ => rfl) _ _ HLO.out.1) _ _ HLO.out.2, HS1.out ▸ HI.out.store hqq _ _⟩
    · cases d1 : decide (t.fst + t.tol < l0)
      · have HS1 := Lib.hid (show s' = (l0, true) from HS.out.trans (by rw [d1]; rfl))
        clear HS
        gi_wp2
        exact ⟨fun _ _ _ => rfl, HS1.out ▸ HI.out.drewN _⟩
      · have HS1 := Lib.hid (show s' = (t.fst + t.tol, true) from HS.out.trans (by rw [d1]; rfl))
        clear HS
        gi_wp2
        exact ⟨SameIn.set (SameIn.set (fun _ _ _ => rfl) _ _ HLO.out.1) _ _ HLO.out.2, HS1.out ▸ HI.out.store hqq _ _⟩
  case done =>
    intro hi W hI hK
    rw [nextS_all] at hI
    have a0 : W.cell? ⟨qa, 0, none⟩ = some (.int .i64 (nextV L).1) := blk_cell hI.ca 0
    have b0 : W.cell? ⟨qb, 0, none⟩ = some (.bool (nextV L).2) := blk_cell hI.cb 0
    have a1 : W.frozen? ⟨qa, 0, none⟩ = false := blk_frozen hI.ca 0
    have b1 : W.frozen? ⟨qb, 0, none⟩ = false := blk_frozen hI.cb 0
    have hqq : qa ≠ qb := by have := HQA.out; have := HQB.out; omega
    have HI := Lib.hid hI
    have HK := Lib.hid hK
    clear hI hK
    gi_wp2
    have hlo : qa ≠ W0.heap.size ∧ qb ≠ W0.heap.size := by have := HZ.out; have := HQA.out; have := HQB.out; omega
    have HLO := Lib.hid hlo
    clear hlo
    gi_region
    gi_wp2
    refine abs_e (fun W2 => NxI W0 qa qb (nextV L) W2 ∧ W2.heap[W0.heap.size]? = some (.deferred (some [])))
      ⟨⟨(((HI.out.keep).set _ _ (.inl (.inl rfl))).set _ _ (.inl (.inr rfl))).drew, blk_drew ((Below.heap_setCell _ _ _ _ hqq).trans (blk_put HI.out.ca 0 _ rfl)), blk_drew (blk_put (cs := #[.bool (nextV L).2]) ((Below.heap_setCell _ _ _ _ (Ne.symm hqq)).trans HI.out.cb) 0 _ rfl)⟩,
        blk_drew ((Below.heap_setCell _ _ _ _ (Ne.symm HLO.out.2)).trans ((Below.heap_setCell _ _ _ _ (Ne.symm HLO.out.1)).trans HK.out))⟩ ?_
    rintro W2 ⟨hI2, hK2⟩
    refine ⟨by simp, .inl ⟨_, _, rfl, run_takeDeferred hK2, ?_⟩⟩
    have hI3 := hI2.put (l := W0.heap.size) (Nat.le_refl _) (by have := HZ.out; have := HQA.out; omega) (by have := HZ.out; have := HQB.out; omega) (.deferred none)
    generalize W2.putObj W0.heap.size (.deferred none) = W3 at hI3
    have a3 : W3.cell? ⟨qa, 0, none⟩ = some (.int .i64 (nextV L).1) := blk_cell hI3.ca 0
    have b3 : W3.cell? ⟨qb, 0, none⟩ = some (.bool (nextV L).2) := blk_cell hI3.cb 0
    refine ⟨.tuple #[.int .i64 (nextV L).1, .bool (nextV L).2], by simp [results, Try.results11, go_sem, a3, b3], rfl, ?_⟩
    exact below_of_keeps hI3.keep HB0.out (by have := HZ.out; omega) (fun k hk => by have := HQA.out; have := HQB.out; omega)
end
end Go.Proofs.Ytodgbpggkikbcaa
