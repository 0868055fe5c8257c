/- Ranges: the owners of granted locks, in order. -/
import Derived.Test.YtoolflmaaooplaaA4
import Derived.Test.YtoolflmaaooplaaLay
import Derived.Maps.RangeWalk
namespace Go.Proofs.Ytoolflmaaooplaa
set_option linter.unusedVariables false
set_option linter.unusedSimpArgs false
open Go.RowKit Go.Maps Go.Sort Go.Lib Go.Proofs.YtoolflmaaooplaaW.PrintWords Go.Proofs.YtoolflmaaooplaaW.PrintLast Go.Proofs.YtoolflmaaooplaaW.PrintMore FLib
attribute [local go_sem] below_alloc_T below_drew_T below_drewN_T

theorem info3 : (Try.prog.info? 3).map (fun i => (i.zero, i.size, i.bytes)) = some (some (.int .i64 0), 1, 8) := by kernel_rfl
/-- A row of numbers of the call's own. -/
def IRow (w : World) (base : Nat) (v : Value) (l : List Int) : Prop := w.ownsRow base 3 1 v l.length (l.map encZ)
def sV : Option (Nat × Nat × Nat) → Value
  | none => .slice none 0 0
  | some (b, n, c) => .slice (some ⟨b, 0, none⟩) n c
theorem Rd_shape (v : Value) (y : DataW Unit × List MemPlace) (h : Rd v = some y) : ∃ o, v = sV o := by
  unfold Rd at h
  split at h
  · exact ⟨none, rfl⟩
  · exact ⟨some (_, _, _), rfl⟩
  · cases h
theorem owners_keys {W : World} {mb n : Nat} {D : DataW Unit} {G : List Ent} (hD : W.ownsMap Try.prog 3 Rd mb n D) (h : DG D G) (hs : GSort G) {ss : List Int} (hp : ss.Perm (intKeys D)) : ss.mergeSort (fun x y => decide (x ≤ y)) = G.map (·.own) := by
  have hsG : (G.map (·.own)).Pairwise (fun a b => a < b) := by
    rw [List.pairwise_map]; exact hs
  have h1 : (G.map (·.own)).Perm (intKeys D) := by
    refine CollectedI.perm (left := fun _ => false) ⟨hsG.imp (fun {a b} hab => by omega), fun x => ?_⟩ hD keyI Try.underlying3 (fun _ => rfl)
    simp only [and_true]
    rw [h.has, List.mem_map]
    constructor
    · rintro ⟨e, he, rfl⟩
      unfold gAt
      rw [List.find?_isSome]
      exact ⟨e, he, by simp⟩
    · intro hx
      obtain ⟨e, he⟩ := Option.isSome_iff_exists.1 hx
      exact ⟨e, (gAt_mem he).1, (gAt_mem he).2⟩
  refine List.Perm.eq_of_pairwise (le := fun a b => a ≤ b) (fun a b _ _ h1 h2 => by omega) ?_ (hsG.imp (fun {a b} hab => by omega)) ((List.mergeSort_perm _ _).trans (hp.trans h1.symm))
  have := List.pairwise_mergeSort (le := fun x y : Int => decide (x ≤ y)) (fun a b c h1 h2 => by simp at *; omega) (fun a b => by simp; omega) ss
  exact this.imp (fun {a b} h => by simpa using h)

set_option maxRecDepth 100000 in
set_option maxHeartbeats 1000000 in
theorem owners_any (p mb : Nat) (qv : Value) (G : List Ent) (Q : List Lk) (hs : GSort G) (w : World) (h : TG w p mb qv G Q) :
    Calls Try.prog 44 #[.pointer (some ⟨p, 0, none⟩)] w fun e w' => (∃ u, e = .returned u ∧ IRow w' w.heap.size u (G.map (·.own))) ∧ Below w.heap.size w w' := by
  obtain ⟨D, hD, hL⟩ := h.map
  obtain ⟨i0, hi, hz0, hz1, hz2⟩ := info_parts info3
  have c0 : w.cell? ⟨p, 0, none⟩ = some (.map (some mb)) := blk_cell h.hdr 0
  have HP := Lib.hid (fun ss (hp : List.Perm ss (intKeys D)) => owners_keys hD hL hs hp)
  have HD := Lib.hid hD
  have hbl := hD.lt
  have HSZ := Lib.hid (show Maps.size D ≤ 1000 by rw [hL.size]; exact h.len)
  clear hL h hs
  go_enter Try.func44, Try.ntmps44
  go_wp2_with (first
    | (at_range; refine wpList_range_own _ rfl _ 65 rfl 3 60 keyI Try.underlying65 Rd mb 1000 D rfl hD ?_; intro w0 hrg0 hg0 hs0)
    | go_in)
  go_frame
  go_loopw [3] (fun v wr => ∃ (left : Lit → Bool) (cnt : Nat) (ss : List Int), wr.ranges Try.prog 3 Rd mb w.heap.size 1000 D left cnt ∧ ss.length + cnt ≤ Maps.size D ∧
      wr.ownsRow w.heap.size 3 1 v ss.length (ss.map encZ) ∧ CollectedI D left ss ∧ Below w.heap.size w wr)
    (fun _ wr => wr.rangeLeft mb w.heap.size)
  case atStart =>
    exact ⟨_, _, [], hrg0, by simp, World.ownsRow_nil _ _ _ _, CollectedI.start D, (Below.refl _ _).grown hg0 (Nat.le_refl _) (fun j hj => by cases hj)⟩
  case round =>
    obtain ⟨left, cnt, ss, hrg, hcs, hrow, hC, hnx⟩ := hrel
    have hsz := HSZ.out
    go_wp2_with (first
      | (at_next; refine wpList_next_ranges _ rfl _ rfl 3 keyI Rd encZ sV (fun key kl hk => by obtain ⟨x, hx, _⟩ := Maps.keyOf_i64 Try.underlying3 hk; exact ⟨x, hx⟩) Rd_shape mb w.heap.size 1000 _ _ _ rfl hrg ?_ ?_)
      | go_in)
    · intro hc0 hl0
      have hperm := hC.perm HD.out keyI Try.underlying3 hl0
      have hE := HP.out ss hperm
      rcases hrow.2 with ⟨rfl, hz⟩ | ⟨g, cap, cur, rfl, hbase, hb, h1, h2, h3, h4⟩
      · have hc := calls_of_every_depth fun D => AnySM.slices_Sort_int_none_in layInts D none 0 wr
        change Calls Try.prog 68 _ _ _ at hc
        obtain rfl : ss = [] := List.eq_nil_of_length_eq_zero hz
        have HC := Lib.hid hc
        have HB := Lib.hid hnx
        have HE := Lib.hid hE
        clear hc hnx hE hC hrow hrg hcs hperm hl0 hc0 hD hrg0 hg0 hs0 hsz
        go_wp2_with fail
        refine HC.out.mono ?_
        rintro e w' ⟨rfl, rfl⟩
        go_wp2
        go_ret
        exact ⟨⟨.slice none 0 0, rfl, by rw [← HE.out]; unfold IRow; rw [List.mergeSort_nil]; exact World.ownsRow_nil _ _ _ _⟩, HB.out⟩
      · have hH : Holds encZ wr g 0 ss.toArray := holds_of_block_i hb (by simpa using h4)
        have hgl : g < wr.heap.size := (Array.getElem?_eq_some_iff.1 hb).1
        have hc := AnyM.slices_Sort_int layInts g 0 cap ss wr hH hgl (by omega)
        change Calls Try.prog 68 _ _ _ at hc
        have HX := Lib.hid (And.intro hbase (And.intro hb (And.intro h1 (And.intro h2 h3))))
        have HC := Lib.hid hc
        have HB := Lib.hid hnx
        have HE := Lib.hid hE
        clear hc hnx hE hC hrow hrg hcs hperm hl0 hc0 hD hrg0 hg0 hs0 hsz hH hgl hbase hb h1 h2 h3 h4
        go_wp2_with fail
        refine HC.out.mono ?_
        rintro e w' ⟨rfl, nn, os, rfl⟩
        go_wp2
        go_ret
        obtain ⟨hbase, hb, h1, h2, h3⟩ := HX.out
        refine ⟨⟨_, rfl, ?_⟩, HB.out.grown (grownBy_sorted_i _) HB.out.size (fun j hj => by cases hj; exact hbase)⟩
        have := ownsRow_sorted_i (n := nn) (os := os) (ts := ss.mergeSort fun x y => decide (x ≤ y)) (by simp) hbase hb h1 h2 h3
        rw [HE.out] at this ⊢
        unfold IRow
        rw [show (G.map (·.own)).length = ss.length by rw [← HE.out]; simp]
        exact this
    · intro x c kl yd yp w2 cnt2 hkey hlk hv hat hrg2 hlt hg2 hs2 hen
      obtain ⟨x', ex, rfl, _⟩ := Maps.keyOf_i64 Try.underlying3 hkey
      obtain rfl : x = x' := encZ_inj ex
      have hrow2 := hrow.kept hg2 (Or.inr (row_ne_iter hrow hrg).symm)
      clear hs2
      go_wp2_with (first
        | (at_builtin; refine wpList_append_own _ rfl _ _ 25 rfl w.heap.size 3 i0 (.int .i64 0) 1 8 Try.underlying25 hi hz0 hz1 hz2 rfl (by decide) _ _ _ rfl (hrow2.alloc _) ⟨w2.heap.size, 0, none⟩ 1 1 [encZ x] rfl rfl (cell_one_new _ _ _) (by simp [Value.oneCell', encZ]) (by unfold maxLen; omega) (by omega) (by have := hnx.size; have := hg2.size; simp; omega) ?_; intro v' w3 hown' hg3 hnil3)
        | go_in)
      have hrg3 := (hrg2.alloc _).kept hg3 (row_ne_low hrow2 hbl) (row_ne_iter hrow2 hrg2)
      go_roundw
      case rel =>
        refine ⟨_, cnt2, ss ++ [x], hrg3, by simp; omega, by simpa using hown', hC.step hlk hat, ?_⟩
        exact ((hnx.grown hg2 hnx.size (fun j hj => by cases hj; exact Nat.le_refl _)).alloc (by have := hnx.size; have := hg2.size; omega) _).grown hg3 (by have := hnx.size; have := hg2.size; simp; omega) (fun j hj => (hrow2.lt j hj).1)
      case measure => rw [hrg3.left_eq, hrg.left_eq]; exact hlt
end Go.Proofs.Ytoolflmaaooplaa
