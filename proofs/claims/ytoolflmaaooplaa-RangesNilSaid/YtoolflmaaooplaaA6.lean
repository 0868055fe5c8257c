/- Ranges: count. -/
import Derived.Test.YtoolflmaaooplaaA5
namespace Go.Proofs.Ytoolflmaaooplaa
set_option linter.unusedVariables false
set_option linter.unusedSimpArgs false
open Go.RowKit Go.Maps Go.Sort Go.Lib Go.Proofs.YtoolflmaaooplaaW.PrintWords Go.Proofs.YtoolflmaaooplaaW.PrintLast Go.Proofs.YtoolflmaaooplaaW.PrintMore FLib
attribute [local go_sem] below_alloc_T below_drew_T below_drewN_T

/-- How many spans the owners but one have, of those that have been met. -/
def sumG (o : Int) (left : Lit → Bool) : List Ent → Nat
  | [] => 0
  | e :: G => (if e.own = o then 0 else if left (.int .i64 e.own) then 0 else e.l.length) + sumG o left G
def cntG (G : List Ent) (o : Int) : Nat := sumG o (fun _ => false) G
theorem sum_start (o : Int) (D : DataW Unit) (G : List Ent) (h : ∀ e ∈ G, has D (.int .i64 e.own) = true) : sumG o (has D) G = 0 := by
  induction G with
  | nil => rfl
  | cons e G ih =>
    unfold sumG
    rw [ih (fun x hx => h x (List.mem_cons_of_mem _ hx)), h e (List.mem_cons_self ..)]
    simp
theorem sum_end (o : Int) (left : Lit → Bool) (G : List Ent) (h : ∀ kl, left kl = false) : sumG o left G = cntG G o := by
  unfold cntG
  congr 1
  funext kl
  exact h kl
theorem sum_other (o x : Int) (left : Lit → Bool) (G : List Ent) (h : ∀ e ∈ G, e.own ≠ x) : sumG o (fun z => left z && !z.sameKey (.int .i64 x)) G = sumG o left G := by
  induction G with
  | nil => rfl
  | cons e G ih =>
    unfold sumG
    rw [ih (fun y hy => h y (List.mem_cons_of_mem _ hy))]
    have hx := h e (List.mem_cons_self ..)
    have : (Lit.int .i64 e.own).sameKey (.int .i64 x) = false := by simp [Lit.sameKey, hx]
    simp only [this, Bool.not_false, Bool.and_true]
theorem sum_step (o : Int) {G : List Ent} (hs : GSort G) {x : Int} {e : Ent} (hx : gAt G x = some e) {left : Lit → Bool} (hl : left (.int .i64 x) = true) :
    sumG o (fun z => left z && !z.sameKey (.int .i64 x)) G = sumG o left G + (if x = o then 0 else e.l.length) := by
  induction G with
  | nil => cases hx
  | cons y G ih =>
    unfold GSort at hs ih
    rw [List.pairwise_cons] at hs
    rw [gAt_cons] at hx
    unfold sumG
    by_cases hy : y.own = x
    · rw [if_pos hy] at hx
      injection hx with hx
      subst hx
      have ho := sum_other o x left G (fun z hz => by have := hs.1 z hz; omega)
      rw [ho, hy, hl]
      have : (Lit.int .i64 x).sameKey (.int .i64 x) = true := by simp [Lit.sameKey]
      simp only [this, Bool.not_true, Bool.and_false, Bool.false_eq_true, if_false, if_true]
      split <;> omega
    · rw [if_neg hy] at hx
      rw [ih hs.2 hx]
      have : (Lit.int .i64 y.own).sameKey (.int .i64 x) = false := by simp [Lit.sameKey, hy]
      simp only [this, Bool.not_false, Bool.and_true]
      omega
theorem sum_le (o : Int) (left : Lit → Bool) (G : List Ent) (h : ∀ e ∈ G, e.l.length ≤ 1000) : sumG o left G ≤ 1000 * G.length := by
  induction G with
  | nil => exact Nat.zero_le _
  | cons e G ih =>
    unfold sumG
    have h1 := ih (fun x hx => h x (List.mem_cons_of_mem _ hx))
    have h2 := h e (List.mem_cons_self ..)
    rw [List.length_cons]
    split
    · omega
    · split <;> omega

set_option maxRecDepth 100000 in
set_option maxHeartbeats 1000000 in
theorem count_any (p mb : Nat) (qv : Value) (G : List Ent) (Q : List Lk) (hs : GSort G) (hb : ∀ e ∈ G, e.l.length ≤ 1000) (o : Int) (a : Option Addr) (n c : Nat) (hn : n ≤ 1000) (w : World) (h : TG w p mb qv G Q) :
    Calls Try.prog 34 #[.pointer (some ⟨p, 0, none⟩), .int .i64 o, .slice a n c] w fun e w' => e = .returned (.int .i64 ((n + cntG G o : Nat) : Int)) ∧ Below w.heap.size w w' := by
  obtain ⟨D, hD, hL⟩ := h.map
  have c0 : w.cell? ⟨p, 0, none⟩ = some (.map (some mb)) := blk_cell h.hdr 0
  have HL := Lib.hid hL
  have HS := Lib.hid hs
  have HLE := Lib.hid (fun left => Nat.le_trans (sum_le o left G hb) (Nat.mul_le_mul_left 1000 h.len))
  have HST := Lib.hid (sum_start o D G (fun e he => by
    rw [hL.has]; unfold gAt; rw [List.find?_isSome]; exact ⟨e, he, by simp⟩))
  have HB := Lib.hid hb
  clear hL h hs hb
  go_enter Try.func34, Try.ntmps34
  go_wp2_with (first
    | (at_range; refine wpList_range_own _ rfl _ 65 rfl 3 60 keyI Try.underlying65 Rd mb 1000 D rfl hD ?_; intro w0 hrg0 hg0 hs0)
    | go_in)
  go_frame
  go_loopw [7] (fun v wr => ∃ (left : Lit → Bool) (cnt : Nat), wr.ranges Try.prog 3 Rd mb w.heap.size 1000 D left cnt ∧ v = .int .i64 ((n + sumG o left G : Nat) : Int) ∧ Below w.heap.size w wr)
    (fun _ wr => wr.rangeLeft mb w.heap.size)
  case atStart =>
    exact ⟨_, _, hrg0, by rw [HST.out]; rfl, (Below.refl _ _).grown hg0 (Nat.le_refl _) (fun j hj => by cases hj)⟩
  case round =>
    obtain ⟨left, cnt, hrg, rfl, hnx⟩ := hrel
    go_wp2_with (first
      | (at_next; refine wpList_next_ranges _ rfl _ rfl 3 keyI Rd encZ sV (fun key kl hk => by obtain ⟨x, hx, _⟩ := Maps.keyOf_i64 Try.underlying3 hk; exact ⟨x, hx⟩) Rd_shape mb w.heap.size 1000 _ _ _ rfl hrg ?_ ?_)
      | go_in)
    · intro hc0 hl0
      have HE := Lib.hid (sum_end o left G hl0)
      have HX := Lib.hid hnx
      clear hrg hc0 hl0 hnx hD hrg0 hg0 hs0
      go_wp2
      go_ret
      exact ⟨by rw [← HE.out]; rfl, HX.out⟩
    · intro x cc kl yd yp w2 cnt2 hkey hlk hv hat hrg2 hlt hg2 hs2 hen
      obtain ⟨x', ex, rfl, hwx⟩ := Maps.keyOf_i64 Try.underlying3 hkey
      obtain rfl : x = x' := encZ_inj ex
      have hat0 := hat .nil
      rw [HL.out.look] at hat0
      have hv' : Rd (sV cc) = some (entD (gAt G x), yp) := by rw [hv, ← hat0]
      have hcv := Rd_inv hv'
      have hsome : has D (.int .i64 x) = true := has_true_of_atKey hat
      rw [HL.out.has] at hsome
      obtain ⟨en, hen2⟩ := Option.isSome_iff_exists.1 hsome
      have HSTEP := Lib.hid (sum_step o HS.out hen2 hlk)
      have HLE2 := Lib.hid (HLE.out (fun z => left z && !z.sameKey (.int .i64 x)))
      have hll := HB.out en (gAt_mem hen2).1
      have hle := HLE.out left
      rw [hen2] at hcv
      rw [hcv] at hen
      have HR := Lib.hid hrg2
      have HNX := Lib.hid (hnx.grown hg2 hnx.size (fun j hj => by cases hj; exact Nat.le_refl _))
      have HM := Lib.hid (And.intro hrg hlt)
      clear hkey hlk hv hat hrg2 hg2 hs2 hat0 hv' hsome hnx hrg hlt
      simp only [entV] at hen hcv
      by_cases hxo : x = o
      · subst hxo
        have d1 : (x == x) = true := by simp
        have HE2 := Lib.hid (HSTEP.out.trans (by rw [if_pos rfl, Nat.add_zero]))
        clear hen2 HSTEP
        go_wp2
        go_roundw
        case rel => exact ⟨_, cnt2, HR.out, by rw [HE2.out]; congr 1, HNX.out⟩
        case measure => rw [HR.out.left_eq, HM.out.1.left_eq]; exact HM.out.2
      · have d1 : (x == o) = false := by simpa using hxo
        have HE2 := Lib.hid (HSTEP.out.trans (by rw [if_neg hxo]))
        clear hen2 HSTEP
        have hwr : IntKind.i64.wrap ((n : Int) + (sumG o left G : Int) + (en.l.length : Int)) = (n : Int) + (sumG o left G : Int) + (en.l.length : Int) := IntWalk.i64_in _ (by omega)
        go_wp2
        go_roundw
        case rel => exact ⟨_, cnt2, HR.out, by rw [HE2.out]; congr 1; omega, HNX.out⟩
        case measure => rw [HR.out.left_eq, HM.out.1.left_eq]; exact HM.out.2
end Go.Proofs.Ytoolflmaaooplaa
