/- Ranges: who waits. -/
import Derived.Test.YtoolflmaaooplaaA6
namespace Go.Proofs.Ytoolflmaaooplaa
set_option linter.unusedVariables false
set_option linter.unusedSimpArgs false
open Go.RowKit Go.Maps Go.Sort Go.Lib Go.Proofs.YtoolflmaaooplaaW.PrintWords Go.Proofs.YtoolflmaaooplaaW.PrintLast Go.Proofs.YtoolflmaaooplaaW.PrintMore FLib
attribute [local go_sem] below_alloc_T below_drew_T below_drewN_T

theorem addmk (b o j : Nat) : (⟨b, o, none⟩ : Addr).add j = ⟨b, o + j, none⟩ := by unfold Addr.add; split <;> simp_all
theorem flat_at {α : Type} (f : α → List Value) (m : Nat) (hm : ∀ x, (f x).length = m) : ∀ (l : List α) (i : Nat) (x : α), l[i]? = some x → ∀ j, j < m → (l.flatMap f)[i * m + j]? = (f x)[j]?
  | [], i, x, h, j, hj => by simp at h
  | a :: l, 0, x, h, j, hj => by
    have e : a = x := by simpa using h
    subst e
    rw [List.flatMap_cons, List.getElem?_append_left (by rw [hm]; omega)]
    congr 1; omega
  | a :: l, i + 1, x, h, j, hj => by
    have e : (i + 1) * m + j = m + (i * m + j) := by rw [Nat.add_mul]; omega
    rw [List.flatMap_cons, List.getElem?_append_right (by rw [hm]; omega), hm, e, Nat.add_sub_cancel_left]
    exact flat_at f m hm l i x (by simpa using h) j hj
theorem row_form {w : World} {base e sz n : Nat} {v : Value} {xs : List Value} (h : w.ownsRow base e sz v n xs) : (v = .slice none 0 0 ∧ n = 0) ∨ ∃ g c, v = .slice (some ⟨g, 0, none⟩) n c := by
  rcases h.2 with h2 | ⟨g, c, cur, h1, -⟩
  · exact .inl h2
  · exact .inr ⟨g, c, h1⟩
theorem row_lk {w : World} {base e g c n : Nat} {l : List Lk} (h : w.ownsRow base e 4 (.slice (some ⟨g, 0, none⟩) n c) n (lflat l)) {k : Nat} {x : Lk} (hk : l[k]? = some x) :
    w.cell? ⟨g, k * 4, none⟩ = some (.int .i64 x.own) ∧ w.cell? ⟨g, k * 4 + 1, none⟩ = some (.int .i64 x.st) ∧ w.cell? ⟨g, k * 4 + 2, none⟩ = some (.int .i64 x.len) ∧ w.cell? ⟨g, k * 4 + 3, none⟩ = some (.bool x.ex) := by
  have key : ∀ j u, j < 4 → x.cells[j]? = some u → w.cell? ⟨g, k * 4 + j, none⟩ = some u := fun j u hj hu => by
    have := h.cells (g := g) rfl (k * 4 + j) u (by unfold lflat; rw [flat_at Lk.cells 4 (fun _ => rfl) l k x hk j hj]; exact hu)
    rw [addmk, Nat.zero_add] at this
    exact this
  exact ⟨key 0 _ (by omega) rfl, key 1 _ (by omega) rfl, key 2 _ (by omega) rfl, key 3 _ (by omega) rfl⟩
theorem row_sp {w : World} {base e g c n : Nat} {l : List Sp} (h : w.ownsRow base e 3 (.slice (some ⟨g, 0, none⟩) n c) n (sflat l)) {k : Nat} {x : Sp} (hk : l[k]? = some x) :
    w.cell? ⟨g, k * 3, none⟩ = some (.int .i64 x.lo) ∧ w.cell? ⟨g, k * 3 + 1, none⟩ = some (.int .i64 x.hi) ∧ w.cell? ⟨g, k * 3 + 2, none⟩ = some (.bool x.ex) := by
  have key : ∀ j u, j < 3 → x.cells[j]? = some u → w.cell? ⟨g, k * 3 + j, none⟩ = some u := fun j u hj hu => by
    have := h.cells (g := g) rfl (k * 3 + j) u (by unfold sflat; rw [flat_at Sp.cells 3 (fun _ => rfl) l k x hk j hj]; exact hu)
    rw [addmk, Nat.zero_add] at this
    exact this
  exact ⟨key 0 _ (by omega) rfl, key 1 _ (by omega) rfl, key 2 _ (by omega) rfl⟩
theorem below_step {W w1 w2 : World} (h : Below W.heap.size W w1) (h2 : Below w1.heap.size w1 w2) : Below W.heap.size W w2 := h.trans (h2.mono h.size)
/-- The place of an owner's waiting lock. -/
def waitI (Q : List Lk) (o : Int) : Int := if Q.findIdx (fun l => l.own == o) < Q.length then (Q.findIdx (fun l => l.own == o) : Int) else -1
theorem idx_step {Q : List Lk} {o : Int} {k : Nat} {x : Lk} (h : k ≤ Q.findIdx (fun l => l.own == o)) (hx : Q[k]? = some x) (hn : x.own ≠ o) : k + 1 ≤ Q.findIdx (fun l => l.own == o) := by
  rcases Nat.lt_or_ge k (Q.findIdx (fun l => l.own == o)) with h1 | h1
  · exact h1
  · have e : Q.findIdx (fun l => l.own == o) = k := by omega
    have hlt := (List.getElem?_eq_some_iff.1 hx).1
    have := List.findIdx_getElem (p := fun l : Lk => l.own == o) (xs := Q) (w := by rw [e]; exact hlt)
    simp only [e] at this
    rw [(List.getElem?_eq_some_iff.1 hx).2] at this
    exact absurd (by simpa using this) hn
theorem idx_here {Q : List Lk} {o : Int} {k : Nat} {x : Lk} (h : k ≤ Q.findIdx (fun l => l.own == o)) (hx : Q[k]? = some x) (hn : x.own = o) : waitI Q o = (k : Int) := by
  have hlt := (List.getElem?_eq_some_iff.1 hx).1
  have h2 : Q.findIdx (fun l => l.own == o) ≤ k := by
    rcases Nat.lt_or_ge k (Q.findIdx (fun l => l.own == o)) with h1 | h1
    · have := List.not_of_lt_findIdx h1
      rw [(List.getElem?_eq_some_iff.1 hx).2] at this
      simp [hn] at this
    · exact h1
  have e : Q.findIdx (fun l => l.own == o) = k := by omega
  unfold waitI
  rw [e, if_pos hlt]
set_option maxRecDepth 100000 in
set_option maxHeartbeats 1000000 in
theorem index_any (base : Nat) (v : Value) (Q : List Lk) (o : Int) (b : Nat) (hq : Q.length ≤ 100000) (w : World) (h : w.ownsRow base 23 4 v Q.length (lflat Q)) (hb : w.cell? ⟨b, 0, none⟩ = some (.int .i64 o)) :
    Calls Try.prog 46 #[v, .func (.func 57) #[] #[.pointer (some ⟨b, 0, none⟩)]] w fun e w' => e = .returned (.int .i64 (waitI Q o)) ∧ Below w.heap.size w w' := by
  have HR := Lib.hid h
  have HL := Lib.hid hq
  have HB := Lib.hid hb
  rcases row_form h with ⟨rfl, hz⟩ | ⟨g, c, rfl⟩
  · have hE := Lib.hid (show waitI Q o = -1 by unfold waitI; rw [if_neg (by omega)])
    clear h hq hb hz
    go_enter Try.func46, Try.ntmps46
    go_wp2
    refine wp_loop_rounds 1 ?_
    rw [rounds_succ]
    go_wp2
    go_ret
    exact ⟨by rw [hE.out]; rfl, Below.refl _ _⟩
  · clear h hq hb
    go_enter Try.func46, Try.ntmps46
    go_wp2
    go_loopw [8] (fun t wr => ∃ k : Nat, k ≤ Q.length ∧ t = .int .i64 k ∧ Hid (k ≤ Q.findIdx (fun l => l.own == o)) ∧ Hid (Below w.heap.size w wr)) (fun t _ => Q.length - (RowKit.intOf t).toNat)
    case atStart => exact ⟨0, Nat.zero_le _, rfl, Lib.hid (Nat.zero_le _), Lib.hid (Below.refl _ _)⟩
    case round =>
      obtain ⟨k, hk, rfl, hI, hBw⟩ := hrel
      have hlr : (Q.length : Int) ≤ 100000 := by have := HL.out; omega
      by_cases hlt : k < Q.length
      · obtain ⟨x, hx⟩ : ∃ x, Q[k]? = some x := ⟨_, List.getElem?_eq_getElem hlt⟩
        obtain ⟨p0, p1, p2, p3⟩ := row_lk (pw_own_below HR.out hBw.out) hx
        have HC := Lib.hid (waits1_any x b o wr (pw_cell_below hBw.out HB.out))
        have hk0 : (0 : Int) ≤ (k : Int) := by omega
        have hk1 : (k : Int) < (Q.length : Int) := by omega
        have HKL := Lib.hid hlt
        have HX := Lib.hid hx
        clear hx hlt
        go_wp2_with fail
        refine HC.out.mono ?_
        rintro e w3 ⟨rfl, hb3⟩
        have HB3 := Lib.hid (below_step hBw.out hb3)
        clear hb3
        by_cases hxo : x.own = o
        · have d1 : (x.own == o) = true := by simpa using hxo
          have hE := Lib.hid (idx_here hI.out HX.out hxo)
          clear hxo
          rw [d1]
          go_wp2
          go_ret
          exact ⟨by rw [hE.out]; rfl, HB3.out⟩
        · have d1 : (x.own == o) = false := by simpa using hxo
          have hE := Lib.hid (idx_step hI.out HX.out hxo)
          clear hxo
          rw [d1]
          go_wp2
          go_roundw
          case rel => exact ⟨k + 1, by have := HKL.out; omega, by go_num, hE, HB3⟩
          case measure => have := HKL.out; simp [RowKit.intOf]; omega
      · obtain rfl : k = Q.length := by omega
        have hE := Lib.hid (show waitI Q o = -1 by unfold waitI; rw [if_neg (by have := hI.out; omega)])
        go_wp2
        go_ret
        exact ⟨by rw [hE.out]; rfl, hBw.out⟩
theorem waits_any (p mb : Nat) (qv : Value) (G : List Ent) (Q : List Lk) (hq : Q.length ≤ 100000) (o : Int) (w : World) (h : TG w p mb qv G Q) :
    Calls Try.prog 31 #[.pointer (some ⟨p, 0, none⟩), .int .i64 o] w fun e w' => e = .returned (.int .i64 (waitI Q o)) ∧ Below w.heap.size w w' := by
  have c1 := later_cell (v := qv) (blk_cell h.hdr 1)
  have hs := Below.refl w.heap.size w
  have HI := Lib.hid (index_any 0 qv Q o w.heap.size hq (w.alloc (.cells #[.int .i64 o] 3)) (h.queue.alloc _) (blk_cell (blk_new w _) 0))
  clear h hq
  go_enter Try.func31, Try.ntmps31
  go_wp2_with fail
  refine HI.out.mono ?_
  rintro e w3 ⟨rfl, hb3⟩
  go_wp2
  go_ret
  exact ⟨rfl, below_step (below_alloc (Below.refl _ _) _) hb3⟩
end Go.Proofs.Ytoolflmaaooplaa
