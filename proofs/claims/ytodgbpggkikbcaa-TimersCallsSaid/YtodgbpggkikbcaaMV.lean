/- Timers: TimersCalls. -/
import Derived.Test.YtodgbpggkikbcaaMT
import Derived.Test.YtodgbpggkikbcaaMU
import Derived.Test.YtodgbpggkikbcaaMG
namespace Go.Proofs.Ytodgbpggkikbcaa
section
set_option linter.unusedVariables false
set_option linter.unusedSimpArgs false
open Go.RowKit Go.Maps Go.Sort Go.Proofs.YtodgbpggkikbcaaW.PrintWords Go.Proofs.YtodgbpggkikbcaaW.PrintLast Go.Proofs.YtodgbpggkikbcaaW.PrintMore FLib
attribute [local go_sem] below_alloc_T below_drew_T below_drewN_T

theorem frs_le {L : Slots} (hL : LOk L) (hlen : L.length ≤ 1000) (c now : Int) : (frs L now (expD L c now)).length ≤ 1000 := by
  rw [frs_len]
  rcases exp_all L c now with e | e
  · rw [e]; simp
  · rw [e, ← rR_due hL]
    have := dueR_len (rR L) now
    rw [rR_len] at this
    omega
theorem exp2d {w0 : World} {p mb q B : Nat} {o : Obj} {c1 : Int} {L : Slots} {c : Int} {v : Value} {W : World} {L1 : Slots} (h : Mid w0 p mb q B o c1 L1 c (rR L) v W) (hL : LOk L) (now : Int) :
    Calls Try.prog 40 #[.pointer (some ⟨q, 0, none⟩), .int .i64 now] W fun e w' => (∃ u, e = .returned (.tuple #[u, .int .i64 (expE c now)]) ∧ w'.ownsRow W.heap.size 106 7 u (frs L now (expD L c now)).length (fflat (frs L now (expD L c now)))) ∧ Keeps W w' (ROwn q v) ∧ Mid w0 p mb q B o c1 L1 (expC c now) (rR (fireD L now (expD L c now))) v w' := by
  refine (exp2 h (rR_ok hL) now).mono ?_
  rintro e w' ⟨h1, h2, h3⟩
  rw [rR_expD hL, rR_fd, ← frs_flat, ← frs_len L now] at h1
  rw [rR_expD hL, ← rR_fire] at h3
  exact ⟨h1, h2, h3⟩

set_option maxRecDepth 100000 in
set_option maxHeartbeats 1000000 in
theorem do_exp (w0 : World) (p mb q : Nat) (c : Int) (L : Slots) (v : Value) (x : OpR) (hk : x.k = 5) (w : World) (h : Two w0 p mb q c L v w) :
    Calls Try.prog 21 #[.pointer (some ⟨p, 0, none⟩), .pointer (some ⟨q, 0, none⟩), .agg x.arr] w (DoPost w0 p mb q w) := by
  have HM := Lib.hid (h.mid (.cells x.arr 55 (0, 0)))
  have HL := Lib.hid h.ok
  have HLEN := Lib.hid (frs_le h.ok h.set.len c x.now)
  clear h
  obtain ⟨k, i, e0, e1, e2, e3, e4, f, iv, tol, now⟩ := x
  obtain rfl : k = 5 := hk
  simp only [OpR.arr] at HM HLEN ⊢
  go_enter Try.func21, Try.ntmps21
  go_wp2_with fail
  refine (exp1 HM.out HL.out _).mono ?_
  rintro e w1 ⟨⟨u1, rfl, hr1⟩, hsz, hm1⟩
  have b1 := blk_cell hm1.box 10
  simp at b1
  have H1 := Lib.hid (And.intro hr1 hm1)
  clear hr1 hm1
  go_wp2_with fail
  refine (exp2d H1.out.2 HL.out _).mono ?_
  rintro e w2 ⟨⟨u2, rfl, hr2⟩, hk2, hm2⟩
  have hr1 := own_move (w1 := w2) H1.out.1 (fun k hk => hk2.block k (World.ownsRow.lt H1.out.1 _ hk).2 (fun e => by have := (World.ownsRow.lt H1.out.1 _ hk).1; have := HM.out.ref.own_lt e; omega))
  have H2 := Lib.hid (And.intro hr1 (And.intro hr2 hm2))
  clear hr1 hr2 hm2 hk2 b1 hsz
  generalize expE c now = ee
  go_wp2_with fail
  refine (fired_any _ _ _ _ _ HLEN.out _ H2.out.1 H2.out.2.1).mono ?_
  rintro e w3 ⟨rfl, hb3⟩
  have H3 := Lib.hid (H2.out.2.2.below hb3)
  clear hb3
  go_wp2
  go_ret
  exact ⟨rfl, _, _, _, _, v, H3.out, HL.out.exp c now⟩
set_option maxRecDepth 100000 in
set_option maxHeartbeats 1000000 in
theorem do_none (w0 : World) (p mb q : Nat) (c : Int) (L : Slots) (v : Value) (x : OpR) (h0 : x.k ≠ 0) (h1 : x.k ≠ 1) (h2 : x.k ≠ 2) (h3 : x.k ≠ 3) (h4 : x.k ≠ 4) (h5 : x.k ≠ 5) (w : World) (h : Two w0 p mb q c L v w) :
    Calls Try.prog 21 #[.pointer (some ⟨p, 0, none⟩), .pointer (some ⟨q, 0, none⟩), .agg x.arr] w (DoPost w0 p mb q w) := by
  have HM := Lib.hid (h.mid (.cells x.arr 55 (0, 0)))
  have HL := Lib.hid h.ok
  clear h
  obtain ⟨k, i, e0, e1, e2, e3, e4, f, iv, tol, now⟩ := x
  simp only [OpR.arr] at HM h0 h1 h2 h3 h4 h5 ⊢
  have d0 : (k == 0) = false := by simpa using h0
  have d1 : (k == 1) = false := by simpa using h1
  have d2 : (k == 2) = false := by simpa using h2
  have d3 : (k == 3) = false := by simpa using h3
  have d4 : (k == 4) = false := by simpa using h4
  have d5 : (k == 5) = false := by simpa using h5
  clear h0 h1 h2 h3 h4 h5
  go_enter Try.func21, Try.ntmps21
  go_wp2
  go_ret
  exact ⟨rfl, _, _, c, L, v, HM.out, HL.out⟩
end
section
set_option linter.unusedVariables false
set_option linter.unusedSimpArgs false
open Go.RowKit Go.Maps Go.Sort Go.Proofs.YtodgbpggkikbcaaW.PrintWords Go.Proofs.YtodgbpggkikbcaaW.PrintLast Go.Proofs.YtodgbpggkikbcaaW.PrintMore FLib
attribute [local go_sem] below_alloc_T below_drew_T below_drewN_T

theorem do_any (w0 : World) (p mb q : Nat) (c : Int) (L : Slots) (v : Value) (x : OpR) (hi : (Lit.int .i64 x.i).wf = true) (w : World) (h : Two w0 p mb q c L v w) :
    Calls Try.prog 21 #[.pointer (some ⟨p, 0, none⟩), .pointer (some ⟨q, 0, none⟩), .agg x.arr] w (DoPost w0 p mb q w) := by
  by_cases h0 : x.k = 0
  · exact do_cre w0 p mb q c L v x h0 w h
  by_cases h1 : x.k = 1
  · exact do_set w0 p mb q c L v x h1 hi w h
  by_cases h2 : x.k = 2
  · exact do_get w0 p mb q c L v x h2 hi w h
  by_cases h3 : x.k = 3
  · exact do_del w0 p mb q c L v x h3 hi w h
  by_cases h4 : x.k = 4
  · exact do_drop w0 p mb q c L v x h4 w h
  by_cases h5 : x.k = 5
  · exact do_exp w0 p mb q c L v x h5 w h
  exact do_none w0 p mb q c L v x h0 h1 h2 h3 h4 h5 w h

/-- A row of operations. -/
structure OpRow (W : World) (A : Option Addr) (n : Nat) (S : List OpR) : Prop where
  len : S.length = n
  max : n ≤ maxLen
  cell : ∀ (i : Nat) (x : OpR), S[i]? = some x → (Lit.int .i64 x.i).wf = true ∧ ∃ a, A = some a ∧ W.cell? (a.add (i * 11)) = some (.int .i64 x.k) ∧ ∀ (j : Nat) (u : Value), 0 < j → x.arr[j]? = some u → W.cell? ⟨(a.add (i * 11)).block, (a.add (i * 11)).off + j, none⟩ = some u

set_option maxRecDepth 100000 in
set_option maxHeartbeats 2000000 in
theorem calls_law (A : Option Addr) (n cap : Nat) (S : List OpR) (w : World) (h : OpRow w A n S) :
    Calls Try.prog 8 #[.slice A n cap] w fun e w' => e = .returned (.bool true) ∧ Below w.heap.size w w' := by
  have HAW := Lib.hid (fun w => awake_any w)
  have hm := h.max
  have HS := Lib.hid h
  unfold maxLen at hm
  clear h
  cases d1 : decide ((40 : Int) < (n : Int))
  · have hn40 : (n : Int) ≤ 40 := by have := of_decide_eq_false d1; omega
    go_enter Try.func8, Try.ntmps8
    go_wp2_with fail
    refine (new_any _).mono ?_
    rintro e w1 ⟨rfl, hT, hb⟩
    have H1 := Lib.hid (And.intro hT hb)
    clear hT hb
    go_wp2_with fail
    refine (rnew_any _).mono ?_
    rintro e w2 ⟨rfl, hR, hb2⟩
    have hsz : w.heap.size + 2 ≤ w1.heap.size := by have := blk_lt H1.out.1.hdr; omega
    have hTwo : Two w (w.heap.size + 1) w.heap.size w1.heap.size 0 [] (.slice none 0 0) w2 :=
      ⟨below_step H1.out.2 hb2, H1.out.1.below hb2, hR, fun k hk => by
        rcases hk with e | e | ⟨i, t, e⟩
        · omega
        · omega
        · simp at e, fun k hk => by
        rcases hk with e | e
        · omega
        · simp [Value.ownBlock] at e, fun k hk hr => by
        rcases hr with e | e
        · rcases hk with e' | e' | ⟨i, t, e'⟩
          · omega
          · omega
          · simp at e'
        · simp [Value.ownBlock] at e, fun i b t e => by simp at e⟩
    have H2 := Lib.hid hTwo
    clear hTwo hR hb2 H1 hsz
    obtain ⟨mb, hmb⟩ : ∃ q, w.heap.size = q := ⟨_, rfl⟩
    obtain ⟨p, hp⟩ : ∃ q, w.heap.size + 1 = q := ⟨_, rfl⟩
    obtain ⟨q, hq⟩ : ∃ q, w1.heap.size = q := ⟨_, rfl⟩
    rw [hp, hq, hmb] at H2
    rw [hp, hq]
    clear hmb hp hq
    go_wp2
    go_loopw [19] (fun t wr => ∃ k : Nat, k ≤ n ∧ t = .int .i64 k ∧ Hid (∃ c L v, Two w p mb q c L v wr)) (fun t _ => n - (RowKit.intOf t).toNat)
    case atStart => exact ⟨0, Nat.zero_le _, rfl, Lib.hid ⟨_, _, _, H2.out⟩⟩
    case round =>
      obtain ⟨k, hk, rfl, hR⟩ := hrel
      by_cases hlt : k < n
      · obtain ⟨c, L, v, hT⟩ := hR.out
        have HT := Lib.hid hT
        obtain ⟨x, hx⟩ : ∃ x, S[k]? = some x := ⟨_, List.getElem?_eq_getElem (by rw [HS.out.len]; exact hlt)⟩
        obtain ⟨hwf, a, rfl, c0, cs⟩ := HS.out.cell k x hx
        have HW := Lib.hid hwf
        have hk0 : (0 : Int) ≤ (k : Int) := by omega
        have hk1 : (k : Int) < (n : Int) := by omega
        have HKL := Lib.hid hlt
        have HX := Lib.hid (show x = x from rfl)
        have t0 := pw_cell_below HT.out.low c0
        have t1 := pw_cell_below HT.out.low (cs 1 (.int .i64 x.i) (by omega) rfl)
        have t2 := pw_cell_below HT.out.low (cs 2 (.int .i64 x.e0) (by omega) rfl)
        have t3 := pw_cell_below HT.out.low (cs 3 (.int .i64 x.e1) (by omega) rfl)
        have t4 := pw_cell_below HT.out.low (cs 4 (.int .i64 x.e2) (by omega) rfl)
        have t5 := pw_cell_below HT.out.low (cs 5 (.int .i64 x.e3) (by omega) rfl)
        have t6 := pw_cell_below HT.out.low (cs 6 (.int .i64 x.e4) (by omega) rfl)
        have t7 := pw_cell_below HT.out.low (cs 7 (.int .i64 x.f) (by omega) rfl)
        have t8 := pw_cell_below HT.out.low (cs 8 (.int .i64 x.iv) (by omega) rfl)
        have t9 := pw_cell_below HT.out.low (cs 9 (.int .i64 x.tol) (by omega) rfl)
        have t10 := pw_cell_below HT.out.low (cs 10 (.int .i64 x.now) (by omega) rfl)
        clear hT hwf c0 cs hx hlt hR
        go_wp2_with fail
        refine (do_any w p mb q c L v x HW.out _ ⟨below_step HT.out.low (below_alloc (Below.refl _ _) _), HT.out.set.below (below_alloc (Below.refl _ _) _), HT.out.ref.below (below_alloc (Below.refl _ _) _), HT.out.own, HT.out.rown, HT.out.sep, HT.out.ok⟩).mono ?_
        rintro e w4 ⟨rfl, B, o, c', L', v', hm, hL⟩
        have HM := Lib.hid (And.intro hm hL)
        clear hm hL t0 t1 t2 t3 t4 t5 t6 t7 t8 t9 t10
        clear HT HW HX
        go_wp2_with fail
        refine (next1 HM.out.1 HM.out.2).mono ?_
        rintro e w5 ⟨rfl, -, hm5⟩
        have HM5 := Lib.hid hm5
        clear hm5
        have HV := Lib.hid (rR_next HM.out.2)
        generalize nextV L' = nv at HV ⊢
        obtain ⟨n1, n2⟩ := nv
        simp only
        go_wp2_with fail
        refine (next2 HM5.out (rR_ok HM.out.2)).mono ?_
        rintro e w6 ⟨rfl, -, hm6⟩
        rw [HV.out]
        have HM6 := Lib.hid hm6
        clear hm6
        go_wp2_with fail
        refine (list1 HM6.out).mono ?_
        rintro e w7 ⟨⟨u1, rfl, hn1⟩, -, hm7⟩
        have HM7 := Lib.hid (And.intro hn1 hm7)
        clear hn1 hm7
        go_wp2_with fail
        refine (list2 HM7.out.2).mono ?_
        rintro e w8 ⟨⟨u2', rfl, hn2⟩, hb8, hm8⟩
        rw [rR_ids] at hn2
        have HM8 := Lib.hid (And.intro (HM7.out.1.below hb8) (And.intro hn2 hm8))
        have HIL := Lib.hid (Nat.le_trans (ids_len L') HM8.out.2.2.set.len)
        clear hn2 hm8 hb8
        go_wp2_with fail
        refine (eq_same _ _ _ _ _ HIL.out _ HM8.out.1 HM8.out.2.1).mono ?_
        rintro e w9 ⟨rfl, hb9⟩
        have HM9 := Lib.hid ((HM8.out.2.2.below hb9).two HM.out.2)
        clear hb9
        go_wp2
        go_roundw
        case rel => exact ⟨k + 1, by have := HKL.out; omega, by go_num, Lib.hid ⟨_, _, _, HM9.out⟩⟩
        case measure => have := HKL.out; simp [RowKit.intOf]; omega
      · obtain rfl : k = n := by omega
        obtain ⟨c, L, v, hT⟩ := hR.out
        have HT := Lib.hid hT
        clear hT
        go_wp2_with fail
        refine (HAW.out _).mono ?_
        rintro e w3 ⟨rfl, hb3⟩
        have HB := Lib.hid (below_step HT.out.low hb3)
        clear hb3
        go_wp2
        go_ret
        exact ⟨rfl, HB.out⟩
  · go_enter Try.func8, Try.ntmps8
    go_wp2_with fail
    refine (HAW.out _).mono ?_
    rintro e w3 ⟨rfl, hb3⟩
    go_wp2
    go_ret
    exact ⟨rfl, hb3⟩
end
end Go.Proofs.Ytodgbpggkikbcaa
