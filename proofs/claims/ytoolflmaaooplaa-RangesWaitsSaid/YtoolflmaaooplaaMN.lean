/- Ranges: the laws. -/
import Derived.Test.YtoolflmaaooplaaMM
import Derived.Test.YtoolflmaaooplaaNOpens2
namespace Go.Proofs.Ytoolflmaaooplaa
section
set_option linter.unusedVariables false
set_option linter.unusedSimpArgs false
open Go.RowKit Go.Maps Go.Sort Go.Lib Go.Shelf Go.Proofs.YtoolflmaaooplaaW.PrintWords Go.Proofs.YtoolflmaaooplaaW.PrintLast Go.Proofs.YtoolflmaaooplaaW.PrintMore FLib
attribute [local go_sem] below_alloc_T below_drew_T below_drewN_T

def mod8 (L : List (Int × Lk)) : List (Int × Lk) := L.map (fun a => (a.1 % 8, a.2))
theorem mod8_at {L : List (Int × Lk)} {k : Nat} {x : Int × Lk} (h : L[k]? = some x) : (mod8 L)[k]? = some (x.1 % 8, x.2) := by unfold mod8; rw [List.getElem?_map, h]; rfl
theorem mod8_len (L : List (Int × Lk)) : (mod8 L).length = L.length := by unfold mod8; simp
theorem play_gi {w : World} {a : Option Addr} {len : Nat} {L : List (Int × Lk)} (h : Opens2.ActRow w a len L) (hl : len ≤ 60) (k : Nat) (hk : k ≤ len) : GI (2 * k) (playF ((mod8 L).take k)).1 (playF ((mod8 L).take k)).2 := by
  refine playF_ok (mod8 L) (fun y hy => ?_) (by rw [mod8_len, h.1]; exact hl) k (by rw [mod8_len, h.1]; exact hk)
  unfold mod8 at hy
  obtain ⟨x, hx, rfl⟩ := List.mem_map.1 hy
  obtain ⟨i, hi, rfl⟩ := List.getElem_of_mem hx
  exact (h.2.2 i _ (List.getElem?_eq_getElem hi)).2.1
set_option maxRecDepth 100000 in
set_option maxHeartbeats 1000000 in
theorem plays_law (a : Option Addr) (len cap : Nat) (L : List (Int × Lk)) (w : World) (h : Opens2.ActRow w a len L) :
    Calls Try.prog 7 #[.slice a len cap] w fun e w' => e = .returned (.bool true) ∧ Below w.heap.size w w' := by
  have HAW := Lib.hid awake_any
  by_cases hlen : 60 < len
  · have hd : decide ((60 : Int) < (len : Int)) = true := decide_eq_true (by omega)
    clear h hlen
    go_enter Try.func7, Try.ntmps7
    go_wp2_with fail
    refine (HAW.out _).mono ?_
    rintro e w1 ⟨rfl, hb1⟩
    have H1 := Lib.hid hb1
    clear hb1
    go_wp2
    go_ret
    exact ⟨rfl, H1.out⟩
  · have hd : decide ((60 : Int) < (len : Int)) = false := decide_eq_false (by omega)
    have HH := Lib.hid h
    have HG := Lib.hid (fun k hk => play_gi h (by omega) k hk)
    have HL := Lib.hid hlen
    clear h hlen
    go_enter Try.func7, Try.ntmps7
    go_wp2_with fail
    refine (HAW.out _).mono ?_
    rintro e w1 ⟨rfl, hb1⟩
    go_wp2_with fail
    refine (new_c (W0 := w) hb1.size).mono ?_
    rintro e w2 ⟨p, mb, rfl, hP2, hb2⟩
    have hbb2 := below_back hb1 hb2
    clear hb1 hb2
    go_wp2_with fail
    refine (rnew_c (W0 := w) hbb2.size).mono ?_
    rintro e w3 ⟨q, rfl, hR3, hb3⟩
    have H3 := Lib.hid (And.intro ((hP2.below hb3).up' hb3.size) (And.intro hR3 (below_back hbb2 hb3)))
    clear hP2 hbb2 hR3 hb3
    go_wp2
    go_loopw [19] (fun t wr => ∃ k : Nat, k ≤ len ∧ t = .int .i64 k ∧ Hid (PT w wr p mb wr.heap.size (playF ((mod8 L).take k)).1 (playF ((mod8 L).take k)).2) ∧ Hid (RTt w wr q wr.heap.size (flatP (playF ((mod8 L).take k)).1) (playF ((mod8 L).take k)).2) ∧ Hid (Below w.heap.size w wr)) (fun t _ => len - (RowKit.intOf t).toNat)
    case atStart => exact ⟨0, Nat.zero_le _, rfl, Lib.hid H3.out.1, Lib.hid H3.out.2.1, Lib.hid H3.out.2.2⟩
    case round =>
      obtain ⟨k, hk, rfl, hP, hR, hB⟩ := hrel
      have hlr : (len : Int) ≤ 60 := by have := HL.out; omega
      by_cases hlt : k < len
      · obtain ⟨x, hx⟩ : ∃ x, L[k]? = some x := ⟨_, List.getElem?_eq_getElem (by rw [HH.out.1]; exact hlt)⟩
        obtain ⟨hkd, hwf, A, hA, d0, dj⟩ := HH.out.2.2 k x hx
        subst hA
        have c0 := pw_cell_below hB.out d0
        have c1 := pw_cell_below hB.out (dj 1 (.int .i64 x.2.own) (by omega) rfl)
        have c2 := pw_cell_below hB.out (dj 2 (.int .i64 x.2.st) (by omega) rfl)
        have c3 := pw_cell_below hB.out (dj 3 (.int .i64 x.2.len) (by omega) rfl)
        have c4 := pw_cell_below hB.out (dj 4 (.bool x.2.ex) (by omega) rfl)
        have hk0 : (0 : Int) ≤ (k : Int) := by omega
        have hk1 : (k : Int) < (len : Int) := by omega
        have hb5 := below_alloc (Below.refl wr.heap.size wr) (.cells (actC x.1 x.2).toArray 53)
        have HDO := Lib.hid (do_any w p mb q wr.heap.size (2 * k) _ _ (HG.out k hk) (by omega) x.1 hkd x.2 hwf (wr.alloc (.cells (actC x.1 x.2).toArray 53)) (below_alloc hB.out _) (by simp) (hP.out.below hb5) (hR.out.below hb5))
        have HX := Lib.hid (And.intro hlt (playF_snoc (mod8_at hx)))
        simp only [actC, actV] at HDO
        clear hx hkd hwf d0 dj hb5 hlt hP hR
        go_wp2_with fail
        refine HDO.out.mono ?_
        rintro e w5 ⟨rfl, hP5, hR5, hB5⟩
        have H5 := Lib.hid (And.intro hP5 (And.intro hR5 hB5))
        clear hP5 hR5 hB5 c0 c1 c2 c3 c4
        go_wp2
        go_roundw
        case rel => exact ⟨k + 1, by have := HX.out.1; omega, by go_num, Lib.hid (by rw [HX.out.2]; exact H5.out.1), Lib.hid (by rw [HX.out.2]; exact H5.out.2.1), Lib.hid H5.out.2.2⟩
        case measure => have := HX.out.1; simp [RowKit.intOf]; omega
      · obtain rfl : k = len := by omega
        have hgi := HG.out k hk
        obtain ⟨T, hT⟩ : ∃ T, (playF ((mod8 L).take k)).1 = T := ⟨_, rfl⟩
        obtain ⟨Q, hQ⟩ : ∃ Q, (playF ((mod8 L).take k)).2 = Q := ⟨_, rfl⟩
        rw [hT, hQ] at hP hgi
        rw [hT, hQ] at hR
        have HGI := Lib.hid hgi
        clear hlt hgi hT hQ
        go_wp2_with fail
        refine (granted_c HGI.out hP.out).mono ?_
        rintro e w4 ⟨u1, rfl, hr4, hb4⟩
        have H4 := Lib.hid (And.intro hr4 (And.intro (hP.out.below hb4) (And.intro (hR.out.below hb4) (below_back hB.out hb4))))
        clear hr4 hb4
        go_wp2_with fail
        refine (rgranted_c HGI.out (by omega) H4.out.2.2.1).mono ?_
        rintro e w5 ⟨u2, rfl, hr5, hb5⟩
        have H5 := Lib.hid (And.intro (pw_own_below H4.out.1 hb5) (And.intro hr5 (And.intro (H4.out.2.1.below hb5) (And.intro (H4.out.2.2.1.below hb5) (below_back H4.out.2.2.2 hb5)))))
        clear hr5 hb5
        go_wp2_with fail
        refine (same_any _ _ _ _ _ _ H5.out.1 H5.out.2.1).mono ?_
        rintro e w6 ⟨rfl, hb6⟩
        have H6 := Lib.hid (And.intro (H5.out.2.2.1.below hb6) (And.intro (H5.out.2.2.2.1.below hb6) (below_back H5.out.2.2.2.2 hb6)))
        clear hb6
        go_wp2_with fail
        refine (waiting_c HGI.out (by omega) H6.out.1).mono ?_
        rintro e w7 ⟨u3, rfl, hr7, hb7⟩
        have H7 := Lib.hid (And.intro hr7 (And.intro (H6.out.2.1.below hb7) (below_back H6.out.2.2 hb7)))
        clear hr7 hb7
        go_wp2_with fail
        refine (rwaiting_c HGI.out (by omega) H7.out.2.1).mono ?_
        rintro e w8 ⟨u4, rfl, hr8, hb8⟩
        have H8 := Lib.hid (And.intro (pw_own_below H7.out.1 hb8) (And.intro hr8 (below_back H7.out.2.2 hb8)))
        clear hr8 hb8
        go_wp2_with fail
        refine (same_any _ _ _ _ _ _ H8.out.1 H8.out.2.1).mono ?_
        rintro e w9 ⟨rfl, hb9⟩
        have H9 := Lib.hid (below_back H8.out.2.2 hb9)
        clear hb9
        go_wp2
        go_ret
        exact ⟨rfl, H9.out⟩
end
end Go.Proofs.Ytoolflmaaooplaa
