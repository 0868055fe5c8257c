/- TraceRings at a capacity that is refused. -/
import Derived.Test.YtepceelkfbjamaaB3
namespace Go.Proofs.Ytepceelkfbjamaa
open Go.RowKit Go.Proofs.YtepceelkfbjamaaW.PrintWords Go.Proofs.YtepceelkfbjamaaW.PrintLast Go.Proofs.YtepceelkfbjamaaW.PrintMore PTraceFilters FLib

theorem newRing_bad' (n : Int) (w : World) (h : n < 1 ∨ 10000 < n) : Calls Try.prog 11 #[.int .i64 n] w fun e w' => e = .returned (.tuple #[.pointer none, .int .i64 34]) ∧ w = w' := (newRing_bad n w h).mono fun _ _ ⟨a, b⟩ => ⟨a, b.symm⟩
theorem rnew_bad' (n : Int) (w : World) (h : n < 1 ∨ 10000 < n) : Calls Try.prog 12 #[.int .i64 n] w fun e w' => e = .returned (.tuple #[.pointer none, .int .i64 34]) ∧ w = w' := (rnew_bad n w h).mono fun _ _ ⟨a, b⟩ => ⟨a, b.symm⟩
theorem put_nil' (A : Option Addr) (n c : Nat) (w : World) : Calls Try.prog 13 #[.pointer none, .slice A n c] w fun e w' => e = .returned (.int .i64 35) ∧ w = w' := (put_nil A n c w).mono fun _ _ ⟨a, b⟩ => ⟨a, b.symm⟩
theorem rput_nil' (A : Option Addr) (n c : Nat) (w : World) : Calls Try.prog 14 #[.pointer none, .slice A n c] w fun e w' => e = .returned (.int .i64 35) ∧ w = w' := (rput_nil A n c w).mono fun _ _ ⟨a, b⟩ => ⟨a, b.symm⟩
theorem events_nil' (w : World) : Calls Try.prog 17 #[.pointer none] w fun e w' => e = .returned (.slice none 0 0) ∧ w = w' := (events_nil w).mono fun _ _ ⟨a, b⟩ => ⟨a, b.symm⟩
theorem revents_nil' (w : World) : Calls Try.prog 18 #[.pointer none] w fun e w' => e = .returned (.slice none 0 0) ∧ w = w' := (revents_nil w).mono fun _ _ ⟨a, b⟩ => ⟨a, b.symm⟩
theorem lost_nil' (w : World) : Calls Try.prog 19 #[.pointer none] w fun e w' => e = .returned (.int .i64 0) ∧ w = w' := (lost_nil w).mono fun _ _ ⟨a, b⟩ => ⟨a, b.symm⟩

set_option maxRecDepth 100000 in
set_option maxHeartbeats 6400000 in
theorem rings_bad (n0 : Int) (A B : Option Addr) (n m c d : Nat) (l : List S47) (zs : List Int) (w : World) (hC : Kd.C k47 w A n l) (hn : n ≤ c) (hZ : Kd.C u8K w B m zs) (hz : ∀ z ∈ zs, 0 ≤ z ∧ z ≤ 255) (h1 : n0 < 1 ∨ 10000 < n0) (h3 : n ≤ 300) :
    Calls Try.prog 3 #[.int .i64 n0, .slice A n c, .slice B m d] w fun e w' => e = .returned (.bool true) ∧ Below w.heap.size w w' := by
  obtain rfl := Kd.C_len hC
  obtain rfl := Kd.C_len hZ
  have hzm := Kd.C_max hZ
  have HC := Lib.hid hC
  have HZ := Lib.hid hZ
  have HZB := Lib.hid hz
  have hlen : (l.length : Int) ≤ 300 := by omega
  have hzl : (zs.length : Int) ≤ 9223372036854775807 := by omega
  have hnc : (l.length : Int) ≤ (c : Int) := by omega
  clear hC hZ hz
  go_enter Try.func3, Try.ntmps3
  go_wp2_with (first
    | (go_at_call 11; refine (newRing_bad' _ _ h1).mono ?_; rintro e w1 ⟨rfl, rfl⟩)
    | (go_at_call 12; refine (rnew_bad' _ _ h1).mono ?_; rintro e w1 ⟨rfl, rfl⟩))
  go_loopw [1, 11] (fun s i wr => ∃ (k j r c' : Nat) (A' : Option Addr), j ≤ 300 ∧ i = .int .i64 j ∧ s = .slice A' r c' ∧ r ≤ 300 ∧ r ≤ c' ∧ Hid (k + r = l.length ∧ Kd.C k47 w A' r (l.drop k)) ∧ Hid (Below w.heap.size w wr)) (fun _ i _ => 301 - (intOf i).toNat)
  case atStart => exact ⟨0, 0, l.length, c, A, by omega, rfl, rfl, h3, hn, ⟨by omega, HC.out⟩, Below.refl _ _⟩
  case round =>
    obtain ⟨k, j, r, c', A', hj, rfl, rfl, hr3, hrc, HKC, HBW⟩ := hrel
    by_cases hr : 0 < r
    · have hrI : (0 : Int) < (r : Int) := by omega
      have hrc' : (r : Int) ≤ (c' : Int) := by omega
      have hr3' : (r : Int) ≤ 300 := by omega
      have hj' : (j : Int) ≤ 300 := by omega
      go_upto_region 11 with (fail)
      go_cut [56] (fun t W => W = wr ∧ ∃ b : Bool, t = .bool b ∧ Hid (b = true → ∃ (bd : Addr) (p : Nat), B = some bd ∧ j < zs.length ∧ wr.cell? (bd.add j) = some (.int .u8 p) ∧ p < r))
      case first =>
        by_cases hjz : j < zs.length
        · obtain ⟨bd, rfl, cz⟩ := u8_at (Kd.C_below HZ.out HBW.out) j hjz
          obtain ⟨z0, z1⟩ := HZB.out (zs.getD j 0) (by simp [List.getD, hjz])
          obtain ⟨p, hp⟩ := Int.eq_ofNat_of_zero_le z0
          rw [hp] at cz z1
          have hjz' : (j : Int) < (zs.length : Int) := by omega
          clear hp z0
          by_cases hpr : (p : Int) < (r : Int)
          · go_wp2
            go_meet
            exact ⟨rfl, true, rfl, fun _ => ⟨bd, p, rfl, hjz, cz, by omega⟩⟩
          · go_wp2
            go_meet
            exact ⟨rfl, false, rfl, fun h => by cases h⟩
        · go_wp2
          go_meet
          exact ⟨rfl, false, rfl, fun h => by cases h⟩
      case rest =>
        obtain ⟨rfl, b, rfl, hb⟩ := hcut
        go_upto_if 56 with (fail)
        go_cut [12] (fun q W => W = wc ∧ ∃ mm : Nat, mm ≤ r ∧ q = .int .i64 mm)
        case first =>
          cases b with
          | true =>
            obtain ⟨bd, p, rfl, hjz, cz, hpr⟩ := hb rfl
            have hjz' : (j : Int) < (zs.length : Int) := by omega
            have hj0 : (0 : Int) ≤ (j : Int) := by omega
            clear hb
            go_wp2
            go_meet
            exact ⟨rfl, p, by omega, rfl⟩
          | false =>
            clear hb
            go_wp2
            go_meet
            exact ⟨rfl, r, Nat.le_refl _, rfl⟩
        case rest =>
          clear hb
          obtain ⟨rfl, mm, hmr, rfl⟩ := hcut
          have hm0 : (0 : Int) ≤ (mm : Int) := by omega
          have hm1 : (mm : Int) ≤ (r : Int) := by omega
          have hm2 : (mm : Int) ≤ (c' : Int) := by omega
          obtain ⟨hkr, hCk⟩ := HKC.out
          have hdl : (l.drop k).length = r := by rw [List.length_drop]; omega
          have hCx : Kd.C k47 w A' mm ((l.drop k).take mm) := by
            have h := Kd.C_take (hdl ▸ hCk : Kd.C k47 w A' (l.drop k).length (l.drop k)) (m := mm) (by omega)
            rwa [List.length_take, Nat.min_eq_left (by omega)] at h
          generalize (l.drop k).take mm = x at hCx
          have hBd : Below w.heap.size w wc.drew := below_drew HBW.out
          have hCX : ∀ W, Below w.heap.size wc.drew W → Kd.C k47 W A' mm x := fun W h => Kd.C_below hCx (hBd.trans h)
          have hmn : mm ≤ 1000000 := by omega
          generalize hD : (if c' = mm then A' else A'.map (fun x => x.add (mm * 6))) = D
          have hDC : Kd.C k47 w D (r - mm) (l.drop (k + mm)) := by
            have h := Kd.C_drop (hdl ▸ hCk : Kd.C k47 w A' (l.drop k).length (l.drop k)) (m := mm) (c := c') (by omega) (by omega)
            rw [List.length_drop, List.drop_drop, hdl] at h
            rw [← hD]; exact h
          have HDC := Lib.hid (And.intro (show k + mm + (r - mm) = l.length by omega) hDC)
          clear hDC
          have HCX := Lib.hid hCX
          have HBD := Lib.hid hBd
          clear hCx hCX hBd hkr hCk hdl
          go_wp2
          go_region_held3 (fun _ => True) (exact trivial)
            (first
              | (go_at_call 13; refine (put_nil' _ _ _ _).mono ?_; rintro e w1 ⟨rfl, rfl⟩)
              | (go_at_call 15; refine (from_any _ _ _ x _ (HCX.out _ (Below.refl _ _)) hmn).mono ?_; rintro e w2 ⟨v2, rfl, hR2, hb2⟩; obtain ⟨A2, c2, rfl, hC2⟩ := R_sliceC hR2)
              | (go_at_call 14; refine (rput_nil' _ _ _ _).mono ?_; rintro e w3 ⟨rfl, rfl⟩)
              | (go_at_call 17; refine (events_nil' _).mono ?_; rintro e w4 ⟨rfl, rfl⟩)
              | (go_at_call 18; refine (revents_nil' _).mono ?_; rintro e w5 ⟨rfl, rfl⟩)
              | (go_at_call 16; refine (same_any _ _ _ _ _ _ [] _ (Kd.C_nil _ _) (Kd.C_nil _ _)).mono ?_; rintro e w6 ⟨rfl, hb6⟩)
              | (go_at_call 19; refine (lost_nil' _).mono ?_; rintro e w7 ⟨rfl, rfl⟩)
              | (go_at_call 20; refine (rlost_nil _).mono ?_; rintro e w8 ⟨rfl, hb8⟩))
          have e2 := below_then HBD.out HBD.out.size hb2
          have e6 := below_then e2 e2.size hb6
          have HE := Lib.hid (below_then e6 e6.size hb8)
          clear e2 e6 hb2 hb6 hb8 hR2 hC2 HCX HKC HBW
          by_cases hj3 : (300 : Int) ≤ (j : Int)
          · go_wp2_with (go_at_call 10; refine (awake_any _).mono ?_; rintro e w9 ⟨rfl, hb9⟩)
            go_ret
            exact ⟨rfl, below_then HE.out HE.out.size hb9⟩
          · go_wp2
            go_roundw
            case rel => exact ⟨k + mm, j + 1, r - mm, c' - mm, D, by omega, by go_num, rfl, by omega, by omega, HDC, HE⟩
            case measure => simp [intOf]; omega
    · obtain rfl : r = 0 := by omega
      go_wp2_with (go_at_call 10; refine (awake_any _).mono ?_; rintro e w1 ⟨rfl, hb1⟩)
      go_ret
      exact ⟨rfl, below_then HBW.out HBW.out.size hb1⟩

theorem rings_law (n0 : Int) (A B : Option Addr) (n m c d : Nat) (l : List S47) (zs : List Int) (w : World) (hC : Kd.C k47 w A n l) (hn : n ≤ c) (hZ : Kd.C u8K w B m zs) (hz : ∀ z ∈ zs, 0 ≤ z ∧ z ≤ 255) :
    Calls Try.prog 3 #[.int .i64 n0, .slice A n c, .slice B m d] w fun e w' => e = .returned (.bool true) ∧ Below w.heap.size w w' := by
  by_cases h3 : n ≤ 300
  · by_cases h1 : 1 ≤ n0 ∧ n0 ≤ 10000
    · exact rings_ok n0 A B n m c d l zs w hC hn hZ hz h1.1 h1.2 h3
    · exact rings_bad n0 A B n m c d l zs w hC hn hZ hz (by omega) h3
  · have h4 : (300 : Int) < (n : Int) := by omega
    go_enter Try.func3, Try.ntmps3
    go_wp2_with (go_at_call 10; refine (awake_any _).mono ?_; rintro e w1 ⟨rfl, hb1⟩)
    go_ret
    exact ⟨rfl, hb1⟩
end Go.Proofs.Ytepceelkfbjamaa
