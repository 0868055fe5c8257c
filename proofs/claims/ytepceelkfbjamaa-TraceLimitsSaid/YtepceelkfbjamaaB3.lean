/- TraceRings: the walk of the law. -/
import Derived.Test.YtepceelkfbjamaaB1
import Derived.Test.YtepceelkfbjamaaB2
import Derived.Deep.DeepCutAuto
namespace Go.Proofs.Ytepceelkfbjamaa
open Go.RowKit Go.Proofs.YtepceelkfbjamaaW.PrintWords Go.Proofs.YtepceelkfbjamaaW.PrintLast Go.Proofs.YtepceelkfbjamaaW.PrintMore PTraceFilters FLib

/-- The two rings' blocks lie apart: their types differ. -/
theorem rings_apart {w : World} {g g' base base' : Nat} {v v' : Value} {cap cap' : Nat} {s : RS} {L : List S47} (h : RingAt w g base v cap s) (h' : RefAt w g' base' v' cap' L) : ∀ i, BufFp g v i → ¬ BufFp g' v' i := by
  intro i hi hi'
  have t1 : ∃ cells t, w.heap[i]? = some (.cells cells t (0, 0)) ∧ (t = 82 ∨ t = 47) := by
    rcases hi with rfl | hi
    · exact ⟨_, _, h.1.blk, .inl rfl⟩
    · obtain ⟨c, hc⟩ := Kd.R_typed h.1.row i hi.symm
      exact ⟨c, _, hc, .inr rfl⟩
  have t2 : ∃ cells t, w.heap[i]? = some (.cells cells t (0, 0)) ∧ (t = 84 ∨ t = 49) := by
    rcases hi' with rfl | hi'
    · exact ⟨_, _, h'.blk, .inl rfl⟩
    · obtain ⟨c, hc⟩ := Kd.R_typed h'.row i hi'.symm
      exact ⟨c, _, hc, .inr rfl⟩
  obtain ⟨c1, u1, e1, o1⟩ := t1
  obtain ⟨c2, u2, e2, o2⟩ := t2
  rw [e1] at e2
  rcases o1 with rfl | rfl <;> rcases o2 with rfl | rfl <;> simp at e2

structure Both (w : World) (base g g' cap : Nat) (L : List S47) : Prop where
  ex : ∃ v v' s, RingAt w g base v cap s ∧ RefAt w g' base v' cap L ∧ Sync cap s L
theorem Both.below {w w' : World} {base g g' cap : Nat} {L : List S47} (h : Both w base g g' cap L) (hb : Below w.heap.size w w') : Both w' base g g' cap L := by
  obtain ⟨v, v', s, h1, h2, h3⟩ := h
  exact ⟨v, v', s, h1.below hb, h2.below hb, h3⟩

theorem RingAt.fp {w : World} {g base : Nat} {v : Value} {cap : Nat} {s : RS} (h : RingAt w g base v cap s) : ∀ i, BufFp g v i → base ≤ i := by
  rintro i (rfl | hi)
  · exact h.1.low
  · exact Kd.R_base h.1.row i hi.symm
theorem RefAt.fp {w : World} {g base : Nat} {v : Value} {cap : Nat} {L : List S47} (h : RefAt w g base v cap L) : ∀ i, BufFp g v i → base ≤ i := by
  rintro i (rfl | hi)
  · exact h.low
  · exact Kd.R_base h.row i hi.symm

structure Half (w : World) (base g g' cap : Nat) (L L2 : List S47) : Prop where
  ex : ∃ v v' s, RingAt w g base v cap s ∧ RefAt w g' base v' cap L ∧ Sync cap s L2
theorem Half.below {w w' : World} {base g g' cap : Nat} {L L2 : List S47} (h : Half w base g g' cap L L2) (hb : Below w.heap.size w w') : Half w' base g g' cap L L2 := by
  obtain ⟨v, v', s, h1, h2, h3⟩ := h
  exact ⟨v, v', s, h1.below hb, h2.below hb, h3⟩

theorem put_both (base g g' cap : Nat) (L x : List S47) (A : Option Addr) (n c : Nat) (w : World) (h : Both w base g g' cap L) (hx : ∀ W, Below base w W → Kd.C k47 W A n x) (hL : L.length + x.length ≤ 1000) (hbase : base ≤ w.heap.size) :
    Calls Try.prog 13 #[.pointer (some ⟨g, 0, none⟩), .slice A n c] w fun e w' => e = .returned (.int .i64 0) ∧ Half w' base g g' cap L (L ++ x) ∧ Below base w w' := by
  obtain rfl := Kd.C_len (hx w (Below.refl _ _))
  obtain ⟨v, v', s, h1, h2, h3⟩ := h
  refine (putAll g base v cap s A c x w h1 (by have := h3.lost; omega) (fun W hk => hx W (hk.below hbase h1.fp))).mono ?_
  rintro e w' ⟨rfl, v2, hr, hk, hm⟩
  exact ⟨rfl, ⟨v2, v', _, hr, h2.keeps hk (fun i hi hi' => rings_apart h1 h2 i hi' hi), h3.puts x⟩, hk.below hbase h1.fp⟩
theorem rput_both (base g g' cap : Nat) (L x : List S47) (A : Option Addr) (n c : Nat) (w : World) (h : Half w base g g' cap L (L ++ x)) (hx : Kd.C k47 w A n x) (hL : L.length + x.length ≤ 1000) (hbase : base ≤ w.heap.size) :
    Calls Try.prog 14 #[.pointer (some ⟨g', 0, none⟩), .slice A n c] w fun e w' => e = .returned (.int .i64 0) ∧ Both w' base g g' cap (L ++ x) ∧ Below base w w' := by
  obtain ⟨v, v', s, h1, h2, h3⟩ := h
  refine (rput_any g' base v' cap L A n c x w h2 hx (by omega)).mono ?_
  rintro e w' ⟨rfl, v2, hr, hk, hm⟩
  exact ⟨rfl, ⟨v, v2, s, h1.keeps hk (fun i hi hi' => rings_apart h1 h2 i hi hi'), hr, h3⟩, hk.below hbase h2.fp⟩
theorem events_both (base g g' cap : Nat) (L : List S47) (w : World) (h : Both w base g g' cap L) :
    Calls Try.prog 17 #[.pointer (some ⟨g, 0, none⟩)] w fun e w' => ∃ v, e = .returned v ∧ Kd.R k47 47 w' w.heap.size (fun _ => True) v (L.drop (L.length - cap)) ∧ Below w.heap.size w w' := by
  obtain ⟨v, v', s, h1, h2, h3⟩ := h
  rw [← h3.all]
  exact events_any g base v cap s w h1
theorem revents_both (base g g' cap : Nat) (L : List S47) (w : World) (h : Both w base g g' cap L) (hL : L.length ≤ 1000) :
    Calls Try.prog 18 #[.pointer (some ⟨g', 0, none⟩)] w fun e w' => ∃ v, e = .returned v ∧ Kd.R k47 49 w' w.heap.size (fun _ => True) v (L.drop (L.length - cap)) ∧ Below w.heap.size w w' := by
  obtain ⟨v, v', s, h1, h2, h3⟩ := h
  exact revents_any g' base v' cap L w h2 h3.ok.2.1 (by omega)
theorem lost_both (base g g' cap : Nat) (L : List S47) (w : World) (h : Both w base g g' cap L) :
    Calls Try.prog 19 #[.pointer (some ⟨g, 0, none⟩)] w fun e w' => e = .returned (.int .i64 (L.length - cap : Nat)) ∧ Below w.heap.size w w' := by
  obtain ⟨v, v', s, h1, h2, h3⟩ := h
  refine (lost_any g base v cap s w h1).mono ?_
  rintro e w' ⟨rfl, rfl⟩
  exact ⟨by rw [h3.lost], Below.refl _ _⟩
theorem rlost_both (base g g' cap : Nat) (L : List S47) (w : World) (h : Both w base g g' cap L) :
    Calls Try.prog 20 #[.pointer (some ⟨g', 0, none⟩)] w fun e w' => e = .returned (.int .i64 (L.length - cap : Nat)) ∧ Below w.heap.size w w' := by
  obtain ⟨v, v', s, h1, h2, h3⟩ := h
  exact rlost_any g' base v' cap L w h2 h3.ok.2.1

def u8K : Kd Int := Kd.int .u8
theorem u8_at {w : World} {A : Option Addr} {n : Nat} {zs : List Int} (h : Kd.C u8K w A n zs) (i : Nat) (hi : i < n) : ∃ ad, A = some ad ∧ w.cell? (ad.add i) = some (.int .u8 (zs.getD i 0)) := by
  obtain ⟨ad, c, e, hl, hK, hc⟩ := Kd.C_get h (0 : Int) (i : Int) (by omega) (by omega)
  have hK' : c = [.int .u8 (zs.getD (i : Int).toNat 0)] := hK
  rw [Int.toNat_natCast] at hK'
  subst hK'
  refine ⟨ad, e, ?_⟩
  have := hc 0 _ rfl
  simpa [u8K, show (Kd.int .u8).sz = 1 from rfl] using this

set_option maxRecDepth 100000 in
set_option maxHeartbeats 6400000 in
theorem rings_ok (n0 : Int) (A B : Option Addr) (n m c d : Nat) (l : List S47) (zs : List Int) (w : World) (hC : Kd.C k47 w A n l) (hn : n ≤ c) (hZ : Kd.C u8K w B m zs) (hz : ∀ z ∈ zs, 0 ≤ z ∧ z ≤ 255) (h1 : 1 ≤ n0) (h2 : n0 ≤ 10000) (h3 : n ≤ 300) :
    Calls Try.prog 3 #[.int .i64 n0, .slice A n c, .slice B m d] w fun e w' => e = .returned (.bool true) ∧ Below w.heap.size w w' := by
  obtain ⟨cap, rfl⟩ := Int.eq_ofNat_of_zero_le (show 0 ≤ n0 by omega)
  obtain rfl := Kd.C_len hC
  obtain rfl := Kd.C_len hZ
  have hzm := Kd.C_max hZ
  have hc1 : 1 ≤ cap := by omega
  have hc2 : cap ≤ 10000 := by omega
  have HC := Lib.hid hC
  have HZ := Lib.hid hZ
  have HZB := Lib.hid hz
  have hlen : (l.length : Int) ≤ 300 := by omega
  have hzl : (zs.length : Int) ≤ 9223372036854775807 := by omega
  have hnc : (l.length : Int) ≤ (c : Int) := by omega
  clear hC hZ hz
  go_enter Try.func3, Try.ntmps3
  go_wp2_with (first
    | (go_at_call 11; refine (newRing_ok _ _ h1 h2).mono ?_; rintro e w1 ⟨rfl, rfl⟩)
    | (go_at_call 12; refine (rnew_ok _ _ h1 h2).mono ?_; rintro e w1 ⟨rfl, rfl⟩))
  have hB0 : Both ((w.alloc (.cells #[.slice none 0 0, .int .i64 0, .int .i64 cap, .int .i64 0] 82)).alloc (.cells #[.int .i64 cap, .slice none 0 0] 84)) w.heap.size w.heap.size (w.heap.size + 1) cap [] :=
    ⟨.slice none 0 0, .slice none 0 0, ⟨[], 0, 0⟩, (newRing_at cap w.heap.size w (Nat.le_refl _) hc1 hc2).below (below_alloc (Below.refl _ _) _),
      ⟨by simpa using blk_new (w.alloc (.cells #[.slice none 0 0, .int .i64 0, .int .i64 cap, .int .i64 0] 82)) (.cells #[.int .i64 cap, .slice none 0 0] 84), Kd.R_nil _ _ _ _ _, by omega, by simp; omega⟩, Sync.new cap hc1 hc2⟩
  have HB0 := Lib.hid hB0
  clear hB0
  go_loopw [1, 11] (fun s i wr => ∃ (k j r c' : Nat) (A' : Option Addr), j ≤ 300 ∧ i = .int .i64 j ∧ s = .slice A' r c' ∧ r ≤ 300 ∧ r ≤ c' ∧ Hid (k + r = l.length ∧ Kd.C k47 w A' r (l.drop k)) ∧ Hid (Both wr w.heap.size w.heap.size (w.heap.size + 1) cap (l.take k)) ∧ Hid (Below w.heap.size w wr)) (fun _ i _ => 301 - (intOf i).toNat)
  case atStart => exact ⟨0, 0, l.length, c, A, by omega, rfl, rfl, h3, hn, ⟨by omega, HC.out⟩, by rw [List.take_zero]; exact HB0.out, below_alloc (below_alloc (Below.refl _ _) _) _⟩
  case round =>
    obtain ⟨k, j, r, c', A', hj, rfl, rfl, hr3, hrc, HKC, HBO, HBW⟩ := hrel
    clear HB0
    by_cases hr : 0 < r
    · have hrI : (0 : Int) < (r : Int) := by omega
      have hrc' : (r : Int) ≤ (c' : Int) := by omega
      have hr3' : (r : Int) ≤ 300 := by omega
      have hj' : (j : Int) ≤ 300 := by omega
      go_upto_region 11 with (fail)
      go_cut [56] (fun t W => W = wr ∧ ∃ b : Bool, t = .bool b ∧ Hid (b = true → ∃ (bd : Addr) (p : Nat), B = some bd ∧ j < zs.length ∧ wr.cell? (bd.add j) = some (.int .u8 p) ∧ p < r))
      case first =>
        by_cases hjz : j < zs.length
        · obtain ⟨bd, rfl, cz⟩ := u8_at (Kd.C_below HZ.out HBW.out) j hjz
          obtain ⟨z0, z1⟩ := HZB.out (zs.getD j 0) (by simp [List.getD, hjz])
          obtain ⟨p, hp⟩ := Int.eq_ofNat_of_zero_le z0
          rw [hp] at cz z1
          have hjz' : (j : Int) < (zs.length : Int) := by omega
          clear hp z0
          by_cases hpr : (p : Int) < (r : Int)
          · go_wp2
            go_meet
            exact ⟨rfl, true, rfl, fun _ => ⟨bd, p, rfl, hjz, cz, by omega⟩⟩
          · go_wp2
            go_meet
            exact ⟨rfl, false, rfl, fun h => by cases h⟩
        · go_wp2
          go_meet
          exact ⟨rfl, false, rfl, fun h => by cases h⟩
      case rest =>
        obtain ⟨rfl, b, rfl, hb⟩ := hcut
        go_upto_if 56 with (fail)
        go_cut [12] (fun q W => W = wc ∧ ∃ mm : Nat, mm ≤ r ∧ q = .int .i64 mm)
        case first =>
          cases b with
          | true =>
            obtain ⟨bd, p, rfl, hjz, cz, hpr⟩ := hb rfl
            have hjz' : (j : Int) < (zs.length : Int) := by omega
            have hj0 : (0 : Int) ≤ (j : Int) := by omega
            clear hb
            go_wp2
            go_meet
            exact ⟨rfl, p, by omega, rfl⟩
          | false =>
            clear hb
            go_wp2
            go_meet
            exact ⟨rfl, r, Nat.le_refl _, rfl⟩
        case rest =>
          clear hb
          obtain ⟨rfl, mm, hmr, rfl⟩ := hcut
          have hm0 : (0 : Int) ≤ (mm : Int) := by omega
          have hm1 : (mm : Int) ≤ (r : Int) := by omega
          have hm2 : (mm : Int) ≤ (c' : Int) := by omega
          obtain ⟨hkr, hCk⟩ := HKC.out
          have hdl : (l.drop k).length = r := by rw [List.length_drop]; omega
          have hCx : Kd.C k47 w A' mm ((l.drop k).take mm) := by
            have h := Kd.C_take (hdl ▸ hCk : Kd.C k47 w A' (l.drop k).length (l.drop k)) (m := mm) (by omega)
            rwa [List.length_take, Nat.min_eq_left (by omega)] at h
          have htk : l.take (k + mm) = l.take k ++ (l.drop k).take mm := List.take_add
          have hll : (l.take k).length + ((l.drop k).take mm).length ≤ 1000 := by simp; omega
          generalize hxx : (l.drop k).take mm = x at hCx htk hll
          have hBd : Below w.heap.size w wc.drew := below_drew HBW.out
          have hCX : ∀ W, Below w.heap.size wc.drew W → Kd.C k47 W A' mm x := fun W h => Kd.C_below hCx (hBd.trans h)
          have hmn : mm ≤ 1000000 := by omega
          generalize hD : (if c' = mm then A' else A'.map (fun x => x.add (mm * 6))) = D
          have hDC : Kd.C k47 w D (r - mm) (l.drop (k + mm)) := by
            have h := Kd.C_drop (hdl ▸ hCk : Kd.C k47 w A' (l.drop k).length (l.drop k)) (m := mm) (c := c') (by omega) (by omega)
            rw [List.length_drop, List.drop_drop, hdl] at h
            rw [← hD]; exact h
          have HDC := Lib.hid (And.intro (show k + mm + (r - mm) = l.length by omega) hDC)
          clear hDC
          have HX := Lib.hid hxx
          have HCX := Lib.hid hCX
          have HT := Lib.hid htk
          have HLL := Lib.hid hll
          have HBD := Lib.hid hBd
          have HBO2 := Lib.hid (HBO.out.below (below_drew (Below.refl _ wc)))
          generalize hL0 : l.take k = L0 at *
          have HL0 := Lib.hid hL0
          obtain ⟨y, hy⟩ : ∃ y, (L0 ++ x).drop ((L0 ++ x).length - cap) = y := ⟨_, rfl⟩
          have HY := Lib.hid hy
          clear hy
          obtain ⟨lost, hLn⟩ : ∃ q, (L0 ++ x).length - cap = q := ⟨_, rfl⟩
          have HLN := Lib.hid hLn
          clear hxx hCx htk hll hBd hCX hkr hCk hdl hL0 hLn
          go_wp2
          go_region_held3 (fun _ => True) (exact trivial)
            (first
              | (go_at_call 13; refine (put_both w.heap.size w.heap.size (w.heap.size + 1) cap L0 x A' mm c' _ HBO2.out HCX.out HLL.out HBD.out.size).mono ?_; rintro e w1 ⟨rfl, hH1, hb1⟩; have H1 := Lib.hid hH1; clear hH1)
              | (go_at_call 15; refine (from_any _ _ _ x _ (HCX.out _ hb1) hmn).mono ?_; rintro e w2 ⟨v2, rfl, hR2, hb2⟩; obtain ⟨A2, c2, rfl, hC2⟩ := R_sliceC hR2)
              | (go_at_call 14; refine (rput_both w.heap.size w.heap.size (w.heap.size + 1) cap L0 x _ _ _ _ (H1.out.below hb2) hC2 HLL.out (Nat.le_trans HBD.out.size (Nat.le_trans hb1.size hb2.size))).mono ?_; rintro e w3 ⟨rfl, hH3, hb3⟩; have H3 := Lib.hid hH3; clear hH3)
              | (go_at_call 17; refine (events_both w.heap.size w.heap.size (w.heap.size + 1) cap (L0 ++ x) _ H3.out).mono ?_; rintro e w4 ⟨v4, rfl, hR4, hb4⟩; rw [HY.out] at hR4; obtain ⟨A4, c4, rfl, hC4⟩ := R_sliceC hR4)
              | (go_at_call 18; refine (revents_both w.heap.size w.heap.size (w.heap.size + 1) cap (L0 ++ x) _ (H3.out.below hb4) (by simp; have := HLL.out; omega)).mono ?_; rintro e w5 ⟨v5, rfl, hR5, hb5⟩; rw [HY.out] at hR5; obtain ⟨A5, c5, rfl, hC5⟩ := R_sliceC hR5)
              | (go_at_call 16; refine (same_any _ _ _ _ _ _ _ _ (Kd.C_below hC4 hb5) hC5).mono ?_; rintro e w6 ⟨rfl, hb6⟩)
              | (go_at_call 19; refine (lost_both w.heap.size w.heap.size (w.heap.size + 1) cap (L0 ++ x) _ (((H3.out.below hb4).below hb5).below hb6)).mono ?_; rw [HLN.out]; rintro e w7 ⟨rfl, hb7⟩)
              | (go_at_call 20; refine (rlost_both w.heap.size w.heap.size (w.heap.size + 1) cap (L0 ++ x) _ ((((H3.out.below hb4).below hb5).below hb6).below hb7)).mono ?_; rw [HLN.out]; rintro e w8 ⟨rfl, hb8⟩))
          have hs3 : Below w.heap.size w w3 := ((HBD.out.trans hb1).trans (hb2.mono (HBD.out.trans hb1).size)).trans hb3
          have e4 := below_then hs3 hs3.size hb4
          have e5 := below_then e4 e4.size hb5
          have e6 := below_then e5 e5.size hb6
          have e7 := below_then e6 e6.size hb7
          have HE := Lib.hid (below_then e7 e7.size hb8)
          have HB8 := Lib.hid (HT.out ▸ (((((H3.out.below hb4).below hb5).below hb6).below hb7).below hb8))
          have HF : Hid (Both w8 w.heap.size w.heap.size (w.heap.size + 1) cap (l.take (k + mm))) := Lib.hid (by rw [HT.out]; exact ((((H3.out.below hb4).below hb5).below hb6).below hb7).below hb8)
          clear hs3 e4 e5 e6 e7 HB8 hb1 hb2 hb3 hb4 hb5 hb6 hb7 hb8 hR2 hC2 hR4 hC4 hR5 hC5 HBO HBO2 H1 H3 HCX HX HY HLN HL0 HT HKC HBW
          by_cases hj3 : (300 : Int) ≤ (j : Int)
          · go_wp2_with (go_at_call 10; refine (awake_any _).mono ?_; rintro e w9 ⟨rfl, hb9⟩)
            go_ret
            exact ⟨rfl, below_then HE.out HE.out.size hb9⟩
          · go_wp2
            go_roundw
            case rel => exact ⟨k + mm, j + 1, r - mm, c' - mm, D, by omega, by go_num, rfl, by omega, by omega, HDC, HF, HE⟩
            case measure => simp [intOf]; omega
    · obtain rfl : r = 0 := by omega
      go_wp2_with (go_at_call 10; refine (awake_any _).mono ?_; rintro e w1 ⟨rfl, hb1⟩)
      go_ret
      exact ⟨rfl, below_then HBW.out HBW.out.size hb1⟩
end Go.Proofs.Ytepceelkfbjamaa
