/- From, same, the filters. -/
import Derived.Test.YtepceelkfbjamaaA3
import Derived.Test.YtepceelkfbjamaaPTraceFiltersx1
namespace Go.Proofs.Ytepceelkfbjamaa
open Go.RowKit Go.Proofs.YtepceelkfbjamaaW.PrintWords Go.Proofs.YtepceelkfbjamaaW.PrintLast Go.Proofs.YtepceelkfbjamaaW.PrintMore PTraceFilters FLib
attribute [local go_sem high] eqA47

def isK (n : Int) : Bool := decide (0 ≤ n) && decide (n < 9)

theorem isKind_any (n : Int) (w : World) : Calls Try.prog 35 #[.int .i64 n] w fun e w' => e = .returned (.bool (isK n)) ∧ w = w' := by
  by_cases h : 0 ≤ n
  · go_enter Try.func35, Try.ntmps35
    go_wp2
    go_ret
    exact ⟨by simp [isK, h], rfl⟩
  · go_enter Try.func35, Try.ntmps35
    go_wp2
    go_ret
    exact ⟨by simp [isK]; omega, rfl⟩
theorem kind_any (n : Int) (w : World) : Calls Try.prog 36 #[.int .i64 n] w fun e w' => e = .returned (.bool (isK n)) ∧ w = w' := by
  by_cases h : 0 ≤ n
  · go_enter Try.func36, Try.ntmps36
    go_wp2
    go_ret
    exact ⟨by simp [isK, h], rfl⟩
  · go_enter Try.func36, Try.ntmps36
    go_wp2
    go_ret
    exact ⟨by simp [isK]; omega, rfl⟩

theorem take_snoc (l : List S47) (k : Nat) (h : k < l.length) : l.take (k + 1) = l.take k ++ [rd_T47 l k] := by
  rw [List.take_add_one, rd_get l k h]; rfl

set_option maxRecDepth 100000 in
set_option maxHeartbeats 1600000 in
theorem from_any (A : Option Addr) (n c : Nat) (l : List S47) (w : World) (hC : Kd.C k47 w A n l) (hn : n ≤ 1000000) :
    Calls Try.prog 15 #[.slice A n c] w fun e w' => ∃ v, e = .returned v ∧ Kd.R k47 49 w' w.heap.size (fun _ => True) v l ∧ Below w.heap.size w w' := by
  obtain rfl := Kd.C_len hC
  obtain ⟨i0, hi0, hz0, hz1, hz2⟩ := info_parts info49
  have HC := Lib.hid hC
  have hlen : (l.length : Int) ≤ 1000000 := by omega
  clear hC
  go_enter Try.func15, Try.ntmps15
  go_wp2
  go_loopw [3, 4] (fun v i wr => ∃ k : Nat, k ≤ l.length ∧ i = .int .i64 k ∧ Kd.R k47 49 wr w.heap.size (fun _ => True) v (l.take k) ∧ Below w.heap.size w wr) (fun _ i _ => l.length - (intOf i).toNat)
  case atStart => exact ⟨0, Nat.zero_le _, rfl, Kd.R_nil _ _ _ _ _, Below.refl _ _⟩
  case round =>
    obtain ⟨k, hk, rfl, hR, hB⟩ := hrel
    by_cases hlt : k < l.length
    · obtain ⟨ad, rfl, c0, c1, c2, c3, c4, c5⟩ := at_T47 (Kd.C_below HC.out hB) (k : Int) (by omega) (by omega)
      simp only [Int.toNat_natCast] at c0 c1 c2 c3 c4 c5
      have hi0 : (0 : Int) ≤ (k : Int) := by omega
      have hi1 : (k : Int) < (l.length : Int) := by omega
      have hts := take_snoc l k hlt
      generalize hx : rd_T47 l k = x at c0 c1 c2 c3 c4 c5 hts
      have hl2 : (l.take k).length ≤ k := List.length_take_le _ _
      have HX := Lib.hid hx
      have HR := Lib.hid hR
      have HB := Lib.hid hB
      have HT := Lib.hid hts
      clear hx hR hB hts
      go_wp2_with (at_builtin; refine Kd.R_append k47 (w0 := w) (W := wr) w.heap.size rfl (.tmp 11) (.tmp 16) 34 49 _ 48 rfl Try.underlying34 info49 rfl (by decide) (by decide) _ (l.take k) x (evCells x) (fun _ => True) (fun _ => False) rfl rfl (k47_mkM _ _ _ x) (fun _ h => h.elim) (fun _ _ => trivial) HR.out HB.out HB.out.size (by omega) ?_; intro v1 w1 hR1 hB1 _ _)
      rw [← HT.out] at hR1
      have HR1 := Lib.hid hR1
      have HB1 := Lib.hid hB1
      clear hR1 hB1 c0 c1 c2 c3 c4 c5
      go_wp2
      go_roundw
      case rel => exact ⟨k + 1, by omega, by go_num, HR1.out, HB1.out⟩
      case measure => simp [intOf]; omega
    · have : k = l.length := by omega
      subst this
      rw [List.take_length] at hR
      go_wp2
      go_ret
      exact ⟨_, rfl, hR, hB⟩

set_option maxRecDepth 100000 in
set_option maxHeartbeats 1600000 in
/-- Equal lists are told to be the same. -/
theorem same_any (A B : Option Addr) (n m c d : Nat) (l : List S47) (w : World) (hA : Kd.C k47 w A n l) (hB : Kd.C k47 w B m l) :
    Calls Try.prog 16 #[.slice A n c, .slice B m d] w fun e w' => e = .returned (.bool true) ∧ Below w.heap.size w w' := by
  obtain rfl := Kd.C_len hA
  obtain rfl := Kd.C_len hB
  have hm := Kd.C_max hA
  have HA := Lib.hid hA
  have HB := Lib.hid hB
  have hlen : (l.length : Int) ≤ 9223372036854775807 := by omega
  clear hA hB
  go_enter Try.func16, Try.ntmps16
  go_wp2
  go_loopw [5] (fun i wr => ∃ k : Nat, k ≤ l.length ∧ i = .int .i64 k ∧ Hid (Below w.heap.size w wr)) (fun i _ => l.length - (intOf i).toNat)
  case atStart => exact ⟨0, Nat.zero_le _, rfl, Below.refl _ _⟩
  case round =>
    obtain ⟨k, hk, rfl, HW⟩ := hrel
    by_cases hlt : k < l.length
    · obtain ⟨ad, rfl, c0, c1, c2, c3, c4, c5⟩ := at_T47 (Kd.C_below HA.out HW.out) (k : Int) (by omega) (by omega)
      obtain ⟨bd, rfl, d0, d1, d2, d3, d4, d5⟩ := at_T47 (Kd.C_below HB.out HW.out) (k : Int) (by omega) (by omega)
      simp only [Int.toNat_natCast] at c0 c1 c2 c3 c4 c5 d0 d1 d2 d3 d4 d5
      have hi0 : (0 : Int) ≤ (k : Int) := by omega
      have hi1 : (k : Int) < (l.length : Int) := by omega
      generalize hx : rd_T47 l k = x at c0 c1 c2 c3 c4 c5 d0 d1 d2 d3 d4 d5
      have HX := Lib.hid hx
      clear hx
      go_wp2
      go_quiet (fail)
      have HW2 : Hid (Below w.heap.size w (wr.drewN nq)) := Lib.hid (pw_below_drewN HW.out nq)
      clear c0 c1 c2 c3 c4 c5 d0 d1 d2 d3 d4 d5 HW
      go_wp2
      go_roundw
      case rel => exact ⟨k + 1, by omega, by go_num, HW2⟩
      case measure => simp [intOf]; omega
    · go_wp2
      go_ret
      exact ⟨rfl, HW.out⟩

theorem isKind_eq (n : Int) (b : Bool) (h : isK n = b) (w : World) : Calls Try.prog 35 #[.int .i64 n] w fun e w' => e = .returned (.bool b) ∧ w = w' := h ▸ isKind_any n w
theorem kind_eq (n : Int) (b : Bool) (h : isK n = b) (w : World) : Calls Try.prog 36 #[.int .i64 n] w fun e w' => e = .returned (.bool b) ∧ w = w' := h ▸ kind_any n w

theorem bit_one (n : Int) (h0 : 0 ≤ n) (h1 : n < 4294967296) : Go.bits .and .u32 n 1 = n % 2 := by
  obtain ⟨a, rfl⟩ := Int.eq_ofNat_of_zero_le h0
  have e1 : (BitVec.ofInt 32 (a : Int)).toNat = a := by
    rw [BitVec.ofInt_natCast, BitVec.toNat_ofNat]; exact Nat.mod_eq_of_lt (by omega)
  have e2 : (BitVec.ofInt 32 1).toNat = 1 := rfl
  show IntKind.u32.wrap ((BitVec.ofInt 32 (a : Int) &&& BitVec.ofInt 32 1).toNat : Int) = _
  rw [BitVec.toNat_and, e1, e2, IntKind.wrap_u32, Nat.and_one_is_mod]
  omega
theorem shr_lt (n : Int) (k : Nat) (h0 : 0 ≤ n) (h1 : n < 4294967296) : 0 ≤ n / 2 ^ k ∧ n / 2 ^ k < 4294967296 := by
  have hp : (0 : Int) < 2 ^ k := Int.pow_pos (by omega)
  refine ⟨Int.ediv_nonneg h0 (by omega), ?_⟩
  exact Int.lt_of_le_of_lt (Int.ediv_le_self _ h0) h1

structure Fil where
  kinds : Int
  thread : Int
  processor : Int
  lo : Int
  hi : Int
def filV (f : Fil) : Value := .agg #[.int .u32 f.kinds, .int .i64 f.thread, .int .i64 f.processor, .int .i64 f.lo, .int .i64 f.hi]
def Fil.Ok (f : Fil) : Prop := 0 ≤ f.kinds ∧ f.kinds < 4294967296
def accB (f : Fil) (x : S47) : Bool :=
  isK x.f1 && (decide (f.kinds / 2 ^ x.f1.toNat % 2 = 1) && ((decide (f.thread = -1) || decide (f.thread = x.f3)) && ((decide (f.processor = -1) || decide (f.processor = x.f2)) && (decide (f.lo ≤ x.f0) && decide (x.f0 < f.hi)))))

set_option maxRecDepth 100000 in
set_option maxHeartbeats 1600000 in
theorem accepts_any (f : Fil) (hf : f.Ok) (x : S47) (w : World) : Calls Try.prog 21 #[filV f, evV x] w fun e w' => e = .returned (.bool (accB f x)) ∧ Below w.heap.size w w' := by
  obtain ⟨hf0, hf1⟩ := hf
  unfold filV evV
  cases hk : isK x.f1 with
  | false =>
    have HK := Lib.hid hk
    clear hk
    go_enter Try.func21, Try.ntmps21
    go_wp2_with (go_at_call 35; refine (isKind_eq _ false HK.out _).mono ?_; rintro e w' ⟨rfl, rfl⟩)
    go_ret
    exact ⟨by simp [accB, HK.out], below_alloc (below_alloc (Below.refl _ _) _) _⟩
  | true =>
    have hk0 : 0 ≤ x.f1 := by simp [isK] at hk; omega
    have hk1 : x.f1 < 9 := by simp [isK] at hk; omega
    have HK := Lib.hid hk
    have HD := Lib.hid (bit_one (f.kinds / 2 ^ x.f1.toNat) (shr_lt _ _ hf0 hf1).1 (shr_lt _ _ hf0 hf1).2)
    clear hk
    go_enter Try.func21, Try.ntmps21
    go_wp2_with (go_at_call 35; refine (isKind_eq _ true HK.out _).mono ?_; rintro e w' ⟨rfl, rfl⟩)
    all_goals go_ret
    all_goals refine ⟨?_, below_alloc (below_alloc (Below.refl _ _) _) _⟩
    all_goals
      have hd := HD.out
      have hkk := HK.out
      clear HD HK
      simp_all [accB]
      try omega

theorem half_step (n : Int) (k : Nat) : n / 2 ^ k / 2 = n / 2 ^ (k + 1) := by
  have hp : (0 : Int) < 2 ^ k := Int.pow_pos (by omega)
  rw [Int.ediv_ediv, if_neg (by omega), Int.sub_zero, Int.pow_succ]

set_option maxRecDepth 100000 in
set_option maxHeartbeats 1600000 in
theorem raccepts_any (f : Fil) (hf : f.Ok) (x : S47) (w : World) : Calls Try.prog 22 #[filV f, evV x] w fun e w' => e = .returned (.bool (accB f x)) ∧ Below w.heap.size w w' := by
  obtain ⟨hf0, hf1⟩ := hf
  unfold filV evV
  cases hk : isK x.f1 with
  | false =>
    have HK := Lib.hid hk
    clear hk
    go_enter Try.func22, Try.ntmps22
    go_wp2_with (go_at_call 36; refine (kind_eq _ false HK.out _).mono ?_; rintro e w' ⟨rfl, rfl⟩)
    go_ret
    exact ⟨by simp [accB, HK.out], below_alloc (below_alloc (Below.refl _ _) _) _⟩
  | true =>
    have hk0 : 0 ≤ x.f1 := by simp [isK] at hk; omega
    have hk1 : x.f1 < 9 := by simp [isK] at hk; omega
    have HK := Lib.hid hk
    clear hk
    go_enter Try.func22, Try.ntmps22
    go_wp2_with (go_at_call 36; refine (kind_eq _ true HK.out _).mono ?_; rintro e w' ⟨rfl, rfl⟩)
    go_loop [5, 6] (fun b i => ∃ k : Nat, k ≤ x.f1.toNat ∧ i = .int .i64 k ∧ ∃ n : Int, n = f.kinds / 2 ^ k ∧ b = .int .u32 n) (fun _ i => x.f1.toNat - (intOf i).toNat)
    case atStart => exact ⟨0, Nat.zero_le _, rfl, f.kinds, by simp, rfl⟩
    case round =>
      obtain ⟨k, hkk, rfl, n, hn, rfl⟩ := hrel
      have hb := shr_lt f.kinds k hf0 hf1
      rw [← hn] at hb
      obtain ⟨hb0, hb1⟩ := hb
      have HN := Lib.hid hn
      clear hn
      by_cases hlt : (k : Int) < x.f1
      · go_wp2
        go_round
        case rel => exact ⟨k + 1, by omega, by go_num, n / 2, by rw [HN.out]; exact half_step _ _, by go_num⟩
        case measure => simp [intOf]; omega
      · have hkx : k = x.f1.toNat := by omega
        go_wp2
        all_goals go_ret
        all_goals refine ⟨?_, below_alloc (below_alloc (Below.refl _ _) _) _⟩
        all_goals
          have hd := HN.out
          have hkk := HK.out
          subst hkx
          clear HN HK
          simp_all [accB]
          try omega

theorem accepts_eq (f : Fil) (hf : f.Ok) (x : S47) (b : Bool) (h : accB f x = b) (w : World) : Calls Try.prog 21 #[filV f, evV x] w fun e w' => e = .returned (.bool b) ∧ Below w.heap.size w w' := h ▸ accepts_any f hf x w
theorem raccepts_eq (f : Fil) (hf : f.Ok) (x : S47) (b : Bool) (h : accB f x = b) (w : World) : Calls Try.prog 22 #[filV f, evV x] w fun e w' => e = .returned (.bool b) ∧ Below w.heap.size w w' := h ▸ raccepts_any f hf x w
end Go.Proofs.Ytepceelkfbjamaa
