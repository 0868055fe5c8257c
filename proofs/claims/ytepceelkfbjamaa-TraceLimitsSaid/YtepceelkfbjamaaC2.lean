/- fits, small, and the search for an event that may not be recorded. -/
import Derived.Test.YtepceelkfbjamaaC1
import Derived.Test.YtepceelkfbjamaaA8
namespace Go.Proofs.Ytepceelkfbjamaa
open Go.RowKit Go.Proofs.YtepceelkfbjamaaW.PrintWords Go.Proofs.YtepceelkfbjamaaW.PrintLast Go.Proofs.YtepceelkfbjamaaW.PrintMore PTraceFilters FLib

theorem fits_eq (n : Int) (b : Bool) (hb : fitB n = b) (h0 : -9223372036854775808 ≤ n) (h1 : n ≤ 9223372036854775807) (w : World) : Calls Try.prog 39 #[.int .i64 n] w fun e w' => e = .returned (.bool b) ∧ w = w' := by
  have HB := Lib.hid hb
  clear hb
  go_enter Try.func39, Try.ntmps39
  go_wp2
  go_ret
  refine ⟨?_, rfl⟩
  rw [← HB.out]
  have e : (n == wrap64 (wrap32 n)) = fitB n := by
    unfold wrap64 wrap32 fitB
    rw [Bool.eq_iff_iff]
    simp
    omega
  simpa using e
theorem small_eq (n : Int) (b : Bool) (hb : fitB n = b) (w : World) : Calls Try.prog 41 #[.int .i64 n] w fun e w' => e = .returned (.bool b) ∧ w = w' := by
  have HB := Lib.hid hb
  clear hb
  by_cases h : -2147483648 ≤ n
  · go_enter Try.func41, Try.ntmps41
    go_wp2
    go_ret
    exact ⟨by rw [← HB.out]; simp [fitB, h], rfl⟩
  · go_enter Try.func41, Try.ntmps41
    go_wp2
    go_ret
    exact ⟨by rw [← HB.out]; simp [fitB]; omega, rfl⟩

def Ev64 (x : S47) : Prop := (-9223372036854775808 ≤ x.f0 ∧ x.f0 ≤ 9223372036854775807) ∧ (-9223372036854775808 ≤ x.f1 ∧ x.f1 ≤ 9223372036854775807) ∧ (-9223372036854775808 ≤ x.f2 ∧ x.f2 ≤ 9223372036854775807) ∧ (-9223372036854775808 ≤ x.f3 ∧ x.f3 ≤ 9223372036854775807) ∧ (-9223372036854775808 ≤ x.f4 ∧ x.f4 ≤ 9223372036854775807) ∧ (-9223372036854775808 ≤ x.f5 ∧ x.f5 ≤ 9223372036854775807)

theorem recB_eq (x : S47) : recB x = (isK x.f1 && (fitB x.f2 && fitB x.f3)) := by simp [recB, isK]

set_option maxRecDepth 100000 in
set_option maxHeartbeats 1600000 in
theorem bad_eq (x : S47) (hx : Ev64 x) (w : World) : Calls Try.prog 38 #[evV x] w fun e w' => e = .returned (.bool (!recB x)) ∧ Below w.heap.size w w' := by
  obtain ⟨-, -, h2, h3, -⟩ := hx
  unfold evV
  have HR := Lib.hid (recB_eq x)
  cases hk : isK x.f1 with
  | false =>
    have HK := Lib.hid hk
    clear hk
    go_enter Try.func38, Try.ntmps38
    go_wp2_with (go_at_call 35; refine (isKind_eq _ false HK.out _).mono ?_; rintro e w' ⟨rfl, rfl⟩)
    go_ret
    exact ⟨by rw [HR.out, HK.out]; rfl, below_alloc (Below.refl _ _) _⟩
  | true =>
    have HK := Lib.hid hk
    clear hk
    cases hf : fitB x.f2 with
    | false =>
      have HF := Lib.hid hf
      clear hf
      go_enter Try.func38, Try.ntmps38
      go_wp2_with (first
        | (go_at_call 35; refine (isKind_eq _ true HK.out _).mono ?_; rintro e w' ⟨rfl, rfl⟩)
        | (go_at_call 39; refine (fits_eq _ false HF.out (by omega) (by omega) _).mono ?_; rintro e w' ⟨rfl, rfl⟩))
      go_ret
      exact ⟨by rw [HR.out, HK.out, HF.out]; rfl, below_alloc (Below.refl _ _) _⟩
    | true =>
      have HF := Lib.hid hf
      clear hf
      have tk1 : True := trivial
      have tk2 : True := trivial
      go_enter Try.func38, Try.ntmps38
      go_wp2_with (first
        | (go_at_call 35; refine (isKind_eq _ true HK.out _).mono ?_; rintro e w' ⟨rfl, rfl⟩)
        | (go_at_call 39; have _t := tk1; refine (fits_eq _ true HF.out (by omega) (by omega) _).mono ?_; rintro e w' ⟨rfl, rfl⟩; clear tk1)
        | (go_at_call 39; have _t := tk2; refine (fits_eq _ _ rfl (by omega) (by omega) _).mono ?_; rintro e w' ⟨rfl, rfl⟩; clear tk2))
      go_ret
      exact ⟨by rw [HR.out, HK.out, HF.out]; simp, below_alloc (Below.refl _ _) _⟩

set_option maxRecDepth 100000 in
set_option maxHeartbeats 1600000 in
theorem contains_any (A : Option Addr) (n c : Nat) (l : List S47) (w : World) (hC : Kd.C k47 w A n l) (hl : ∀ x ∈ l, Ev64 x) :
    Calls Try.prog 59 #[.slice A n c, .func (.func 38) #[] #[]] w fun e w' => (∃ i : Int, e = .returned (.int .i64 i) ∧ (0 ≤ i ↔ l.any (fun x => !recB x) = true)) ∧ Below w.heap.size w w' := by
  obtain rfl := Kd.C_len hC
  have hm := Kd.C_max hC
  have HC := Lib.hid hC
  have HL := Lib.hid hl
  have hlen : (l.length : Int) ≤ 9223372036854775807 := by omega
  clear hC hl
  go_enter Try.func59, Try.ntmps59
  go_wp2
  go_loopw [8] (fun i wr => ∃ k : Nat, k ≤ l.length ∧ i = .int .i64 k ∧ Hid ((l.take k).any (fun x => !recB x) = false) ∧ Hid (Below w.heap.size w wr)) (fun i _ => l.length - (intOf i).toNat)
  case atStart => exact ⟨0, Nat.zero_le _, rfl, Lib.hid rfl, Below.refl _ _⟩
  case round =>
    obtain ⟨k, hk, rfl, HN, HB⟩ := hrel
    by_cases hlt : k < l.length
    · obtain ⟨ad, rfl, -⟩ := at_T47 (Kd.C_below HC.out HB.out) (k : Int) (by omega) (by omega)
      have hmem : rd_T47 l k ∈ l := by have := rd_get l k hlt; exact List.mem_of_getElem? this
      have hts := take_snoc l k hlt
      generalize hx : rd_T47 l k = x at hmem hts
      obtain ⟨c0, c1, c2, c3, c4, c5⟩ := cells6 ad k x (Kd.C_below HC.out HB.out) hlt hx
      have hi0 : (0 : Int) ≤ (k : Int) := by omega
      have hi1 : (k : Int) < (l.length : Int) := by omega
      have HE := Lib.hid (HL.out x hmem)
      have HT := Lib.hid hts
      clear hmem hts hx
      cases hr : recB x with
      | true =>
        have HR := Lib.hid hr
        clear hr
        go_wp2_with (go_at_call 38; refine (bad_eq x HE.out _).mono ?_; rw [HR.out]; rintro e w1 ⟨rfl, hb1⟩)
        have HB1 := Lib.hid (HB.out.trans (hb1.mono HB.out.size))
        have HN1 : Hid ((l.take (k + 1)).any (fun x => !recB x) = false) := Lib.hid (by rw [HT.out, List.any_append, HN.out]; simp [HR.out])
        clear hb1 c0 c1 c2 c3 c4 c5
        go_roundw
        case rel => exact ⟨k + 1, by omega, by go_num, HN1, HB1⟩
        case measure => simp [intOf]; omega
      | false =>
        have HR := Lib.hid hr
        clear hr
        go_wp2_with (go_at_call 38; refine (bad_eq x HE.out _).mono ?_; rw [HR.out]; rintro e w1 ⟨rfl, hb1⟩)
        go_ret
        refine ⟨⟨(k : Int), rfl, fun _ => ?_, fun _ => by omega⟩, HB.out.trans (hb1.mono HB.out.size)⟩
        rw [← List.take_append_drop (k + 1) l, List.any_append, HT.out, List.any_append]
        simp [HR.out]
    · have : k = l.length := by omega
      subst this
      go_wp2
      go_ret
      refine ⟨⟨-1, rfl, fun h => by omega, fun h => ?_⟩, HB.out⟩
      have := HN.out
      rw [List.take_length] at this
      rw [this] at h
      cases h

theorem containsF (A : Option Addr) (n c : Nat) (l : List S47) (w : World) (hC : Kd.C k47 w A n l) (hl : ∀ x ∈ l, Ev64 x) (b : Bool) (hb : l.any (fun x => !recB x) = b) :
    Calls Try.prog 37 #[.slice A n c, .func (.func 38) #[] #[]] w fun e w' => e = .returned (.bool b) ∧ Below w.heap.size w w' := by
  have HBB := Lib.hid hb
  clear hb
  go_enter Try.func37, Try.ntmps37
  go_wp2_with fail
  refine (contains_any _ _ _ _ _ hC hl).mono ?_
  rintro e w1 ⟨⟨i, rfl, hi⟩, hb1⟩
  rw [HBB.out] at hi
  have HB := Lib.hid hb1
  clear hb1
  cases b with
  | true =>
    have h0 : 0 ≤ i := hi.2 rfl
    clear hi HBB
    go_wp2
    go_ret
    exact ⟨rfl, HB.out⟩
  | false =>
    have h0 : ¬ 0 ≤ i := fun h => by have := hi.1 h; cases this
    clear hi HBB
    go_wp2
    go_ret
    exact ⟨by simp; omega, HB.out⟩
end Go.Proofs.Ytepceelkfbjamaa
