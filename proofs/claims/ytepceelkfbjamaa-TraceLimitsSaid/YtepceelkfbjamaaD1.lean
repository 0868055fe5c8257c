/- Numbers out of their bytes. -/
import Derived.Test.YtepceelkfbjamaaC3
import Derived.Laws.Bits64b
namespace Go.Proofs.Ytepceelkfbjamaa
open Go.RowKit Go.Proofs.YtepceelkfbjamaaW.PrintWords Go.Proofs.YtepceelkfbjamaaW.PrintLast Go.Proofs.YtepceelkfbjamaaW.PrintMore PTraceFilters FLib

def numOf : List Int → Int
  | [] => 0
  | b :: bs => b + 256 * numOf bs
theorem numOf_snoc (bs : List Int) (b : Int) : numOf (bs ++ [b]) = numOf bs + 256 ^ bs.length * b := by
  induction bs with
  | nil => simp [numOf]
  | cons c bs ih => simp only [List.cons_append, numOf, ih, List.length_cons, Int.pow_succ]; rw [Int.mul_add]; have : 256 * (256 ^ bs.length * b) = 256 ^ bs.length * 256 * b := by rw [Int.mul_assoc, Int.mul_left_comm]; 
                    omega
theorem u8_atC {w : World} {A : Option Addr} {n : Nat} {zs : List Int} (h : Kd.C (Kd.int .u8) w A n zs) (i : Nat) (hi : i < n) : ∃ ad, A = some ad ∧ w.cell? (ad.add i) = some (.int .u8 (zs.getD i 0)) := by
  obtain ⟨ad, c, e, hl, hK, hc⟩ := Kd.C_get h (0 : Int) (i : Int) (by omega) (by omega)
  have hK2 : c = [.int .u8 (zs.getD (i : Int).toNat 0)] := hK
  rw [Int.toNat_natCast] at hK2
  subst hK2
  refine ⟨ad, e, ?_⟩
  have := hc 0 _ rfl
  simpa [show (Kd.int .u8).sz = 1 from rfl] using this
def Bytes (bs : List Int) : Prop := ∀ b ∈ bs, 0 ≤ b ∧ b ≤ 255
theorem numOf_range (bs : List Int) (h : Bytes bs) : 0 ≤ numOf bs ∧ numOf bs < 256 ^ bs.length := by
  induction bs with
  | nil => simp [numOf]
  | cons c bs ih =>
    have hc := h c (by simp)
    have := ih (fun b hb => h b (by simp [hb]))
    simp only [numOf, List.length_cons, Int.pow_succ]
    omega
theorem or_step (n b : Int) (k : Nat) (hk : k ≤ 7) (h0 : 0 ≤ n) (h1 : n < 256 ^ k) (hb0 : 0 ≤ b) (hb1 : b ≤ 255) :
    Go.bits .or .u64 n (IntKind.u64.wrap (b * 2 ^ (8 * k))) = n + 256 ^ k * b := by
  rw [IntKind.wrap_u64]
  obtain ⟨a, rfl⟩ := Int.eq_ofNat_of_zero_le h0
  obtain ⟨c, rfl⟩ := Int.eq_ofNat_of_zero_le hb0
  have e256 : (256 : Nat) ^ k = 2 ^ (8 * k) := by rw [Nat.pow_mul]
  have ha : a < 2 ^ (8 * k) := by
    have : ((a : Int)) < ((256 ^ k : Nat) : Int) := by simpa using h1
    rw [← e256]; omega
  have hp : 2 ^ (8 * k) ≤ 2 ^ 56 := Nat.pow_le_pow_right (by omega) (by omega)
  have hcp : c * 2 ^ (8 * k) < 18446744073709551616 := by
    have : c * 2 ^ (8 * k) ≤ 255 * 2 ^ 56 := Nat.mul_le_mul (by omega) hp
    omega
  have e1 : (c : Int) * 2 ^ (8 * k) % 18446744073709551616 = ((c * 2 ^ (8 * k) : Nat) : Int) := by
    have : ((c * 2 ^ (8 * k) : Nat) : Int) = (c : Int) * 2 ^ (8 * k) := by simp
    rw [← this]; omega
  rw [e1, bits_or_u64_nat a (c * 2 ^ (8 * k)) (by omega) hcp]
  have h2 : a ||| c * 2 ^ (8 * k) = a + 256 ^ k * c := by
    rw [Nat.or_comm, ← Nat.shiftLeft_eq, ← Nat.shiftLeft_add_eq_or_of_lt ha, Nat.shiftLeft_eq, e256, Nat.mul_comm, Nat.add_comm]
  rw [h2]
  simp

set_option maxRecDepth 100000 in
set_option maxHeartbeats 1600000 in
theorem get_any (A : Option Addr) (n c : Nat) (bs : List Int) (w : World) (hC : Kd.C (Kd.int .u8) w A n bs) (hb : Bytes bs) (hn : n ≤ 8) :
    Calls Try.prog 43 #[.slice A n c] w fun e w' => e = .returned (.int .u64 (numOf bs)) ∧ w = w' := by
  obtain rfl := Kd.C_len hC
  have HC := Lib.hid hC
  have HB := Lib.hid hb
  have hn8 : (bs.length : Int) ≤ 8 := by omega
  clear hC hb
  go_enter Try.func43, Try.ntmps43
  go_wp2
  go_loop [3, 8] (fun v i => ∃ k : Nat, k ≤ bs.length ∧ i = .int .i64 k ∧ ∃ N : Int, v = .int .u64 N ∧ N = numOf (bs.take k)) (fun _ i => bs.length - (intOf i).toNat)
  case atStart => exact ⟨0, Nat.zero_le _, rfl, 0, rfl, rfl⟩
  case round =>
    obtain ⟨k, hk, rfl, N, rfl, hN⟩ := hrel
    by_cases hlt : k < bs.length
    · obtain ⟨ad, rfl, cz⟩ := u8_atC HC.out k hlt
      obtain ⟨b0, b1⟩ := HB.out (bs.getD k 0) (by simp [List.getD, hlt])
      have hts : bs.take (k + 1) = bs.take k ++ [bs.getD k 0] := by
        rw [List.take_add_one, List.getElem?_eq_getElem hlt]; simp [List.getD, hlt]
      generalize bs.getD k 0 = b at cz b0 b1 hts
      have hr := numOf_range (bs.take k) (fun z hz => HB.out z (List.mem_of_mem_take hz))
      have hl : (bs.take k).length = k := by rw [List.length_take]; omega
      rw [← hN, hl] at hr
      have hor := or_step N b k (by omega) hr.1 hr.2 b0 b1
      have hnew : N + 256 ^ k * b = numOf (bs.take (k + 1)) := by rw [hts, numOf_snoc, hl, hN]
      have HN := Lib.hid hnew
      have hi0 : (0 : Int) ≤ (k : Int) := by omega
      have hi1 : (k : Int) < (bs.length : Int) := by omega
      have hk7 : (k : Int) ≤ 7 := by omega
      have HOR := Lib.hid hor
      clear hr hts hnew hN hl hor
      go_wp2
      go_round
      case rel => exact ⟨k + 1, by omega, by go_num, _, rfl, by rw [HOR.out]; exact HN.out⟩
      case measure => simp [intOf]; omega
    · obtain rfl : k = bs.length := by omega
      have hN2 : N = numOf bs := by rw [hN, List.take_length]
      have HN := Lib.hid hN2
      clear hN hN2
      go_wp2
      go_ret
      exact ⟨by simp; exact HN.out, rfl⟩

theorem numOf_drop (bs : List Int) (i : Nat) (hi : i < bs.length) : numOf (bs.drop i) = bs.getD i 0 + 256 * numOf (bs.drop (i + 1)) := by
  rw [List.drop_eq_getElem_cons hi]
  simp [numOf, List.getD, hi]

set_option maxRecDepth 100000 in
set_option maxHeartbeats 1600000 in
theorem number_any (A : Option Addr) (c : Nat) (bs : List Int) (w : World) (hC : Kd.C (Kd.int .u8) w A 8 bs) (hb : Bytes bs) :
    Calls Try.prog 44 #[.slice A 8 c] w fun e w' => e = .returned (.int .i64 (wrap64 (numOf bs))) ∧ w = w' := by
  have hl8 := Kd.C_len hC
  have HC := Lib.hid hC
  have HB := Lib.hid hb
  clear hC hb
  go_enter Try.func44, Try.ntmps44
  go_wp2
  go_loop [3, 4] (fun v i => ∃ k : Nat, k ≤ 8 ∧ i = .int .i64 ((k : Int) - 1) ∧ ∃ N : Int, v = .int .u64 N ∧ Hid (N = numOf (bs.drop k))) (fun _ i => (intOf i + 1).toNat)
  case atStart => exact ⟨8, Nat.le_refl _, rfl, 0, rfl, by rw [List.drop_of_length_le (by omega)]; rfl⟩
  case round =>
    obtain ⟨k, hk, rfl, N, rfl, HN⟩ := hrel
    rcases Nat.eq_zero_or_pos k with rfl | hpos
    · have hN2 : N = numOf bs := HN.out
      have HN2 := Lib.hid hN2
      clear hN2 HN
      go_wp2
      go_ret
      exact ⟨by simp; rw [HN2.out], rfl⟩
    · obtain ⟨m, rfl⟩ : ∃ m, k = m + 1 := ⟨k - 1, by omega⟩
      obtain ⟨ad, rfl, cz⟩ := u8_atC HC.out m (by omega)
      obtain ⟨b0, b1⟩ := HB.out (bs.getD m 0) (by simp [List.getD, show m < bs.length by omega])
      have hd := numOf_drop bs m (by omega)
      generalize bs.getD m 0 = b at cz b0 b1 hd
      have hr := numOf_range (bs.drop (m + 1)) (fun z hz => HB.out z (List.mem_of_mem_drop hz))
      rw [← HN.out, List.length_drop, hl8] at hr
      rw [← HN.out] at hd
      have hp : (256 : Int) ^ (8 - (m + 1)) ≤ 256 ^ 7 := by
        have : (256 : Nat) ^ (8 - (m + 1)) ≤ 256 ^ 7 := Nat.pow_le_pow_right (by omega) (by omega)
        exact_mod_cast this
      have hN0 : 0 ≤ N := hr.1
      have hN1 : N < 72057594037927936 := by have := hr.2; omega
      have e1 : IntKind.u64.wrap (256 * N) = 256 * N := by rw [IntKind.wrap_u64]; omega
      have e2 : IntKind.u64.wrap (256 * N + b) = 256 * N + b := by rw [IntKind.wrap_u64]; omega
      have i1 : ((m + 1 : Nat) : Int) - 1 = (m : Int) := by omega
      have HD := Lib.hid hd
      have hm7 : (m : Int) ≤ 7 := by omega
      have hi0 : (0 : Int) ≤ (m : Int) := by omega
      clear hr hp hd HN
      rw [i1]
      clear i1
      go_wp2
      go_round
      case rel => exact ⟨m, by omega, by go_num, _, rfl, Lib.hid (by rw [HD.out]; omega)⟩
      case measure => simp [intOf]

theorem numOf4 (bs : List Int) (h : bs.length = 4) : numOf bs = bs.getD 0 0 + 256 * bs.getD 1 0 + 65536 * bs.getD 2 0 + 16777216 * bs.getD 3 0 := by
  match bs, h with
  | [a, b, c, d], _ => simp [numOf]; omega
theorem u8_at0 {w : World} {ad : Addr} {n : Nat} {zs : List Int} (h : Kd.C (Kd.int .u8) w (some ad) n zs) (i : Nat) (hi : i < n) : w.cell? (ad.add i) = some (.int .u8 (zs.getD i 0)) := by
  obtain ⟨ad', e, hc⟩ := u8_atC h i hi
  injection e with e
  subst e
  exact hc

set_option maxRecDepth 100000 in
set_option maxHeartbeats 1600000 in
theorem half_any (A : Option Addr) (c : Nat) (bs : List Int) (w : World) (hC : Kd.C (Kd.int .u8) w A 4 bs) (hb : Bytes bs) :
    Calls Try.prog 45 #[.slice A 4 c] w fun e w' => e = .returned (.int .i64 (wrap32 (numOf bs))) ∧ Below w.heap.size w w' := by
  have hl4 := Kd.C_len hC
  obtain ⟨ad, rfl, -⟩ := u8_atC hC 0 (by omega)
  have c0 : w.cell? ad = some (.int .u8 (bs.getD 0 0)) := u8_at0 hC 0 (by omega)
  have c1 : w.cell? ⟨ad.block, ad.off + 1, none⟩ = some (.int .u8 (bs.getD 1 0)) := u8_at0 hC 1 (by omega)
  have c2 : w.cell? ⟨ad.block, ad.off + 2, none⟩ = some (.int .u8 (bs.getD 2 0)) := u8_at0 hC 2 (by omega)
  have c3 : w.cell? ⟨ad.block, ad.off + 3, none⟩ = some (.int .u8 (bs.getD 3 0)) := u8_at0 hC 3 (by omega)
  have h4 := numOf4 bs hl4
  have b0 := hb (bs.getD 0 0) (by simp [List.getD, show 0 < bs.length by omega])
  have b1 := hb (bs.getD 1 0) (by simp [List.getD, show 1 < bs.length by omega])
  have b2 := hb (bs.getD 2 0) (by simp [List.getD, show 2 < bs.length by omega])
  have b3 := hb (bs.getD 3 0) (by simp [List.getD, show 3 < bs.length by omega])
  generalize bs.getD 0 0 = x0 at *
  generalize bs.getD 1 0 = x1 at *
  generalize bs.getD 2 0 = x2 at *
  generalize bs.getD 3 0 = x3 at *
  have m1 : IntKind.i64.wrap (256 * x1) = 256 * x1 := IntWalk.i64_in _ (by omega)
  have m2 : IntKind.i64.wrap (65536 * x2) = 65536 * x2 := IntWalk.i64_in _ (by omega)
  have m3 : IntKind.i64.wrap (16777216 * x3) = 16777216 * x3 := IntWalk.i64_in _ (by omega)
  have s1 : IntKind.i64.wrap (x0 + 256 * x1) = x0 + 256 * x1 := IntWalk.i64_in _ (by omega)
  have s2 : IntKind.i64.wrap (x0 + 256 * x1 + 65536 * x2) = x0 + 256 * x1 + 65536 * x2 := IntWalk.i64_in _ (by omega)
  have s3 : IntKind.i64.wrap (x0 + 256 * x1 + 65536 * x2 + 16777216 * x3) = x0 + 256 * x1 + 65536 * x2 + 16777216 * x3 := IntWalk.i64_in _ (by omega)
  have k0 : IntKind.i64.wrap x0 = x0 := IntWalk.i64_in _ (by omega)
  have k1 : IntKind.i64.wrap x1 = x1 := IntWalk.i64_in _ (by omega)
  have k2 : IntKind.i64.wrap x2 = x2 := IntWalk.i64_in _ (by omega)
  have k3 : IntKind.i64.wrap x3 = x3 := IntWalk.i64_in _ (by omega)
  have H4 := Lib.hid h4
  have hw : wrap32 (numOf bs) = if 2147483648 ≤ x0 + 256 * x1 + 65536 * x2 + 16777216 * x3 then x0 + 256 * x1 + 65536 * x2 + 16777216 * x3 - 4294967296 else x0 + 256 * x1 + 65536 * x2 + 16777216 * x3 := by
    rw [h4]; unfold wrap32; split <;> omega
  have HW := Lib.hid hw
  clear h4 hw hC hb
  by_cases hge : 2147483648 ≤ x0 + 256 * x1 + 65536 * x2 + 16777216 * x3
  · rw [if_pos hge] at HW
    go_enter Try.func45, Try.ntmps45
    go_wp2
    go_quiet (fail)
    go_wp2
    go_ret
    exact ⟨by rw [HW.out]; simp, pw_below_drewN (Below.refl _ _) _⟩
  · rw [if_neg hge] at HW
    go_enter Try.func45, Try.ntmps45
    go_wp2
    go_quiet (fail)
    go_wp2
    go_ret
    exact ⟨by rw [HW.out]; simp, pw_below_drewN (Below.refl _ _) _⟩
end Go.Proofs.Ytepceelkfbjamaa
