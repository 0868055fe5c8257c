/- Records there and back (plain lists, no program). -/
import Derived.Test.YtepceelkfbjamaaE1
namespace Go.Proofs.Ytepceelkfbjamaa
open Go.RowKit PTraceFilters

theorem le_cons (n : Nat) (v : Int) : le (n + 1) v = v % 256 :: le n (v / 256) := by
  simp only [le, List.range_succ_eq_map, List.map_cons, List.map_map]
  congr 1
  · simp [byteAt]
  · refine List.map_congr_left fun i _ => ?_
    simp only [Function.comp, byteAt, Nat.succ_eq_add_one]
    rw [Int.pow_succ, Int.mul_comm, ← Int.ediv_ediv_of_nonneg (by omega)]
theorem le_numOf (bs : List Int) (h : Bytes bs) : le bs.length (numOf bs) = bs := by
  induction bs with
  | nil => rfl
  | cons b bs ih =>
    have hb := h b (by simp)
    rw [List.length_cons, le_cons]
    simp only [numOf]
    rw [show (b + 256 * numOf bs) % 256 = b by omega, show (b + 256 * numOf bs) / 256 = numOf bs by omega, ih (fun z hz => h z (by simp [hz]))]
theorem numOf_le8 (v : Int) : numOf (le 8 v) = v % 18446744073709551616 := by
  simp only [le_cons, numOf, show le 0 = fun _ => ([] : List Int) from rfl]
  omega
theorem numOf_le4 (v : Int) : numOf (le 4 v) = v % 4294967296 := by
  simp only [le_cons, numOf, show le 0 = fun _ => ([] : List Int) from rfl]
  omega
theorem le_bytes (n : Nat) (v : Int) : Bytes (le n v) := by
  intro b hb
  simp only [le, List.mem_map] at hb
  obtain ⟨i, -, rfl⟩ := hb
  have := byteAt_range v i
  omega
theorem enc_parts (x : S47) : (enc40 x).take 8 = le 8 (x.f0 % 18446744073709551616) ∧ ((enc40 x).drop 8).take 8 = le 8 (x.f1 % 18446744073709551616) ∧ ((enc40 x).drop 16).take 4 = le 4 (x.f2 % 4294967296) ∧
    ((enc40 x).drop 20).take 4 = le 4 (x.f3 % 4294967296) ∧ ((enc40 x).drop 24).take 8 = le 8 (x.f4 % 18446744073709551616) ∧ ((enc40 x).drop 32).take 8 = le 8 (x.f5 % 18446744073709551616) := by
  have d8 : (enc40 x).drop 8 = le 8 (x.f1 % 18446744073709551616) ++ (le 4 (x.f2 % 4294967296) ++ (le 4 (x.f3 % 4294967296) ++ (le 8 (x.f4 % 18446744073709551616) ++ le 8 (x.f5 % 18446744073709551616)))) := List.drop_left' (le_length _ _)
  have d16 : (enc40 x).drop 16 = le 4 (x.f2 % 4294967296) ++ (le 4 (x.f3 % 4294967296) ++ (le 8 (x.f4 % 18446744073709551616) ++ le 8 (x.f5 % 18446744073709551616))) := by
    rw [show 16 = 8 + 8 from rfl, ← List.drop_drop, d8]; exact List.drop_left' (le_length _ _)
  have d20 : (enc40 x).drop 20 = le 4 (x.f3 % 4294967296) ++ (le 8 (x.f4 % 18446744073709551616) ++ le 8 (x.f5 % 18446744073709551616)) := by
    rw [show 20 = 16 + 4 from rfl, ← List.drop_drop, d16]; exact List.drop_left' (le_length _ _)
  have d24 : (enc40 x).drop 24 = le 8 (x.f4 % 18446744073709551616) ++ le 8 (x.f5 % 18446744073709551616) := by
    rw [show 24 = 20 + 4 from rfl, ← List.drop_drop, d20]; exact List.drop_left' (le_length _ _)
  have d32 : (enc40 x).drop 32 = le 8 (x.f5 % 18446744073709551616) := by
    rw [show 32 = 24 + 8 from rfl, ← List.drop_drop, d24]; exact List.drop_left' (le_length _ _)
  rw [d8, d16, d20, d24, d32]
  exact ⟨List.take_left' (le_length _ _), List.take_left' (le_length _ _), List.take_left' (le_length _ _), List.take_left' (le_length _ _), List.take_left' (le_length _ _), List.take_of_length_le (by rw [le_length]; omega)⟩
theorem dec_enc (x : S47) (h : Ev64 x) (hr : recB x = true) : decEv (enc40 x) = x ∧ okR (enc40 x) = true := by
  obtain ⟨e0, e1, e2, e3, e4, e5⟩ := enc_parts x
  obtain ⟨h0, h1, h2, h3, h4, h5⟩ := h
  obtain ⟨x0, x1, x2, x3, x4, x5⟩ := x
  simp only [recB, fitB, Bool.and_eq_true, decide_eq_true_eq] at hr
  simp only at h0 h1 h2 h3 h4 h5 e0 e1 e2 e3 e4 e5
  have k : kindOf (enc40 ⟨x0, x1, x2, x3, x4, x5⟩) = x1 := by unfold kindOf; rw [e1, numOf_le8]; unfold wrap64; omega
  constructor
  · unfold decEv
    rw [k, e0, e2, e3, e4, e5, numOf_le8, numOf_le4, numOf_le4, numOf_le8, numOf_le8]
    simp only [wrap64, wrap32, S47.mk.injEq, true_and]
    omega
  · unfold okR; rw [k]; simp; omega
theorem part_length (r : List Int) (o n : Nat) (h : o + n ≤ r.length) : ((r.drop o).take n).length = n := by simp; omega
theorem le_part8 (r : List Int) (o : Nat) (hb : Bytes r) (h : o + 8 ≤ r.length) : le 8 (wrap64 (numOf ((r.drop o).take 8)) % 18446744073709551616) = (r.drop o).take 8 := by
  have hB := part_bytes hb o 8
  have hl := part_length r o 8 h
  have hr := numOf_range _ hB
  have hn := le_numOf _ hB
  rw [hl] at hr hn
  generalize numOf ((r.drop o).take 8) = N at hr hn ⊢
  have : wrap64 N % 18446744073709551616 = N := by unfold wrap64; omega
  rw [this]; exact hn
theorem le_part4 (r : List Int) (o : Nat) (hb : Bytes r) (h : o + 4 ≤ r.length) : le 4 (wrap32 (numOf ((r.drop o).take 4)) % 4294967296) = (r.drop o).take 4 := by
  have hB := part_bytes hb o 4
  have hl := part_length r o 4 h
  have hr := numOf_range _ hB
  have hn := le_numOf _ hB
  rw [hl] at hr hn
  generalize numOf ((r.drop o).take 4) = N at hr hn ⊢
  have : wrap32 N % 4294967296 = N := by unfold wrap32; omega
  rw [this]; exact hn
theorem enc_dec (r : List Int) (hl : r.length = 40) (hb : Bytes r) (hk : okR r = true) : enc40 (decEv r) = r ∧ recB (decEv r) = true ∧ Ev64 (decEv r) := by
  refine ⟨?_, ?_, ?_⟩
  · simp only [enc40, decEv, kindOf]
    have p0 := le_part8 r 0 hb (by omega)
    rw [List.drop_zero] at p0
    rw [p0, le_part8 r 8 hb (by omega), le_part4 r 16 hb (by omega), le_part4 r 20 hb (by omega), le_part8 r 24 hb (by omega), le_part8 r 32 hb (by omega)]
    have s : ∀ o n m, o + n = m → (r.drop o).take n ++ r.drop m = r.drop o := by
      rintro o n m rfl
      rw [← List.drop_drop]; exact List.take_append_drop _ _
    rw [show (r.drop 32).take 8 = r.drop 32 from List.take_of_length_le (by simp; omega)]
    rw [s 24 8 32 rfl, s 20 4 24 rfl, s 16 4 20 rfl, s 8 8 16 rfl]
    exact List.take_append_drop _ _
  · unfold okR at hk
    simp only [recB, decEv, fitB, Bool.and_eq_true, decide_eq_true_eq, wrap32] at hk ⊢
    omega
  · simp only [Ev64, decEv, kindOf, wrap64, wrap32]
    omega
theorem recAt_flat (l : List S47) : ∀ (j : Nat) (h : j < l.length), recAt (l.flatMap enc40) j = enc40 l[j] := by
  induction l with
  | nil => intro j h; simp at h
  | cons x l ih =>
    intro j h
    rw [List.flatMap_cons]
    cases j with
    | zero => simp only [recAt, Nat.mul_zero, List.drop_zero, List.getElem_cons_zero]; exact List.take_left' (enc40_length x)
    | succ j =>
      have e : recAt (enc40 x ++ l.flatMap enc40) (j + 1) = recAt (l.flatMap enc40) j := by
        unfold recAt
        rw [show 40 * (j + 1) = 40 + 40 * j by omega, ← List.drop_drop, List.drop_left' (enc40_length x)]
      rw [e, ih j (by simpa using h)]
      simp
theorem flat_bytes (l : List S47) : Bytes (l.flatMap enc40) := by
  intro z hz
  simp only [List.mem_flatMap, enc40, List.mem_append] at hz
  obtain ⟨x, -, hz⟩ := hz
  rcases hz with h | h | h | h | h | h <;> exact le_bytes _ _ z h
/-- Decode of Encode. -/
theorem back_one (l : List S47) (hl : ∀ x ∈ l, Ev64 x) (hr : l.any (fun x => !recB x) = false) (hn : l.length ≤ 20000) : Dec (l.flatMap enc40) 0 0 l := by
  have hR : ∀ x ∈ l, recB x = true := by simpa using hr
  have hlen : (l.flatMap enc40).length = 40 * l.length := by
    clear hl hr hn hR
    induction l with
    | nil => rfl
    | cons x l ih => rw [List.flatMap_cons, List.length_append, ih, enc40_length, List.length_cons]; omega
  have he : evs (l.flatMap enc40) l.length = l := by
    apply List.ext_getElem
    · rw [evs_length]
    · intro i h1 h2
      simp only [evs, List.getElem_map, List.getElem_range]
      rw [recAt_flat l i h2]
      exact (dec_enc _ (hl _ (List.getElem_mem h2)) (hR _ (List.getElem_mem h2))).1
  have := Dec.all (b := l.flatMap enc40) l.length (by omega) (fun j hj => by rw [recAt_flat l j hj]; exact (dec_enc _ (hl _ (List.getElem_mem hj)) (hR _ (List.getElem_mem hj))).2) hlen.symm
  rwa [he] at this
/-- Encode of what Decode accepts. -/
theorem back_two (b : List Int) (hb : Bytes b) (a c : Int) (l : List S47) (h : Dec b a c l) (hc : c = 0) : l.flatMap enc40 = b ∧ l.any (fun x => !recB x) = false ∧ (∀ x ∈ l, Ev64 x) ∧ 40 * l.length = b.length := by
  cases h with
  | long => cases hc
  | bad => cases hc
  | rest => cases hc
  | all k h0 h1 h2 =>
    have key : ∀ j, j < k → enc40 (decEv (recAt b j)) = recAt b j ∧ recB (decEv (recAt b j)) = true ∧ Ev64 (decEv (recAt b j)) := fun j hj => enc_dec _ (recAt_length b j (by omega)) (recAt_bytes b j hb) (h1 j hj)
    have hf : ∀ j, j ≤ k → (evs b j).flatMap enc40 = b.take (40 * j) := by
      intro j
      induction j with
      | zero => intro _; simp [evs]
      | succ j ih =>
        intro hj
        rw [evs_succ, List.flatMap_append, ih (by omega), List.flatMap_singleton, (key j (by omega)).1, show 40 * (j + 1) = 40 * j + 40 by omega, List.take_add]
        rfl
    have hm : ∀ x ∈ evs b k, ∃ j, j < k ∧ decEv (recAt b j) = x := by
      intro x hx
      simp only [evs, List.mem_map, List.mem_range] at hx
      exact hx
    refine ⟨by rw [hf k (Nat.le_refl _), h2]; exact List.take_length, ?_, ?_, by rw [evs_length]; exact h2⟩
    · rw [List.any_eq_false]
      intro x hx
      obtain ⟨j, hj, rfl⟩ := hm x hx
      simp [(key j hj).2.1]
    · intro x hx
      obtain ⟨j, hj, rfl⟩ := hm x hx
      exact (key j hj).2.2
end Go.Proofs.Ytepceelkfbjamaa
