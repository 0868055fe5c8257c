/- Encode: the records of events, one after the other. -/
import Derived.Test.YtepceelkfbjamaaC2
namespace Go.Proofs.Ytepceelkfbjamaa
open Go.RowKit Go.Proofs.YtepceelkfbjamaaW.PrintWords Go.Proofs.YtepceelkfbjamaaW.PrintLast Go.Proofs.YtepceelkfbjamaaW.PrintMore PTraceFilters FLib

theorem info5 : (Try.prog.info? 5).map (fun i => (i.zero, i.size, i.bytes)) = some (some (.int .u8 0), 1, 1) := by kernel_rfl

/-- What an encoder answers. -/
def EncPost (ty : Nat) (l : List S47) (w : World) (e : Ending) (w' : World) : Prop :=
  Below w.heap.size w w' ∧
  (20000 < l.length → e = .returned (.tuple #[.slice none 0 0, .int .i64 18])) ∧
  (l.length ≤ 20000 → l.any (fun x => !recB x) = true → e = .returned (.tuple #[.slice none 0 0, .int .i64 34])) ∧
  (l.length ≤ 20000 → l.any (fun x => !recB x) = false → ∃ v, e = .returned (.tuple #[v, .int .i64 0]) ∧ Kd.R (Kd.int .u8) ty w' w.heap.size (fun _ => True) v (l.flatMap enc40))

set_option maxRecDepth 100000 in
theorem encode_long (A : Option Addr) (n c : Nat) (w : World) (h : 20000 < (n : Int)) :
    Calls Try.prog 25 #[.slice A n c] w fun e w' => e = .returned (.tuple #[.slice none 0 0, .int .i64 18]) ∧ w = w' := by
  go_enter Try.func25, Try.ntmps25
  go_wp2
  go_ret2
  exact ⟨rfl, rfl⟩

set_option maxRecDepth 100000 in
theorem encode_bad (A : Option Addr) (n c : Nat) (l : List S47) (w : World) (hC : Kd.C k47 w A n l) (hl : ∀ x ∈ l, Ev64 x) (h : (n : Int) ≤ 20000) (hb : l.any (fun x => !recB x) = true) :
    Calls Try.prog 25 #[.slice A n c] w fun e w' => e = .returned (.tuple #[.slice none 0 0, .int .i64 34]) ∧ Below w.heap.size w w' := by
  have HB := Lib.hid hb
  have HL := Lib.hid hl
  clear hb hl
  go_enter Try.func25, Try.ntmps25
  go_wp2_with (go_at_call 37; refine (containsF _ _ _ _ _ hC HL.out true HB.out).mono ?_; rintro e w1 ⟨rfl, hb1⟩)
  go_ret2
  exact ⟨rfl, hb1⟩

/-- The array of a record (block q), and the event (block eb), as they stand while the record is filled. -/
structure ES (w0 W : World) (q eb : Nat) (x : S47) (bs : List Int) : Prop where
  arr : U8 W q 88 bs
  ev : W.heap[eb]? = some (.cells (evCells x).toArray 47 (0, 0))
  keep : Keeps w0 W (fun k => k = q)
theorem ES.cell0 {w0 W : World} {q eb : Nat} {x : S47} {bs : List Int} (h : ES w0 W q eb x bs) : W.cell? ⟨eb, 0, none⟩ = some (.int .i64 x.f0) := blk_cell h.ev 0
theorem ES.cell1 {w0 W : World} {q eb : Nat} {x : S47} {bs : List Int} (h : ES w0 W q eb x bs) : W.cell? ⟨eb, 1, none⟩ = some (.int .i64 x.f1) := blk_cell h.ev 1
theorem ES.cell2 {w0 W : World} {q eb : Nat} {x : S47} {bs : List Int} (h : ES w0 W q eb x bs) : W.cell? ⟨eb, 2, none⟩ = some (.int .i64 x.f2) := blk_cell h.ev 2
theorem ES.cell3 {w0 W : World} {q eb : Nat} {x : S47} {bs : List Int} (h : ES w0 W q eb x bs) : W.cell? ⟨eb, 3, none⟩ = some (.int .i64 x.f3) := blk_cell h.ev 3
theorem ES.cell4 {w0 W : World} {q eb : Nat} {x : S47} {bs : List Int} (h : ES w0 W q eb x bs) : W.cell? ⟨eb, 4, none⟩ = some (.int .i64 x.f4) := blk_cell h.ev 4
theorem ES.cell5 {w0 W : World} {q eb : Nat} {x : S47} {bs : List Int} (h : ES w0 W q eb x bs) : W.cell? ⟨eb, 5, none⟩ = some (.int .i64 x.f5) := blk_cell h.ev 5

theorem splice_pre (pre cs : List Int) (m : Nat) (_h : cs.length ≤ m) : splice (pre ++ List.replicate m 0) pre.length cs = (pre ++ cs) ++ List.replicate (m - cs.length) 0 := by
  simp [splice, List.drop_append]
theorem wrapped_enc (x : S47) : ((((([] ++ le 8 (IntKind.u64.wrap x.f0)) ++ le 8 (IntKind.u64.wrap x.f1)) ++ le 4 (IntKind.u64.wrap (x.f2 % 4294967296))) ++ le 4 (IntKind.u64.wrap (x.f3 % 4294967296))) ++ le 8 (IntKind.u64.wrap x.f4)) ++ le 8 (IntKind.u64.wrap x.f5) = enc40 x := by
  simp only [IntKind.wrap_u64]
  have h2 : x.f2 % 4294967296 % 18446744073709551616 = x.f2 % 4294967296 := by omega
  have h3 : x.f3 % 4294967296 % 18446744073709551616 = x.f3 % 4294967296 := by omega
  rw [h2, h3]
  simp [enc40]
theorem flat_len (l : List S47) : (l.flatMap enc40).length = l.length * 40 := by
  induction l with
  | nil => rfl
  | cons x l ih => simp [List.flatMap_cons, ih, enc40_length]; omega
theorem splice_rec (l : List S47) (k : Nat) (x : S47) (hk : k < l.length) (ht : l.take (k + 1) = l.take k ++ [x]) :
    splice ((l.take k).flatMap enc40 ++ List.replicate ((l.length - k) * 40) 0) (k * 40) (enc40 x) = (l.take (k + 1)).flatMap enc40 ++ List.replicate ((l.length - (k + 1)) * 40) 0 := by
  have hl : ((l.take k).flatMap enc40).length = k * 40 := by rw [flat_len, List.length_take]; congr 1; omega
  have h1 := splice_pre ((l.take k).flatMap enc40) (enc40 x) ((l.length - k) * 40) (by rw [enc40_length]; omega)
  rw [hl] at h1
  rw [h1, ht, List.flatMap_append, enc40_length]
  rw [show (l.length - k) * 40 - 40 = (l.length - (k + 1)) * 40 by omega]
  simp

theorem arr_new (w : World) (o : Obj) : U8 ((w.alloc o).alloc (.cells (u8s (List.replicate 40 0)).toArray 88)) (w.heap.size + 1) 88 (List.replicate 40 0) := by
  have := blk_new (w.alloc o) (.cells (u8s (List.replicate 40 0)).toArray 88)
  simpa [U8] using this
theorem R_of_U8 {w : World} {q N base : Nat} {bs : List Int} (h : U8 w q 5 bs) (hb : base ≤ q) (hN : bs.length = N) (hm : N ≤ 9223372036854775807) : Kd.R (Kd.int .u8) 5 w base (fun _ => True) (.slice (some ⟨q, 0, none⟩) N N) bs := by
  subst hN
  refine Kd.R_of_own ⟨by simp [encs], .inr ⟨q, bs.length, (u8s bs).toArray, rfl, hb, h, Nat.le_refl _, by simpa [maxLen] using hm, by simp [u8s], ?_⟩⟩ (fun _ _ => trivial)
  simp only [u8s, encs, Nat.mul_one]
  exact List.take_of_length_le (by simp)

theorem put_es {w0 W : World} {q eb : Nat} {x : S47} {pre : List Int} {m : Nat} (o n c : Nat) (v : Int) (h : ES w0 W q eb x (pre ++ List.replicate m 0)) (hne : eb ≠ q) (ho : o = pre.length) (hm : n ≤ m) (hn : n ≤ 8) (h0 : 0 ≤ v) (h1 : v < 18446744073709551616) :
    Calls Try.prog 40 #[.slice (some ⟨q, o, none⟩) n c, .int .u64 v] W.drew fun e w' => e = .returned (.tuple #[]) ∧ ES w0 w' q eb x ((pre ++ le n v) ++ List.replicate (m - n) 0) := by
  subst ho
  refine (put8 q 88 pre.length n c _ v W.drew h.arr (by simp; omega) hn h0 (by simpa using h1)).mono ?_
  rintro e w' ⟨rfl, hu, hk⟩
  rw [splice_pre _ _ _ (by rw [le_length]; exact hm), le_length] at hu
  exact ⟨rfl, hu, hk.blk h.ev hne, (h.keep.drew).trans hk (fun i hi => .inl hi)⟩
theorem u64_val (n : Int) : 0 ≤ IntKind.u64.wrap n ∧ IntKind.u64.wrap n < 18446744073709551616 := by rw [IntKind.wrap_u64]; omega

set_option maxRecDepth 100000 in
set_option maxHeartbeats 6400000 in
theorem encode_good (A : Option Addr) (n c : Nat) (l : List S47) (w : World) (hC : Kd.C k47 w A n l) (hl : ∀ x ∈ l, Ev64 x) (h : (n : Int) ≤ 20000) (hb : l.any (fun x => !recB x) = false) :
    Calls Try.prog 25 #[.slice A n c] w fun e w' => ∃ v, e = .returned (.tuple #[v, .int .i64 0]) ∧ Kd.R (Kd.int .u8) 5 w' w.heap.size (fun _ => True) v (l.flatMap enc40) ∧ Below w.heap.size w w' := by
  obtain rfl := Kd.C_len hC
  have HB := Lib.hid hb
  have HL := Lib.hid hl
  have HC := Lib.hid hC
  have hmk := print_make (P := Try.prog) 23 5 .u8 1 Try.underlying23 info5 (by decide) (l.length * 40) (by omega)
  have hcast : ((l.length : Int) * 40) = ((l.length * 40 : Nat) : Int) := by omega
  rw [← hcast] at hmk
  clear hb hl hC hcast
  go_enter Try.func25, Try.ntmps25
  go_wp2_with fail
  refine (containsF _ _ _ _ _ HC.out HL.out false HB.out).mono ?_
  rintro e w1 ⟨rfl, hb1⟩
  go_wp2
  have hob : w.heap.size ≤ w1.heap.size := hb1.size
  have hU0 : U8 (w1.alloc (.cells (madeCells #[.int .u8 0] (l.length * 40)) 5)) w1.heap.size 5 (List.replicate (l.length * 40) 0) := by
    unfold U8
    rw [blk_new]
    have := toList_madeCells_one (.int .u8 0) (l.length * 40)
    have e : (u8s (List.replicate (l.length * 40) 0)) = (madeCells #[Value.int .u8 0] (l.length * 40)).toList := by rw [this]; simp [u8s]
    rw [e]
  obtain ⟨ob, hobq⟩ : ∃ ob, w1.heap.size = ob := ⟨_, rfl⟩
  rw [hobq] at hU0 hob ⊢
  have HU0 := Lib.hid hU0
  have HB1 := Lib.hid (below_alloc hb1 (.cells (madeCells #[.int .u8 0] (l.length * 40)) 5))
  have hlen : (l.length : Int) ≤ 20000 := h
  clear hU0 hb1 hobq hmk
  go_loopw [19] (fun i wr => ∃ k : Nat, k ≤ l.length ∧ i = .int .i64 k ∧ Hid (U8 wr ob 5 ((l.take k).flatMap enc40 ++ List.replicate ((l.length - k) * 40) 0)) ∧ Hid (Below w.heap.size w wr)) (fun i _ => l.length - (intOf i).toNat)
  case atStart => exact ⟨0, Nat.zero_le _, rfl, by simpa using HU0, HB1⟩
  case round =>
    obtain ⟨k, hk, rfl, HU, HW⟩ := hrel
    clear HU0 HB1
    by_cases hlt : k < l.length
    · obtain ⟨ad, rfl, -⟩ := at_T47 (Kd.C_below HC.out HW.out) (k : Int) (by omega) (by omega)
      have hmem : rd_T47 l k ∈ l := List.mem_of_getElem? (rd_get l k hlt)
      have hts := take_snoc l k hlt
      generalize hx : rd_T47 l k = x at hmem hts
      obtain ⟨c0, c1, c2, c3, c4, c5⟩ := cells6 ad k x (Kd.C_below HC.out HW.out) hlt hx
      have hi0 : (0 : Int) ≤ (k : Int) := by omega
      have hi1 : (k : Int) < (l.length : Int) := by omega
      obtain ⟨⟨e00, e01⟩, ⟨e10, e11⟩, ⟨e20, e21⟩, ⟨e30, e31⟩, ⟨e40, e41⟩, ⟨e50, e51⟩⟩ := HL.out x hmem
      have HT := Lib.hid hts
      clear hmem hts hx
      go_wp2
      refine abs_w (fun W => ES wr W (wr.heap.size + 1) wr.heap.size x ([] ++ List.replicate 40 0)) ⟨arr_new wr _, blk_alloc (blk_new wr _) _, Keeps.of_below (below_alloc (below_alloc (Below.refl _ _) _) _) _⟩ ?_
      rintro W1 h1
      have H1 := Lib.hid h1
      have a0 := h1.cell0
      clear h1 c0 c1 c2 c3 c4 c5
      refine still_tail 4 (by kernel_rfl) (by kernel_rfl) ?_
      simp only [List.take_succ_cons, List.take_zero, List.drop_succ_cons, List.drop_zero]
      repeat still_step
      refine wpStill_nil ?_
      go_wp2_with fail
      refine (put_es 0 8 40 _ H1.out (by omega) (by rfl) (by omega) (by omega) (u64_val _).1 (u64_val _).2).mono ?_
      rintro e W2 ⟨rfl, h2⟩
      have H2 := Lib.hid h2
      have a1 := h2.cell1
      clear h2 H1 a0
      go_wp2
      refine still_tail 4 (by kernel_rfl) (by kernel_rfl) ?_
      simp only [List.take_succ_cons, List.take_zero, List.drop_succ_cons, List.drop_zero]
      repeat still_step
      refine wpStill_nil ?_
      go_wp2_with fail
      refine (put_es 8 8 32 _ H2.out (by omega) (by rfl) (by omega) (by omega) (u64_val _).1 (u64_val _).2).mono ?_
      rintro e W3 ⟨rfl, h3⟩
      have H3 := Lib.hid h3
      have a2 := h3.cell2
      clear h3 H2 a1
      go_wp2
      refine still_tail 5 (by kernel_rfl) (by kernel_rfl) ?_
      simp only [List.take_succ_cons, List.take_zero, List.drop_succ_cons, List.drop_zero]
      repeat still_step
      refine wpStill_nil ?_
      go_wp2_with fail
      refine (put_es 16 4 24 _ H3.out (by omega) (by rfl) (by omega) (by omega) (u64_val _).1 (u64_val _).2).mono ?_
      rintro e W4 ⟨rfl, h4⟩
      have H4 := Lib.hid h4
      have a3 := h4.cell3
      clear h4 H3 a2
      go_wp2
      refine still_tail 5 (by kernel_rfl) (by kernel_rfl) ?_
      simp only [List.take_succ_cons, List.take_zero, List.drop_succ_cons, List.drop_zero]
      repeat still_step
      refine wpStill_nil ?_
      go_wp2_with fail
      refine (put_es 20 4 20 _ H4.out (by omega) (by rfl) (by omega) (by omega) (u64_val _).1 (u64_val _).2).mono ?_
      rintro e W5 ⟨rfl, h5⟩
      have H5 := Lib.hid h5
      have a4 := h5.cell4
      clear h5 H4 a3
      go_wp2
      refine still_tail 4 (by kernel_rfl) (by kernel_rfl) ?_
      simp only [List.take_succ_cons, List.take_zero, List.drop_succ_cons, List.drop_zero]
      repeat still_step
      refine wpStill_nil ?_
      go_wp2_with fail
      refine (put_es 24 8 16 _ H5.out (by omega) (by rfl) (by omega) (by omega) (u64_val _).1 (u64_val _).2).mono ?_
      rintro e W6 ⟨rfl, h6⟩
      have H6 := Lib.hid h6
      have a5 := h6.cell5
      clear h6 H5 a4
      go_wp2
      refine still_tail 4 (by kernel_rfl) (by kernel_rfl) ?_
      simp only [List.take_succ_cons, List.take_zero, List.drop_succ_cons, List.drop_zero]
      repeat still_step
      refine wpStill_nil ?_
      go_wp2_with fail
      refine (put_es 32 8 8 _ H6.out (by omega) (by rfl) (by omega) (by omega) (u64_val _).1 (u64_val _).2).mono ?_
      rintro e W7 ⟨rfl, h7⟩
      have H7 := Lib.hid h7
      clear h7 H6 a5
      go_wp2
      have m0 : IntKind.i64.wrap ((k : Int) * 40) = (k : Int) * 40 := IntWalk.i64_in _ (by omega)
      have m1 : (0 : Int) ≤ (k : Int) * 40 := by omega
      have m2 : ((k : Int) * 40) ≤ ((l.length * 40 : Nat) : Int) := by omega
      have m3 : ((k : Int) * 40).toNat = k * 40 := by omega
      have m4 : ¬ l.length * 40 = k * 40 := by omega
      refine still_tail 5 (by kernel_rfl) (by kernel_rfl) ?_
      simp only [List.take_succ_cons, List.take_zero, List.drop_succ_cons, List.drop_zero]
      repeat still_step
      refine wpStill_nil ?_
      have hout := H7.out.keep.blk HU.out (by show ¬ ob = wr.heap.size + 1; have := blk_lt HU.out; omega)
      have henc := wrapped_enc x
      have hW7 : Below w.heap.size w W7 := (HW.out.trans (H7.out.keep.below (B := w.heap.size) HW.out.size (fun i hi => by have := HW.out.size; omega)))
      have harr : U8 W7 (wr.heap.size + 1) 88 (enc40 x) := by have := H7.out.arr; rw [henc] at this; simpa using this
      have HA := Lib.hid harr
      have HO := Lib.hid hout
      have HW7 := Lib.hid hW7
      have hsp := splice_rec l k x hlt HT.out
      have HSP := Lib.hid hsp
      clear hout henc hW7 harr hsp H7
      refine wpList_copy_splice rfl (.tmp 59) (.tmp 60) 23 23 rfl 5 Try.underlying23 (by kernel_rfl) (some ⟨ob, k * 40, none⟩) (some ⟨wr.heap.size + 1, 0, none⟩) (l.length * 40 - k * 40) (l.length * 40 - k * 40) 40 40 (by rfl) (by rfl)
        ob (k * 40) (u8s ((l.take k).flatMap enc40 ++ List.replicate ((l.length - k) * 40) 0)) 5 HO.out (u8s (enc40 x)) ?_ ?_ ?_ ?_ ob W7 ?_ (Nat.le_refl _) ?_
      · rw [u8s_length, enc40_length]; symm; exact Nat.min_eq_left (by omega)
      · intro _
        refine ⟨rfl, ⟨wr.heap.size + 1, 0, none⟩, rfl, fun j v hv => ?_⟩
        rw [add_plain, blk_cell (blk_drew HA.out)]
        simpa using hv
      · simp only [u8s_length, enc40_length, List.length_append, List.length_replicate, flat_len, List.length_take]; omega
      · intro v hv
        simp [u8s] at hv
        obtain ⟨z, -, rfl⟩ := hv
        rfl
      · exact below_drew (Below.refl _ _)
      intro W8 hc8 hb8
      rw [u8s_splice, HSP.out] at hc8
      have HU8 : Hid (U8 W8 ob 5 ((l.take (k + 1)).flatMap enc40 ++ List.replicate ((l.length - (k + 1)) * 40) 0)) := hc8
      have HB8 := Lib.hid (HW7.out.trans (hb8.mono hob))
      clear hc8 hb8 HO HA HW7 HSP HU m0 m1 m2 m3 m4
      go_wp2
      go_roundw
      case rel => exact ⟨k + 1, by omega, by go_num, HU8, HB8⟩
      case measure => simp [intOf]; omega
    · have : k = l.length := by omega
      subst this
      go_wp2
      go_ret2
      refine ⟨_, rfl, ?_, HW.out⟩
      have hu := HU.out
      simp at hu
      exact R_of_U8 hu hob (flat_len l) (by omega)
end Go.Proofs.Ytepceelkfbjamaa
