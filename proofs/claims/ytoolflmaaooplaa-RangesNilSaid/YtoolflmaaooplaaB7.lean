/- Ranges: canonical. -/
import Derived.Test.YtoolflmaaooplaaB6
namespace Go.Proofs.Ytoolflmaaooplaa
set_option linter.unusedVariables false
set_option linter.unusedSimpArgs false
open Go.RowKit Go.Maps Go.Sort Go.Lib Go.Shelf Go.Proofs.YtoolflmaaooplaaW.PrintWords Go.Proofs.YtoolflmaaooplaaW.PrintLast Go.Proofs.YtoolflmaaooplaaW.PrintMore FLib
attribute [local go_sem] below_alloc_T below_drew_T below_drewN_T

theorem abs_e {Q : Exit → Act → World → Prop} {e : Exit} {a : Act} {w : World} (F : World → Prop) (h0 : F w) (h : ∀ w2, F w2 → Q e a w2) : Q e a w := h w h0
theorem cell_same {W W' : World} {b o : Nat} (h : W'.heap[b]? = W.heap[b]?) : W'.cell? ⟨b, o, none⟩ = W.cell? ⟨b, o, none⟩ := World.cell?_of_block h
theorem own_set {w : World} {base e sz g c n : Nat} {xs : List Value} (h : w.ownsRow base e sz (.slice (some ⟨g, 0, none⟩) n c) n xs) (i : Nat) (u : Value) : (w.setCell ⟨g, i, none⟩ u).ownsRow base e sz (.slice (some ⟨g, 0, none⟩) n c) n (xs.set i u) := by
  refine ⟨by rw [List.length_set]; exact h.1, ?_⟩
  rcases h.2 with ⟨h2, -⟩ | ⟨g', c', cur, h1, hb, h3, h4, h5, h6, h7⟩
  · cases h2
  · cases h1
    exact .inr ⟨g, c, cur.setIfInBounds i u, rfl, hb, blk_set h3 i u, h4, h5, by simpa using h6, by rw [Array.toList_setIfInBounds, List.take_set, h7]⟩
theorem own_frozen {w : World} {base e sz g c n : Nat} {xs : List Value} (h : w.ownsRow base e sz (.slice (some ⟨g, 0, none⟩) n c) n xs) (i : Nat) : w.frozen? ⟨g, i, none⟩ = false := by
  rcases h.2 with ⟨h2, -⟩ | ⟨g', c', cur, h1, hb, h3, -⟩
  · cases h2
  · cases h1; exact blk_frozen h3 i
theorem sflat_set (A : List Sp) (z : Sp) (h' : Int) : (sflat (A ++ [z])).set (A.length * 3 + 1) (.int .i64 h') = sflat (A ++ [⟨z.lo, h', z.ex⟩]) := by
  rw [sflat_snoc, sflat_snoc, List.set_append_right _ _ (by rw [sflat_len]; omega), sflat_len, Nat.add_sub_cancel_left]
  rfl
/-- One span more is joined to those before it. -/
def joinS (out : List Sp) (s : Sp) : List Sp :=
  match out.getLast? with
  | some z => if z.hi == s.lo && z.ex == s.ex then out.dropLast ++ [⟨z.lo, s.hi, z.ex⟩] else out ++ [s]
  | none => [s]
def joinP (l : List Sp) : List Sp := l.foldl joinS []
theorem joinP_snoc {l : List Sp} {k : Nat} {s : Sp} (h : l[k]? = some s) : joinP (l.take (k + 1)) = joinS (joinP (l.take k)) s := by
  unfold joinP
  rw [List.take_add_one, h, List.foldl_append]
  rfl
theorem joinS_len (out : List Sp) (s : Sp) : (joinS out s).length ≤ out.length + 1 := by
  unfold joinS
  split
  · split
    · simp
    · simp
  · simp
theorem joinP_len (l : List Sp) : (joinP l).length ≤ l.length := by
  have : ∀ (l out : List Sp), (l.foldl joinS out).length ≤ out.length + l.length := fun l => by
    induction l with
    | nil => intro out; simp
    | cons a l ih => intro out; have := ih (joinS out a); have := joinS_len out a; simp only [List.foldl_cons, List.length_cons]; omega
  simpa [joinP] using this l []
theorem joinS_some (A : List Sp) (z s : Sp) : joinS (A ++ [z]) s = if z.hi == s.lo && z.ex == s.ex then A ++ [⟨z.lo, s.hi, z.ex⟩] else (A ++ [z]) ++ [s] := by
  unfold joinS; simp

set_option maxRecDepth 100000 in
set_option maxHeartbeats 1000000 in
theorem canon_any (base g c : Nat) (l : List Sp) (hl : l.length ≤ 10000) (w : World) (h : w.ownsRow base 71 3 (.slice (some ⟨g, 0, none⟩) l.length c) l.length (sflat l)) :
    Calls Try.prog 38 #[.slice (some ⟨g, 0, none⟩) l.length c] w fun e w' => ∃ u, e = .returned u ∧ ∃ l' : List Sp, l'.Perm l ∧ l'.Pairwise (fun a b => ¬ b.lo < a.lo) ∧ w'.ownsRow w.heap.size 71 3 u (joinP l').length (sflat (joinP l')) ∧ Keeps w w' (fun b => b = g) := by
  obtain ⟨i0, hi0, hz0, hz1, hz2⟩ := info_parts info71
  have HI := Lib.hid (And.intro hi0 (And.intro hz0 (And.intro hz1 hz2)))
  have HS := Lib.hid (sort_any base g c l (by omega) w h)
  have HG := Lib.hid (show g < w.heap.size from row_lt h rfl)
  have HL := Lib.hid hl
  clear h hl hi0 hz0 hz1 hz2
  go_enter Try.func38, Try.ntmps38
  go_wp2_with fail
  refine HS.out.mono ?_
  rintro e w1 ⟨rfl, l', hp, hsrt, hc, hk⟩
  have HP := Lib.hid (And.intro hp hsrt)
  have hlen := hp.length_eq
  have HC := Lib.hid hc
  have HK := Lib.hid hk
  clear hp hsrt hc hk HS
  rw [← hlen]
  have hl' : l'.length ≤ 10000 := by rw [hlen]; exact HL.out
  have HL2 := Lib.hid hl'
  clear hlen hl'
  go_wp2
  go_loopw [11, 3] (fun i u wr => ∃ k : Nat, k ≤ l'.length ∧ i = .int .i64 k ∧ wr.ownsRow w.heap.size 71 3 u (joinP (l'.take k)).length (sflat (joinP (l'.take k))) ∧ Hid (Keeps w1 wr (fun b => w.heap.size ≤ b))) (fun i _ _ => l'.length - (RowKit.intOf i).toNat)
  case atStart => exact ⟨0, Nat.zero_le _, rfl, World.ownsRow_nil _ _ _ _, Lib.hid (Keeps.refl _ _)⟩
  case round =>
    obtain ⟨k, hk, rfl, hown, hK⟩ := hrel
    have hlr : (l'.length : Int) ≤ 10000 := by have := HL2.out; omega
    by_cases hlt : k < l'.length
    · obtain ⟨s, hs⟩ : ∃ s, l'[k]? = some s := ⟨_, List.getElem?_eq_getElem hlt⟩
      have hgn : ¬ w.heap.size ≤ g := by have := HG.out; omega
      have hgw : wr.heap[g]? = w1.heap[g]? := hK.out.block g (Nat.lt_of_lt_of_le HG.out HK.out.size) hgn
      obtain ⟨p0, p1, p2⟩ := HC.out k s hs
      replace p0 := (cell_same (o := k * 3) hgw).trans p0
      replace p1 := (cell_same (o := k * 3 + 1) hgw).trans p1
      replace p2 := (cell_same (o := k * 3 + 2) hgw).trans p2
      have hk0 : (0 : Int) ≤ (k : Int) := by omega
      have hk1 : (k : Int) < (l'.length : Int) := by omega
      have HSS := Lib.hid hs
      have HJ := Lib.hid (joinP_snoc hs)
      have HLT := Lib.hid hlt
      have hol : (joinP (l'.take k)).length ≤ 10000 := by have := joinP_len (l'.take k); rw [List.length_take] at this; omega
      clear hs hlt hgn hgw
      generalize joinP (l'.take k) = out at hown HJ hol
      obtain ⟨s0, s1, s2⟩ := s
      simp only at p0 p1 p2
      rcases List.eq_nil_or_concat out with rfl | ⟨A, z, rfl⟩
      · rw [List.length_nil] at hown hol
        rcases row_form hown with ⟨rfl, -⟩ | ⟨g3, c3, rfl⟩
        · have HO := Lib.hid (And.intro hown hol)
          clear hown hol
          go_wp2
          refine abs_w (fun W2 => W2.heap[wr.heap.size]? = some (.cells #[.int .i64 s0, .int .i64 s1, .bool s2] 71 (0, 0)) ∧ Below wr.heap.size wr W2) ⟨blk_new _ _, below_alloc (Below.refl _ _) _⟩ ?_
          rintro W2 ⟨h5, hb2⟩
          have r0 : W2.cell? ⟨wr.heap.size, 0, none⟩ = some (.int .i64 s0) := blk_cell h5 0
          have r1 : W2.cell? ⟨wr.heap.size, 1, none⟩ = some (.int .i64 s1) := blk_cell h5 1
          have r2 : W2.cell? ⟨wr.heap.size, 2, none⟩ = some (.bool s2) := blk_cell h5 2
          have HB := Lib.hid (And.intro hb2 h5)
          generalize wr.heap.size = b5 at r0 r1 r2 ⊢
          clear h5 hb2 p0 p1 p2 hk0 hk1
          go_quiet (fail)
          have HJ2 := Lib.hid (show joinP (l'.take (k + 1)) = [⟨s0, s1, s2⟩] from HJ.out)
          clear HJ
          refine abs_e (fun W3 => Below W2.heap.size W2 W3) (pw_below_drewN (Below.refl _ _) _) ?_
          rintro W3 hb3
          replace r0 := pw_cell_below hb3 r0
          replace r1 := pw_cell_below hb3 r1
          replace r2 := pw_cell_below hb3 r2
          have hb23 := below_step HB.out.1 hb3
          have HR3 := Lib.hid (And.intro (pw_own_below HO.out.1 hb23) (And.intro (hK.out.trans (Keeps.of_below hb23 (fun _ => False)) (fun _ h => h.elim)) (And.intro (show w.heap.size ≤ W3.heap.size by have := hb23.size; have := hK.out.size; have := HK.out.size; omega) HO.out.2)))
          clear hb3 hb23
          go_wp2_with (at_builtin; refine wpList_append_own (W3.alloc (.cells #[.int .i64 s0, .int .i64 s1, .bool s2] 71)) rfl (.tmp 48) (.tmp 50) 60 rfl w.heap.size 71 i0 (.agg #[.int .i64 0, .int .i64 0, .bool false]) 3 24 Try.underlying60 HI.out.1 HI.out.2.1 HI.out.2.2.1 HI.out.2.2.2 rfl (by decide) (.slice none 0 0) 0 (sflat []) rfl (World.ownsRow.alloc HR3.out.1 _) ⟨W3.heap.size, 0, none⟩ 1 1 [.int .i64 s0, .int .i64 s1, .bool s2] rfl rfl (fun j z h => cells_new j z h) (by simp [Value.oneCell']) (by have := HR3.out.2.2.2; unfold maxLen; omega) (by have := HR3.out.2.2.2; omega) (by have := HR3.out.2.2.1; simp; omega) ?_; intro v' w4 hown' hg4 hnil4)
          obtain ⟨hr3, hk3, hz3, hn3⟩ := HR3.out
          have HN := Lib.hid (show w4.ownsRow w.heap.size 71 3 v' (joinP (l'.take (k + 1))).length (sflat (joinP (l'.take (k + 1)))) by
            rw [HJ2.out]
            simpa [sflat, Sp.cells] using hown')
          have HKK := Lib.hid (show Keeps w1 w4 (fun b => w.heap.size ≤ b) from (hk3.alloc _).grown hg4 (fun j hj => .inl (hr3.lt j hj).1))
          clear hown' hg4 hnil4 hr3 hk3 hz3 hn3
          go_roundw
          case rel => exact ⟨k + 1, by have := HLT.out; omega, by go_num, HN.out, HKK⟩
          case measure => simp [RowKit.intOf]; have := HLT.out; omega
        · have HO := Lib.hid (And.intro hown hol)
          clear hown hol
          go_wp2
          refine abs_w (fun W2 => W2.heap[wr.heap.size]? = some (.cells #[.int .i64 s0, .int .i64 s1, .bool s2] 71 (0, 0)) ∧ Below wr.heap.size wr W2) ⟨blk_new _ _, below_alloc (Below.refl _ _) _⟩ ?_
          rintro W2 ⟨h5, hb2⟩
          have r0 : W2.cell? ⟨wr.heap.size, 0, none⟩ = some (.int .i64 s0) := blk_cell h5 0
          have r1 : W2.cell? ⟨wr.heap.size, 1, none⟩ = some (.int .i64 s1) := blk_cell h5 1
          have r2 : W2.cell? ⟨wr.heap.size, 2, none⟩ = some (.bool s2) := blk_cell h5 2
          have HB := Lib.hid (And.intro hb2 h5)
          generalize wr.heap.size = b5 at r0 r1 r2 ⊢
          clear h5 hb2 p0 p1 p2 hk0 hk1
          go_quiet (fail)
          have HJ2 := Lib.hid (show joinP (l'.take (k + 1)) = [⟨s0, s1, s2⟩] from HJ.out)
          clear HJ
          refine abs_e (fun W3 => Below W2.heap.size W2 W3) (pw_below_drewN (Below.refl _ _) _) ?_
          rintro W3 hb3
          replace r0 := pw_cell_below hb3 r0
          replace r1 := pw_cell_below hb3 r1
          replace r2 := pw_cell_below hb3 r2
          have hb23 := below_step HB.out.1 hb3
          have HR3 := Lib.hid (And.intro (pw_own_below HO.out.1 hb23) (And.intro (hK.out.trans (Keeps.of_below hb23 (fun _ => False)) (fun _ h => h.elim)) (And.intro (show w.heap.size ≤ W3.heap.size by have := hb23.size; have := hK.out.size; have := HK.out.size; omega) HO.out.2)))
          clear hb3 hb23
          go_wp2_with (at_builtin; refine wpList_append_own (W3.alloc (.cells #[.int .i64 s0, .int .i64 s1, .bool s2] 71)) rfl (.tmp 48) (.tmp 50) 60 rfl w.heap.size 71 i0 (.agg #[.int .i64 0, .int .i64 0, .bool false]) 3 24 Try.underlying60 HI.out.1 HI.out.2.1 HI.out.2.2.1 HI.out.2.2.2 rfl (by decide) (.slice (some ⟨g3, 0, none⟩) 0 c3) 0 (sflat []) rfl (World.ownsRow.alloc HR3.out.1 _) ⟨W3.heap.size, 0, none⟩ 1 1 [.int .i64 s0, .int .i64 s1, .bool s2] rfl rfl (fun j z h => cells_new j z h) (by simp [Value.oneCell']) (by have := HR3.out.2.2.2; unfold maxLen; omega) (by have := HR3.out.2.2.2; omega) (by have := HR3.out.2.2.1; simp; omega) ?_; intro v' w4 hown' hg4 hnil4)
          obtain ⟨hr3, hk3, hz3, hn3⟩ := HR3.out
          have HN := Lib.hid (show w4.ownsRow w.heap.size 71 3 v' (joinP (l'.take (k + 1))).length (sflat (joinP (l'.take (k + 1)))) by
            rw [HJ2.out]
            simpa [sflat, Sp.cells] using hown')
          have HKK := Lib.hid (show Keeps w1 w4 (fun b => w.heap.size ≤ b) from (hk3.alloc _).grown hg4 (fun j hj => .inl (hr3.lt j hj).1))
          clear hown' hg4 hnil4 hr3 hk3 hz3 hn3
          go_roundw
          case rel => exact ⟨k + 1, by have := HLT.out; omega, by go_num, HN.out, HKK⟩
          case measure => simp [RowKit.intOf]; have := HLT.out; omega
      · rw [List.concat_eq_append] at hown HJ hol
        rw [joinS_some] at HJ
        rw [List.length_append, List.length_singleton] at hown hol
        obtain ⟨g3, c3, rfl⟩ := row_some hown
        obtain ⟨q0, q1, q2⟩ := row_sp (l := A ++ [z]) hown (k := A.length) (x := z) (by simp)
        have hz0 : (0 : Int) ≤ (A.length : Int) := by omega
        have hz1 : (A.length : Int) < (A.length : Int) + 1 := by omega
        have hz2 : decide ((0 : Int) < (A.length : Int) + 1) = true := decide_eq_true (by omega)
        have hzw : IntKind.i64.wrap (A.length : Int) = (A.length : Int) := IntWalk.i64_in _ (by omega)
        obtain ⟨z0, z1, z2⟩ := z
        simp only at q0 q1 q2 HJ
        have HO := Lib.hid (And.intro hown hol)
        clear hown hol
        obtain ⟨b1, d1⟩ : ∃ b, (z1 == s0) = b := ⟨_, rfl⟩
        obtain ⟨b2, d2⟩ : ∃ b, (z2 == s2) = b := ⟨_, rfl⟩
        rw [d1, d2] at HJ
        go_wp2
        refine abs_w (fun W2 => W2.heap[wr.heap.size]? = some (.cells #[.int .i64 s0, .int .i64 s1, .bool s2] 71 (0, 0)) ∧ Below wr.heap.size wr W2) ⟨blk_new _ _, below_alloc (Below.refl _ _) _⟩ ?_
        rintro W2 ⟨h5, hb2⟩
        have r0 : W2.cell? ⟨wr.heap.size, 0, none⟩ = some (.int .i64 s0) := blk_cell h5 0
        have r1 : W2.cell? ⟨wr.heap.size, 1, none⟩ = some (.int .i64 s1) := blk_cell h5 1
        have r2 : W2.cell? ⟨wr.heap.size, 2, none⟩ = some (.bool s2) := blk_cell h5 2
        replace q0 := pw_cell_below hb2 q0
        replace q1 := pw_cell_below hb2 q1
        replace q2 := pw_cell_below hb2 q2
        have HB := Lib.hid (And.intro hb2 h5)
        generalize wr.heap.size = b5 at r0 r1 r2 ⊢
        clear h5 hb2 p0 p1 p2 hk0 hk1
        cases b1
        · go_quiet (fail)
          have HJ2 := Lib.hid (show joinP (l'.take (k + 1)) = (A ++ [⟨z0, z1, z2⟩]) ++ [⟨s0, s1, s2⟩] from HJ.out.trans (by simp))
          clear HJ d1 d2
          refine abs_e (fun W3 => Below W2.heap.size W2 W3) (pw_below_drewN (Below.refl _ _) _) ?_
          rintro W3 hb3
          replace r0 := pw_cell_below hb3 r0
          replace r1 := pw_cell_below hb3 r1
          replace r2 := pw_cell_below hb3 r2
          have hb23 := below_step HB.out.1 hb3
          have HR3 := Lib.hid (And.intro (pw_own_below HO.out.1 hb23) (And.intro (hK.out.trans (Keeps.of_below hb23 (fun _ => False)) (fun _ h => h.elim)) (And.intro (show w.heap.size ≤ W3.heap.size by have := hb23.size; have := hK.out.size; have := HK.out.size; omega) HO.out.2)))
          clear hb3 hb23
          go_wp2_with (at_builtin; refine wpList_append_own (W3.alloc (.cells #[.int .i64 s0, .int .i64 s1, .bool s2] 71)) rfl (.tmp 48) (.tmp 50) 60 rfl w.heap.size 71 i0 (.agg #[.int .i64 0, .int .i64 0, .bool false]) 3 24 Try.underlying60 HI.out.1 HI.out.2.1 HI.out.2.2.1 HI.out.2.2.2 rfl (by decide) (.slice (some ⟨g3, 0, none⟩) (A.length + 1) c3) (A.length + 1) (sflat (A ++ [⟨z0, z1, z2⟩])) rfl (World.ownsRow.alloc HR3.out.1 _) ⟨W3.heap.size, 0, none⟩ 1 1 [.int .i64 s0, .int .i64 s1, .bool s2] rfl rfl (fun j z h => cells_new j z h) (by simp [Value.oneCell']) (by have := HR3.out.2.2.2; unfold maxLen; omega) (by have := HR3.out.2.2.2; omega) (by have := HR3.out.2.2.1; simp; omega) ?_; intro v' w4 hown' hg4 hnil4)
          obtain ⟨hr3, hk3, hz3, hn3⟩ := HR3.out
          have HN := Lib.hid (show w4.ownsRow w.heap.size 71 3 v' (joinP (l'.take (k + 1))).length (sflat (joinP (l'.take (k + 1)))) by
            rw [HJ2.out, sflat_snoc, List.length_append]
            simpa [Sp.cells] using hown')
          have HKK := Lib.hid (show Keeps w1 w4 (fun b => w.heap.size ≤ b) from (hk3.alloc _).grown hg4 (fun j hj => .inl (hr3.lt j hj).1))
          clear hown' hg4 hnil4 hr3 hk3 hz3 hn3
          go_roundw
          case rel => exact ⟨k + 1, by have := HLT.out; omega, by go_num, HN.out, HKK⟩
          case measure => simp [RowKit.intOf]; have := HLT.out; omega
        · cases b2
          · go_quiet (fail)
            have HJ2 := Lib.hid (show joinP (l'.take (k + 1)) = (A ++ [⟨z0, z1, z2⟩]) ++ [⟨s0, s1, s2⟩] from HJ.out.trans (by simp))
            clear HJ d1 d2
            refine abs_e (fun W3 => Below W2.heap.size W2 W3) (pw_below_drewN (Below.refl _ _) _) ?_
            rintro W3 hb3
            replace r0 := pw_cell_below hb3 r0
            replace r1 := pw_cell_below hb3 r1
            replace r2 := pw_cell_below hb3 r2
            have hb23 := below_step HB.out.1 hb3
            have HR3 := Lib.hid (And.intro (pw_own_below HO.out.1 hb23) (And.intro (hK.out.trans (Keeps.of_below hb23 (fun _ => False)) (fun _ h => h.elim)) (And.intro (show w.heap.size ≤ W3.heap.size by have := hb23.size; have := hK.out.size; have := HK.out.size; omega) HO.out.2)))
            clear hb3 hb23
            go_wp2_with (at_builtin; refine wpList_append_own (W3.alloc (.cells #[.int .i64 s0, .int .i64 s1, .bool s2] 71)) rfl (.tmp 48) (.tmp 50) 60 rfl w.heap.size 71 i0 (.agg #[.int .i64 0, .int .i64 0, .bool false]) 3 24 Try.underlying60 HI.out.1 HI.out.2.1 HI.out.2.2.1 HI.out.2.2.2 rfl (by decide) (.slice (some ⟨g3, 0, none⟩) (A.length + 1) c3) (A.length + 1) (sflat (A ++ [⟨z0, z1, z2⟩])) rfl (World.ownsRow.alloc HR3.out.1 _) ⟨W3.heap.size, 0, none⟩ 1 1 [.int .i64 s0, .int .i64 s1, .bool s2] rfl rfl (fun j z h => cells_new j z h) (by simp [Value.oneCell']) (by have := HR3.out.2.2.2; unfold maxLen; omega) (by have := HR3.out.2.2.2; omega) (by have := HR3.out.2.2.1; simp; omega) ?_; intro v' w4 hown' hg4 hnil4)
            obtain ⟨hr3, hk3, hz3, hn3⟩ := HR3.out
            have HN := Lib.hid (show w4.ownsRow w.heap.size 71 3 v' (joinP (l'.take (k + 1))).length (sflat (joinP (l'.take (k + 1)))) by
              rw [HJ2.out, sflat_snoc, List.length_append]
              simpa [Sp.cells] using hown')
            have HKK := Lib.hid (show Keeps w1 w4 (fun b => w.heap.size ≤ b) from (hk3.alloc _).grown hg4 (fun j hj => .inl (hr3.lt j hj).1))
            clear hown' hg4 hnil4 hr3 hk3 hz3 hn3
            go_roundw
            case rel => exact ⟨k + 1, by have := HLT.out; omega, by go_num, HN.out, HKK⟩
            case measure => simp [RowKit.intOf]; have := HLT.out; omega
          · go_quiet (fail)
            have HJ2 := Lib.hid (show joinP (l'.take (k + 1)) = A ++ [⟨z0, s1, z2⟩] from HJ.out.trans (by simp))
            clear HJ d1 d2
            refine abs_e (fun W3 => Below W2.heap.size W2 W3) (pw_below_drewN (Below.refl _ _) _) ?_
            rintro W3 hb3
            replace r0 := pw_cell_below hb3 r0
            replace r1 := pw_cell_below hb3 r1
            replace r2 := pw_cell_below hb3 r2
            have hb23 := below_step HB.out.1 hb3
            have HR3 := Lib.hid (And.intro (pw_own_below HO.out.1 hb23) (And.intro (hK.out.trans (Keeps.of_below hb23 (fun _ => False)) (fun _ h => h.elim)) (And.intro (show w.heap.size ≤ W3.heap.size by have := hb23.size; have := hK.out.size; have := HK.out.size; omega) HO.out.2)))
            replace q1 := pw_cell_below hb3 q1
            clear hb3 hb23
            have f1 : W3.frozen? ⟨g3, A.length * 3 + 1, none⟩ = false := own_frozen HR3.out.1 _
            go_wp2
            obtain ⟨hr3, hk3, hz3, hn3⟩ := HR3.out
            have HN := Lib.hid (show (W3.setCell ⟨g3, A.length * 3 + 1, none⟩ (.int .i64 s1)).ownsRow w.heap.size 71 3 (.slice (some ⟨g3, 0, none⟩) (A.length + 1) c3) (joinP (l'.take (k + 1))).length (sflat (joinP (l'.take (k + 1)))) by
              rw [HJ2.out, List.length_append, ← sflat_set A ⟨z0, z1, z2⟩ s1]
              exact own_set hr3 _ _)
            have HKK := Lib.hid (show Keeps w1 (W3.setCell ⟨g3, A.length * 3 + 1, none⟩ (.int .i64 s1)) (fun b => w.heap.size ≤ b) from hk3.set _ _ (.inl (hr3.lt g3 rfl).1))
            clear hr3 hk3 hz3 hn3
            go_roundw
            case rel => exact ⟨k + 1, by have := HLT.out; omega, by go_num, HN.out, HKK⟩
            case measure => simp [RowKit.intOf]; have := HLT.out; omega
    · obtain rfl : k = l'.length := by omega
      rw [List.take_length] at hown
      go_wp2
      go_ret
      exact ⟨_, rfl, l', HP.out.1, HP.out.2, hown, HK.out.trans hK.out (fun i hi => .inr hi)⟩
end Go.Proofs.Ytoolflmaaooplaa
