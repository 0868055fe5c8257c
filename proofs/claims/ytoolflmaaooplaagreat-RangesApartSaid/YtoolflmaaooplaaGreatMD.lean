/- Ranges: collect, sort, canonical, with. -/
import Derived.Test.YtoolflmaaooplaaGreatMC
import Derived.OwnWalkIn
import Derived.Maps.OwnIn
import Derived.Test.YtoolflmaaooplaaGreatLayS
namespace Go.Proofs.YtoolflmaaooplaaGreat
section
set_option linter.unusedVariables false
set_option linter.unusedSimpArgs false
open Go.RowKit Go.Maps Go.Sort Go.Lib Go.Shelf Go.Proofs.YtoolflmaaooplaaGreatW.PrintWords Go.Proofs.YtoolflmaaooplaaGreatW.PrintLast Go.Proofs.YtoolflmaaooplaaGreatW.PrintMore FLib
attribute [local go_sem] Oper.semAt_some
attribute [local go_sem] below_alloc_T below_drew_T below_drewN_T

theorem info71 : (Tryz.prog.info? 50).map (fun i => (i.zero, i.size, i.bytes)) = some (some (.agg #[.int .i64 0, .int .i64 0, .bool false]), 3, 24) := by kernel_rfl
theorem info23 : (Tryz.prog.info? 29).map (fun i => (i.zero, i.size, i.bytes)) = some (some (.agg #[.int .i64 0, .int .i64 0, .int .i64 0, .bool false]), 4, 32) := by kernel_rfl
def encVP (L : List Sp) (k : Nat) : Value := match L[k]? with | some x => spV x | none => .int .i64 0
theorem encP_eq (L : List Sp) (k : Nat) : encP L k = #[encVP L k] := by unfold encP encVP; cases L[k]? <;> rfl
theorem sflat_len (L : List Sp) : (sflat L).length = L.length * 3 := by induction L with | nil => rfl | cons a L ih => unfold sflat at *; rw [List.flatMap_cons, List.length_append, ih]; simp [Sp.cells]; omega
theorem sflat_snoc (L : List Sp) (x : Sp) : sflat (L ++ [x]) = sflat L ++ x.cells := by unfold sflat; simp
theorem cells_new {w : World} {cs : List Value} {ty : Nat} (j : Nat) (u : Value) (h : cs[j]? = some u) : (w.alloc (.cells cs.toArray ty)).cell? ((⟨w.heap.size, 0, none⟩ : Addr).add j) = some u := by
  rw [addmk, Nat.zero_add]
  exact (blk_cell (blk_new w (.cells cs.toArray ty)) j).trans (by simpa using h)
theorem row_some {w : World} {base e sz n : Nat} {v : Value} {xs : List Value} (h : w.ownsRow base e sz v (n + 1) xs) : ∃ g c, v = .slice (some ⟨g, 0, none⟩) (n + 1) c := by
  rcases row_form h with ⟨-, h2⟩ | h2
  · omega
  · exact h2
theorem cut_le (l : List Sp) (lo hi : Int) : (cutP l lo hi).length ≤ 2 * l.length := by
  unfold cutP
  induction l with
  | nil => simp
  | cons a l ih =>
    rw [List.flatMap_cons, List.length_append, List.length_append, List.length_cons]
    have : (leftP a lo).length ≤ 1 := by unfold leftP; split <;> simp
    have : (rightP a hi).length ≤ 1 := by unfold rightP; split <;> simp
    omega
/-- What has been collected. -/
structure ApI (W0 : World) (base q : Nat) (L : List Sp) (B : Nat → Prop) (k : Nat) (W : World) : Prop where
  keep : Keeps W0 W (fun b => b = q)
  inB : B (W0.heap.size + 1)
  box : ∃ u, W.heap[q]? = some (.cells #[u] 45 (0, 0)) ∧ W.ownsRow base 50 3 u (L.take k).length (sflat (L.take k)) ∧ ∀ b, u.ownBlock = some b → b ≠ q ∧ ¬ B b ∧ W0.heap.size + 2 ≤ b
  size : W0.heap.size + 2 ≤ W.heap.size
theorem ApI.mono {W0 : World} {base q : Nat} {L : List Sp} {B B' : Nat → Prop} {k : Nat} {W : World} (h : ApI W0 base q L B k W) (hs : ∀ b, B' b → B b) (hb : B' (W0.heap.size + 1)) : ApI W0 base q L B' k W := by
  obtain ⟨hk, hi, ⟨u, h1, h2, h3⟩, hz⟩ := h
  exact ⟨hk, hb, ⟨u, h1, h2, fun b hb' => ⟨(h3 b hb').1, fun hB => (h3 b hb').2.1 (hs b hB), (h3 b hb').2.2⟩⟩, hz⟩
theorem ApI.put {W0 : World} {base q : Nat} {L : List Sp} {B : Nat → Prop} {k : Nat} {W : World} (h : ApI W0 base q L B k W) (hq : q < W0.heap.size) (o : Obj) : ApI W0 base q L B k (W.putObj (W0.heap.size + 1) o) := by
  obtain ⟨hk, hi, ⟨u, h1, h2, h3⟩, hz⟩ := h
  have hn : ∀ b, u.ownBlock = some b → b ≠ W0.heap.size + 1 := fun b hb e => (h3 b hb).2.1 (e ▸ hi)
  exact ⟨hk.trans (G := fun b => b = W0.heap.size + 1) ⟨rfl, rfl, rfl, by simp [World.putObj], fun b _ hb => World.putObj_heap_other hb⟩ (fun b hb => .inr (by omega)), hi, ⟨u,
    (World.putObj_heap_other (by omega)).trans h1, own_move h2 (fun b hb => World.putObj_heap_other (hn b hb)), h3⟩, by simpa [World.putObj] using hz⟩
theorem ApI.ext {W0 : World} {base q : Nat} {L : List Sp} {B : Nat → Prop} {k : Nat} {W W2 : World} (h : ApI W0 base q L B k W) (hb : Below W.heap.size W W2) : ApI W0 base q L (ext B W W2) k W2 := by
  obtain ⟨hk, hi, ⟨u, h1, h2, h3⟩, hz⟩ := h
  exact ⟨hk.trans (Keeps.of_below hb (fun _ => False)) (fun _ h => h.elim), .inl hi, ⟨u, blk_below h1 hb, pw_own_below h2 hb, fun b hb' => ⟨(h3 b hb').1, fun he => by
    rcases he with he | ⟨he, -⟩
    · exact (h3 b hb').2.1 he
    · have := row_lt h2 hb'; omega, (h3 b hb').2.2⟩⟩, Nat.le_trans hz hb.size⟩

set_option maxRecDepth 100000 in
theorem without_nil_at (m : Nat) (hm : 3 ≤ m) (q : Nat) (lo hi : Int) (w : World) (h : RdW q (.slice none 0 0) [] lo hi w) :
    SeqAt m Tryz.prog 69 #[] #[.pointer (some ⟨q, 0, none⟩), .pointer (some ⟨q + 1, 0, none⟩), .pointer (some ⟨q + 2, 0, none⟩)] (cutP [] lo hi).length (encP (cutP [] lo hi)) (fun _ W => RdW q (.slice none 0 0) [] lo hi W) w := by
  intro yl J Jx W hW hRd hX hY h0
  have HJ0 := Lib.hid h0
  have c0 : W.cell? ⟨q, 0, none⟩ = some (.slice none 0 0) := blk_cell (hRd _ _ _ h0).b0 0
  clear h hW hRd hX hY h0
  refine callsIn_of_wp Tryz.func69 rfl trivial ?_ rfl
  simp only [Tryz.ntmps69, List.size_toArray, List.length_cons, List.length_nil, Nat.reduceAdd, Nat.reduceSub, Array.replicate_succ, Array.replicate_zero, List.push_toArray, List.append_toArray, List.nil_append, List.cons_append]
  gi_wp2
  gi_loopw [11] (fun i wr => i = .int .i64 0 ∧ wr = W) (fun _ _ => 0)
  case atStart => exact ⟨rfl, rfl⟩
  case round =>
    obtain ⟨rfl, rfl⟩ := hrel
    gi_wp2
    go_end0
    exact ⟨⟨_, rfl⟩, .inl ⟨_, HJ0.out⟩⟩
theorem without_v (m : Nat) (hm : 3 ≤ m) (q : Nat) (v : Value) (l : List Sp) (lo hi : Int) (hl : l.length ≤ 1000) (w : World) (h : RdW q v l lo hi w) :
    SeqAt m Tryz.prog 69 #[] #[.pointer (some ⟨q, 0, none⟩), .pointer (some ⟨q + 1, 0, none⟩), .pointer (some ⟨q + 2, 0, none⟩)] (cutP l lo hi).length (encP (cutP l lo hi)) (fun _ W => RdW q v l lo hi W) w := by
  rcases row_form h.row with ⟨rfl, hz⟩ | ⟨g, c, rfl⟩
  · obtain rfl : l = [] := List.eq_nil_of_length_eq_zero hz
    exact without_nil_at m hm q lo hi w h
  · exact without_at m hm q g c l lo hi hl w h

set_option maxRecDepth 100000 in
set_option maxHeartbeats 400000 in
theorem seq_any (q0 : Nat) (v : Value) (l : List Sp) (lo hi : Int) (hl : l.length ≤ 1000) (w : World) (h : RdW q0 v l lo hi w) :
    Calls Tryz.prog 68 #[.slice none 0 0, .func (.func 69) #[] #[.pointer (some ⟨q0, 0, none⟩), .pointer (some ⟨q0 + 1, 0, none⟩), .pointer (some ⟨q0 + 2, 0, none⟩)]] w fun e w' =>
      ∃ u, e = .returned u ∧ w'.ownsRow w.heap.size 50 3 u (cutP l lo hi).length (sflat (cutP l lo hi)) ∧ Below w.heap.size w w' := by
  refine (callsIn_wide (n := 20)).1 ?_
  have HR := Lib.hid h
  have HL := Lib.hid hl
  obtain ⟨i0, hi0, hz0, hz1, hz2⟩ := info_parts info71
  have HI := Lib.hid (And.intro hi0 (And.intro hz0 (And.intro hz1 hz2)))
  clear h hl hi0 hz0 hz1 hz2
  refine callsIn_of_wp_marks Tryz.func68 rfl trivial ?_ rfl
  simp only [Tryz.ntmps68, List.size_toArray, List.length_cons, List.length_nil, Nat.reduceAdd, Nat.reduceSub, Array.replicate_succ, Array.replicate_zero, List.push_toArray, List.append_toArray, List.nil_append, List.cons_append]
  gi_wp2
  refine abs_in (fun W0 => W0.heap.size = w.heap.size + 1 ∧ W0.heap[w.heap.size]? = some (.cells #[.slice none 0 0] 45 (0, 0)) ∧ Below w.heap.size w W0) ⟨by simp, blk_new _ _, below_alloc (Below.refl _ _) _⟩ ?_
  rintro W0 ⟨hz0, h2, hB0⟩
  have hR0 : RdW q0 v l lo hi W0 := ⟨blk_below HR.out.b0 hB0, blk_below HR.out.b1 hB0, blk_below HR.out.b2 hB0, pw_own_below HR.out.row hB0⟩
  have hq := blk_lt HR.out.b2
  have hg : ∀ b, v.ownBlock = some b → b < w.heap.size := fun b hb => row_lt HR.out.row hb
  have HZ := Lib.hid (And.intro hz0 (And.intro hq hg))
  have HR0 := Lib.hid hR0
  have H2 := Lib.hid h2
  have HB0 := Lib.hid hB0
  clear hz0 hR0 h2 hB0 hq hg
  refine range_al (m := 20) (by omega) (gf := 69) (ba := #[]) (lb := #[.pointer (some ⟨q0, 0, none⟩), .pointer (some ⟨q0 + 1, 0, none⟩), .pointer (some ⟨q0 + 2, 0, none⟩)]) rfl (enters_of Tryz.func69 (by kernel_rfl) rfl)
    (without_v 19 (by omega) q0 v l lo hi HL.out W0 HR0.out) (fun k => encP_size _ k)
    (ApI W0 w.heap.size w.heap.size (cutP l lo hi)) (fun c W => False) ?rd ?inv (fun _ _ _ _ h _ => h.elim) ?ext ?start
    (fun k a W => ∃ b5, a = { tmps := #[.slice none 0 0, .func (.func 69) #[] #[.pointer (some ⟨q0, 0, none⟩), .pointer (some ⟨q0 + 1, 0, none⟩), .pointer (some ⟨q0 + 2, 0, none⟩)], .pointer (some ⟨w.heap.size, 0, none⟩), undef, .slice none 0 0, .pointer (some ⟨b5, 0, none⟩), .func (.func 69) #[] #[.pointer (some ⟨q0, 0, none⟩), .pointer (some ⟨q0 + 1, 0, none⟩), .pointer (some ⟨q0 + 2, 0, none⟩)], encVP (cutP l lo hi) k, undef, undef, undef, undef, undef], defers := [] } ∧ (∀ x, (cutP l lo hi)[k]? = some x → W.heap[b5]? = some (.cells x.cells.toArray 50 (0, 0))) ∧ W0.heap.size + 2 ≤ b5) ?fa ?mono
    ?assign ?body ?done (fun _ _ h _ => h.elim)
  case rd =>
    intro B k W hI
    have := HZ.out.1
    have := HZ.out.2.1
    have hb := fun b (hb : b < w.heap.size) => hI.keep.block b (by omega) (by omega)
    exact ⟨(hb _ (by omega)).trans HR0.out.b0, (hb _ (by omega)).trans HR0.out.b1, (hb _ (by omega)).trans HR0.out.b2, own_move HR0.out.row (fun b hb' => hb b (HZ.out.2.2 b hb'))⟩
  case inv => exact fun B k W r o hI _ => hI.put (by have := HZ.out; omega) o
  case ext => exact fun B k W1 W2 _ hI hb => hI.ext hb
  case start => exact fun W hb hz => ⟨Keeps.of_below hb _, .inr rfl, ⟨_, blk_below H2.out hb, World.ownsRow_nil _ _ _ _, by simp [Value.ownBlock]⟩, hz⟩
  case fa =>
    rintro k a W r o ⟨b5, rfl, h5, hz⟩ _
    exact ⟨b5, rfl, fun x hx => (World.putObj_heap_other (by omega)).trans (h5 x hx), hz⟩
  case mono => exact fun B B' k W hI hs _ hb => hI.mono hs hb
  case assign =>
    intro k W K hk hzW hK
    rw [encP_eq]
    obtain ⟨x, hx⟩ : ∃ x, (cutP l lo hi)[k]? = some x := ⟨_, List.getElem?_eq_getElem hk⟩
    have henc : encVP (cutP l lo hi) k = spV x := by unfold encVP; rw [hx]
    have hK' := fun a h => hK a _ ((Below.refl _ W).alloc (Nat.le_refl _) (.cells x.cells.toArray 50)) h
    rw [henc] at hK' ⊢
    obtain ⟨x0, x1, x2⟩ := x
    have HK := Lib.hid hK'
    have HX := Lib.hid hx
    clear hK hK' hx henc
    simp only [spV]
    gi_wp2
    refine HK.out _ ⟨W.heap.size, by simp [spV], fun x h => ?_, ?_⟩
    · rw [HX.out] at h
      cases h
      exact blk_new _ _
    · exact hzW
  case body =>
    rintro B k W a hB hk hI ⟨b5, rfl, h5, hz5⟩
    obtain ⟨x, hx⟩ : ∃ x, (cutP l lo hi)[k]? = some x := ⟨_, List.getElem?_eq_getElem hk⟩
    have henc : encVP (cutP l lo hi) k = spV x := by unfold encVP; rw [hx]
    have h5 := h5 x hx
    obtain ⟨hkp, hiB, ⟨u, h1, h2, h3⟩, hsz⟩ := hI
    have a0 : W.cell? ⟨w.heap.size, 0, none⟩ = some u := blk_cell h1 0
    have a1 : W.frozen? ⟨w.heap.size, 0, none⟩ = false := blk_frozen h1 0
    have htk : (cutP l lo hi).take (k + 1) = (cutP l lo hi).take k ++ [x] := by rw [List.take_add_one, hx]; rfl
    rw [henc]
    obtain ⟨x0, x1, x2⟩ := x
    simp only [spV]
    have v0 : W.cell? ⟨b5, 0, none⟩ = some (.int .i64 x0) := blk_cell h5 0
    have v1 : W.cell? ⟨b5, 1, none⟩ = some (.int .i64 x1) := blk_cell h5 1
    have v2 : W.cell? ⟨b5, 2, none⟩ = some (.bool x2) := blk_cell h5 2
    have HH := Lib.hid (And.intro hB (And.intro hk (And.intro hkp (And.intro hiB (And.intro h1 (And.intro h2 (And.intro h3 (And.intro htk hsz))))))))
    clear hB hk hx hkp hiB h1 h2 h3 htk henc hsz h5 hz5
    obtain ⟨n, hn⟩ : ∃ n, ((cutP l lo hi).take k).length = n := ⟨_, rfl⟩
    obtain ⟨xs, hxs⟩ : ∃ xs, sflat ((cutP l lo hi).take k) = xs := ⟨_, rfl⟩
    rw [hn, hxs] at HH
    obtain ⟨hB, hk, hkp, hiB, h1, h2, h3, htk, hsz⟩ := HH.out
    have hlen : n ≤ 100000 := by
      have := cut_le l lo hi
      have := HL.out
      rw [← hn, List.length_take]; omega
    have hWz : w.heap.size ≤ W.heap.size := by have := HZ.out; omega
    have h1a := blk_alloc h1 (.cells #[.int .i64 x0, .int .i64 x1, .bool x2] 50)
    have hne : some w.heap.size ≠ u.ownBlock := fun e => (h3 _ e.symm).1 rfl
    have HGR := Lib.hid (fun (w3 : World) (hg : (W.alloc (.cells #[.int .i64 x0, .int .i64 x1, .bool x2] 50)).grownBy w3 u.ownBlock) => blk_grown h1a hg hne)
    clear hB hk hkp hiB h1 h2 h3 htk hsz h1a hne
    have HN := Lib.hid (And.intro hn (And.intro hxs (And.intro hlen hWz)))
    clear hn hxs hlen hWz
    have hrow := World.ownsRow.alloc HH.out.2.2.2.2.2.1 (.cells #[.int .i64 x0, .int .i64 x1, .bool x2] 50)
    have hcell : ∀ (j : Nat) (z : Value), [Value.int .i64 x0, .int .i64 x1, .bool x2][j]? = some z → (W.alloc (.cells #[.int .i64 x0, .int .i64 x1, .bool x2] 50)).cell? ((⟨W.heap.size, 0, none⟩ : Addr).add j) = some z := fun j z h => cells_new j z h
    have HRW := Lib.hid (And.intro hrow hcell)
    clear hrow hcell
    gi_wp2_with (gi_at_builtin; refine wpListIn_append_own_at (W.alloc (.cells #[.int .i64 x0, .int .i64 x1, .bool x2] 50)) rfl (.tmp 8) (.tmp 10) 45 rfl w.heap.size 50 i0 (.agg #[.int .i64 0, .int .i64 0, .bool false]) 3 24 Tryz.underlying45 HI.out.1 HI.out.2.1 HI.out.2.2.1 HI.out.2.2.2 rfl (by decide) u n xs rfl HRW.out.1 ⟨W.heap.size, 0, none⟩ 1 1 [.int .i64 x0, .int .i64 x1, .bool x2] rfl rfl HRW.out.2 (by simp [Value.oneCell']) (by have := HN.out; unfold maxLen; omega) (by have := HN.out; omega) (by have := HN.out; simp; omega) ?_; intro v' w3 hown' hg3 hnil3 hat3; obtain ⟨g3, c3, rfl⟩ := row_some hown'; have f0 := blk_cell (HGR.out w3 hg3) 0; have f1 := blk_frozen (HGR.out w3 hg3) 0; simp only [List.getElem?_toArray, List.getElem?_cons_zero] at f0)
    obtain ⟨hB, hk, hkp, hiB, h1, h2, h3, htk, hsz⟩ := HH.out
    have hg3' : g3 ≠ w.heap.size ∧ ¬ B g3 ∧ W0.heap.size + 2 ≤ g3 := by
      rcases hat3 with h | h
      · exact h3 g3 (by rw [← h]; rfl)
      · have e : g3 = W.heap.size + 1 := by simpa [Value.ownBlock] using h
        exact ⟨by have := HN.out; omega, fun hb => by have := (hB _ hb).2; omega, by omega⟩
    have hq4 : ∀ j, (Value.slice (some ⟨g3, 0, none⟩) (n + 1) c3).ownBlock = some j → j ≠ w.heap.size ∧ ¬ B j ∧ W0.heap.size + 2 ≤ j := fun j hj => by
      have e : g3 = j := by simpa [Value.ownBlock] using hj
      subst e; exact hg3'
    have hg4 : w3.heap[g3]? ≠ none := fun e => by
      have := row_lt hown' rfl
      rw [Array.getElem?_eq_getElem this] at e; cases e
    refine ⟨fun b hb => ?_, ⟨?_, hiB, ⟨.slice (some ⟨g3, 0, none⟩) (n + 1) c3, ?_, ?_, ?_⟩, ?_⟩⟩
    · have hb2 := hB b hb
      have hb3 : some b ≠ u.ownBlock := fun e => (h3 b e.symm).2.1 hb
      have hbq : b ≠ w.heap.size := by have := HZ.out; omega
      exact (Below.heap_setCell _ _ _ _ hbq).trans ((hg3.block b (by simp; omega) hb3).trans (Below.heap_alloc _ _ _ hb2.2))
    · exact ((hkp.alloc _).grown hg3 (fun j hj => .inr (by have := (h3 j hj).2.2; omega))).set _ _ (.inl rfl)
    · exact blk_put (HGR.out w3 hg3) 0 _ rfl
    · have hr := own_move (w1 := w3.setCell ⟨w.heap.size, 0, none⟩ (.slice (some ⟨g3, 0, none⟩) (n + 1) c3)) hown' (fun j hj => Below.heap_setCell _ _ _ _ (hq4 j hj).1)
      have e1 : ((cutP l lo hi).take (k + 1)).length = n + 1 := by rw [htk, List.length_append, HN.out.1]; rfl
      have e2 : sflat ((cutP l lo hi).take (k + 1)) = xs ++ [.int .i64 x0, .int .i64 x1, .bool x2] := by rw [htk, sflat_snoc, HN.out.2.1]; rfl
      rw [e1, e2]
      exact hr
    · exact hq4
    · have := hg3.size; simp [World.setCell] at this ⊢; omega
  case done =>
    intro B W hI hK
    obtain ⟨hkp, hiB, ⟨u, h1, h2, h3⟩, hsz⟩ := hI
    rw [List.take_length] at h2
    have a0 : W.cell? ⟨w.heap.size, 0, none⟩ = some u := blk_cell h1 0
    have HH := Lib.hid (And.intro hkp (And.intro h2 (And.intro hK (fun b hb => (h3 b hb).2.2))))
    clear hkp hiB h1 h2 h3 hsz hK
    gi_wp2
    obtain ⟨hkp, h2, hK, h3⟩ := HH.out
    refine ⟨by simp, .inl ⟨_, _, rfl, run_takeDeferred hK, ?_⟩⟩
    refine ⟨u, by simp [results, Tryz.results68, go_sem], u, rfl, own_move h2 (fun j hj => World.putObj_heap_other (by have := h3 j hj; omega)), below_put (hkp.below (by have := HZ.out; omega) (fun i hi => by omega) |> fun h => HB0.out.trans h) (by have := HZ.out; omega) _⟩

theorem collect_any (q0 : Nat) (v : Value) (l : List Sp) (lo hi : Int) (hl : l.length ≤ 1000) (w : World) (h : RdW q0 v l lo hi w) :
    Calls Tryz.prog 46 #[.func (.func 69) #[] #[.pointer (some ⟨q0, 0, none⟩), .pointer (some ⟨q0 + 1, 0, none⟩), .pointer (some ⟨q0 + 2, 0, none⟩)]] w fun e w' =>
      ∃ u, e = .returned u ∧ w'.ownsRow w.heap.size 50 3 u (cutP l lo hi).length (sflat (cutP l lo hi)) ∧ Below w.heap.size w w' := by
  have HC := Lib.hid (seq_any q0 v l lo hi hl w h)
  clear h hl
  go_enter Tryz.func46, Tryz.ntmps46
  go_wp2_with fail
  refine HC.out.mono ?_
  rintro e w3 ⟨u, rfl, hr, hb⟩
  have HR := Lib.hid (And.intro hr hb)
  clear hr hb HC
  go_wp2
  go_ret
  exact ⟨u, rfl, HR.out⟩
end
section
set_option linter.unusedVariables false
set_option linter.unusedSimpArgs false
open Go.RowKit Go.Maps Go.Sort Go.Lib Go.Shelf Go.Proofs.YtoolflmaaooplaaGreatW.PrintWords Go.Proofs.YtoolflmaaooplaaGreatW.PrintLast Go.Proofs.YtoolflmaaooplaaGreatW.PrintMore FLib
attribute [local go_sem] below_alloc_T below_drew_T below_drewN_T

def cmpS (x y : Sp) : Int := cmpI x.lo y.lo
theorem ltS (x y : Sp) : ltOf cmpS x y = decide (x.lo < y.lo) := by
  unfold ltOf cmpS cmpI
  by_cases h1 : x.lo < y.lo
  · simp [h1]
  · by_cases h2 : y.lo < x.lo <;> simp [h1, h2]
theorem swoS : SWO (ltOf cmpS) where
  irrefl x := by rw [ltS]; simp
  trans x y z h1 h2 := by rw [ltS] at *; simp at *; omega
  ntrans x y z h1 h2 := by rw [ltS] at *; simp at *; omega
theorem isAgg71 (w : World) : (isAgg 50).run Tryz.prog w = .ok true w := by kernel_rfl
theorem sizeOf71 (w : World) : (Go.sizeOf 50).run Tryz.prog w = .ok 3 w := by kernel_rfl
theorem cmpLays (blk off size : Nat) (w : World) : CmpLays Tryz.prog 66 #[] Sp.cells 3 cmpS blk off size w :=
  fun m os dk _ x y => (cmps_any x y _).mono fun e w' h => ⟨h.1, 0, #[.cells x.cells.toArray 50] ++ #[.cells y.cells.toArray 50], by obtain ⟨-, rfl⟩ := h; rw [alloc_eq_grow, alloc_eq_grow, grow_grow]; rfl⟩
theorem flatK_at (l : List Sp) (i j : Nat) (hi : i < l.length) (hj : j < 3) : (flatK Sp.cells 3 l.toArray)[i * 3 + j]! = (l[i]).cells[j]! := by
  rw [get_flatK _ _ _ _ (by simp; omega)]
  have e1 : (i * 3 + j) / 3 = i := by omega
  have e2 : (i * 3 + j) % 3 = j := by omega
  rw [e1, e2]
  congr 1
  simp [hi]
theorem holds_row {w : World} {base g c : Nat} {l : List Sp} (h : w.ownsRow base 50 3 (.slice (some ⟨g, 0, none⟩) l.length c) l.length (sflat l)) : HoldsK Sp.cells 3 w g 0 l.toArray := by
  rcases h.2 with ⟨h2, -⟩ | ⟨g', c', cur, h1, -, h3, -⟩
  · cases h2
  · cases h1
    intro t ht
    have ht' : t < l.length * 3 := by simpa using ht
    obtain ⟨i, j, hj, rfl⟩ : ∃ i j, j < 3 ∧ t = i * 3 + j := ⟨t / 3, t % 3, by omega, by omega⟩
    have hi : i < l.length := by omega
    refine ⟨?_, blk_frozen h3 _⟩
    obtain ⟨p0, p1, p2⟩ := row_sp h (List.getElem?_eq_getElem hi)
    rw [Nat.zero_add]
    show _ = some (id _)
    rw [flatK_at l i j hi hj]
    have : j = 0 ∨ j = 1 ∨ j = 2 := by omega
    rcases this with rfl | rfl | rfl
    · exact p0
    · exact p1
    · exact p2
theorem mapBlock_other (w : World) (blk b : Nat) (f : Array Value → Array Value) (h : b ≠ blk) : (mapBlock w blk f).heap[b]? = w.heap[b]? := by
  unfold mapBlock
  simp [Array.getElem?_modify, Ne.symm h]
theorem keeps_sorted (w : World) (g n : Nat) (d : Array Sp) (os : Array Obj) : Keeps w (sortWorldK Sp.cells 3 w g 0 n d os) (fun b => b = g) := by
  refine ⟨rfl, rfl, rfl, ?_, fun b hb hg => ?_⟩
  · simp [sortWorldK, grow, putRowK, putRow, mapBlock, Sort.ahead]
  · have h1 : ((putRowK Sp.cells 3 (Sort.ahead w n) g 0 d).heap ++ os)[b]? = (putRowK Sp.cells 3 (Sort.ahead w n) g 0 d).heap[b]? := Array.getElem?_append_left (by simpa [putRowK, putRow, mapBlock, Sort.ahead] using hb)
    exact h1.trans (mapBlock_other _ _ _ _ hg)
theorem perm_list {l : List Sp} {d' : Array Sp} (h : PermIn 0 l.toArray.size l.toArray d') : d'.toList.Perm l ∧ d'.size = l.length := by
  obtain ⟨h1, -, h3⟩ := h
  have h1' : d'.size = l.length := by simpa using h1
  have e1 : d'.extract 0 l.toArray.size = d' := by rw [List.size_toArray, ← h1']; simp
  have e2 : l.toArray.extract 0 l.toArray.size = l.toArray := by simp
  rw [e1, e2] at h3
  exact ⟨by simpa using h3, h1'⟩
/-- The row's cells, each element's at its place. -/
def CellsAt (w : World) (g : Nat) (l : List Sp) : Prop := ∀ (k : Nat) (s : Sp), l[k]? = some s → w.cell? ⟨g, k * 3, none⟩ = some (.int .i64 s.lo) ∧ w.cell? ⟨g, k * 3 + 1, none⟩ = some (.int .i64 s.hi) ∧ w.cell? ⟨g, k * 3 + 2, none⟩ = some (.bool s.ex)
theorem sort_any (base g c : Nat) (l : List Sp) (hl : l.length ≤ 100000) (w : World) (h : w.ownsRow base 50 3 (.slice (some ⟨g, 0, none⟩) l.length c) l.length (sflat l)) :
    Calls Tryz.prog 65 #[.slice (some ⟨g, 0, none⟩) l.length c, .func (.func 66) #[] #[]] w fun e w' => e = .returned (.tuple #[]) ∧ ∃ l' : List Sp, l'.Perm l ∧ l'.Pairwise (fun a b => ¬ b.lo < a.lo) ∧ CellsAt w' g l' ∧ Keeps w w' (fun b => b = g) := by
  have hg : g < w.heap.size := row_lt h rfl
  have hH := holds_row h
  have eg : ∀ args w, (callFunc 66 args).run Tryz.prog w = .ok (.enter 66 args) w := enters_of Tryz.func66 (by kernel_rfl) rfl
  have hcon := AnyQ.slices_SortFunc laySpans 3 isAgg71 sizeOf71 Sp.cells (fun _ => rfl) (fun x v hv => by simp [Sp.cells] at hv; rcases hv with rfl | rfl | rfl <;> rfl) cmpS swoS 66 #[] g 0 c l.toArray w eg (cmpLays g 0 _ w) hH hg (by simp; omega)
  change Calls Tryz.prog 65 _ _ _ at hcon
  rw [List.size_toArray] at hcon
  refine hcon.mono ?_
  rintro e w' ⟨rfl, d', n, os, hp, hs, rfl⟩
  obtain ⟨hpl, hsz⟩ := perm_list (l := l) (by simpa using hp)
  refine ⟨rfl, d'.toList, hpl, ?_, ?_, keeps_sorted _ _ _ _ _⟩
  · rw [List.pairwise_iff_getElem]
    intro i j hi hj hij hlt
    have hj' : j < l.length := by simpa [hsz] using hj
    have := hs i j (Nat.zero_le _) hij (by simpa using hj')
    rw [ltS] at this
    have e1 : d'[j]! = d'.toList[j] := by simp at hj; simp [hj]
    have e2 : d'[i]! = d'.toList[i] := by simp at hi; simp [hi]
    rw [e1, e2] at this
    exact of_decide_eq_false this hlt
  · have hK := holdsK_sortWorldK_c Sp.cells 3 w g 0 l.toArray d' n os hH hg (by simpa using hsz)
    intro k s hk
    have hk' : k < d'.size := by have := (List.getElem?_eq_some_iff.1 hk).1; simpa using this
    have es : d'[k]! = s := by
      have := (List.getElem?_eq_some_iff.1 hk).2
      simp [hk']; simpa using this
    have key := fun (c : Nat) (v : Value) (hv : s.cells[c]? = some v) => HoldsK.cells hK (fun _ => rfl) hk' c v (by rw [es]; exact hv)
    have k0 := key 0 _ rfl
    have k1 := key 1 _ rfl
    have k2 := key 2 _ rfl
    rw [addmk] at k0 k1 k2
    rw [Nat.zero_add] at k0 k1 k2
    exact ⟨k0, k1, k2⟩
end
section
set_option linter.unusedVariables false
set_option linter.unusedSimpArgs false
open Go.RowKit Go.Maps Go.Sort Go.Lib Go.Shelf Go.Proofs.YtoolflmaaooplaaGreatW.PrintWords Go.Proofs.YtoolflmaaooplaaGreatW.PrintLast Go.Proofs.YtoolflmaaooplaaGreatW.PrintMore FLib
attribute [local go_sem] below_alloc_T below_drew_T below_drewN_T

theorem abs_e {Q : Exit → Act → World → Prop} {e : Exit} {a : Act} {w : World} (F : World → Prop) (h0 : F w) (h : ∀ w2, F w2 → Q e a w2) : Q e a w := h w h0
theorem cell_same {W W' : World} {b o : Nat} (h : W'.heap[b]? = W.heap[b]?) : W'.cell? ⟨b, o, none⟩ = W.cell? ⟨b, o, none⟩ := World.cell?_of_block h
theorem own_set {w : World} {base e sz g c n : Nat} {xs : List Value} (h : w.ownsRow base e sz (.slice (some ⟨g, 0, none⟩) n c) n xs) (i : Nat) (u : Value) : (w.setCell ⟨g, i, none⟩ u).ownsRow base e sz (.slice (some ⟨g, 0, none⟩) n c) n (xs.set i u) := by
  refine ⟨by rw [List.length_set]; exact h.1, ?_⟩
  rcases h.2 with ⟨h2, -⟩ | ⟨g', c', cur, h1, hb, h3, h4, h5, h6, h7⟩
  · cases h2
  · cases h1
    exact .inr ⟨g, c, cur.setIfInBounds i u, rfl, hb, blk_set h3 i u, h4, h5, by simpa using h6, by rw [Array.toList_setIfInBounds, List.take_set, h7]⟩
theorem own_frozen {w : World} {base e sz g c n : Nat} {xs : List Value} (h : w.ownsRow base e sz (.slice (some ⟨g, 0, none⟩) n c) n xs) (i : Nat) : w.frozen? ⟨g, i, none⟩ = false := by
  rcases h.2 with ⟨h2, -⟩ | ⟨g', c', cur, h1, hb, h3, -⟩
  · cases h2
  · cases h1; exact blk_frozen h3 i
theorem sflat_set (A : List Sp) (z : Sp) (h' : Int) : (sflat (A ++ [z])).set (A.length * 3 + 1) (.int .i64 h') = sflat (A ++ [⟨z.lo, h', z.ex⟩]) := by
  rw [sflat_snoc, sflat_snoc, List.set_append_right _ _ (by rw [sflat_len]; omega), sflat_len, Nat.add_sub_cancel_left]
  rfl
/-- One span more is joined to those before it. -/
def joinS (out : List Sp) (s : Sp) : List Sp :=
  match out.getLast? with
  | some z => if z.hi == s.lo && z.ex == s.ex then out.dropLast ++ [⟨z.lo, s.hi, z.ex⟩] else out ++ [s]
  | none => [s]
def joinP (l : List Sp) : List Sp := l.foldl joinS []
theorem joinP_snoc {l : List Sp} {k : Nat} {s : Sp} (h : l[k]? = some s) : joinP (l.take (k + 1)) = joinS (joinP (l.take k)) s := by
  unfold joinP
  rw [List.take_add_one, h, List.foldl_append]
  rfl
theorem joinS_len (out : List Sp) (s : Sp) : (joinS out s).length ≤ out.length + 1 := by
  unfold joinS
  split
  · split
    · simp
    · simp
  · simp
theorem joinP_len (l : List Sp) : (joinP l).length ≤ l.length := by
  have : ∀ (l out : List Sp), (l.foldl joinS out).length ≤ out.length + l.length := fun l => by
    induction l with
    | nil => intro out; simp
    | cons a l ih => intro out; have := ih (joinS out a); have := joinS_len out a; simp only [List.foldl_cons, List.length_cons]; omega
  simpa [joinP] using this l []
theorem joinS_some (A : List Sp) (z s : Sp) : joinS (A ++ [z]) s = if z.hi == s.lo && z.ex == s.ex then A ++ [⟨z.lo, s.hi, z.ex⟩] else (A ++ [z]) ++ [s] := by
  unfold joinS; simp

set_option maxRecDepth 100000 in
set_option maxHeartbeats 1000000 in
theorem canon_any (base g c : Nat) (l : List Sp) (hl : l.length ≤ 10000) (w : World) (h : w.ownsRow base 50 3 (.slice (some ⟨g, 0, none⟩) l.length c) l.length (sflat l)) :
    Calls Tryz.prog 45 #[.slice (some ⟨g, 0, none⟩) l.length c] w fun e w' => ∃ u, e = .returned u ∧ ∃ l' : List Sp, l'.Perm l ∧ l'.Pairwise (fun a b => ¬ b.lo < a.lo) ∧ w'.ownsRow w.heap.size 50 3 u (joinP l').length (sflat (joinP l')) ∧ Keeps w w' (fun b => b = g) := by
  obtain ⟨i0, hi0, hz0, hz1, hz2⟩ := info_parts info71
  have HI := Lib.hid (And.intro hi0 (And.intro hz0 (And.intro hz1 hz2)))
  have HS := Lib.hid (sort_any base g c l (by omega) w h)
  have HG := Lib.hid (show g < w.heap.size from row_lt h rfl)
  have HL := Lib.hid hl
  clear h hl hi0 hz0 hz1 hz2
  go_enter Tryz.func45, Tryz.ntmps45
  go_wp2_with fail
  refine HS.out.mono ?_
  rintro e w1 ⟨rfl, l', hp, hsrt, hc, hk⟩
  have HP := Lib.hid (And.intro hp hsrt)
  have hlen := hp.length_eq
  have HC := Lib.hid hc
  have HK := Lib.hid hk
  clear hp hsrt hc hk HS
  rw [← hlen]
  have hl' : l'.length ≤ 10000 := by rw [hlen]; exact HL.out
  have HL2 := Lib.hid hl'
  clear hlen hl'
  go_wp2
  go_loopw [11, 3] (fun i u wr => ∃ k : Nat, k ≤ l'.length ∧ i = .int .i64 k ∧ wr.ownsRow w.heap.size 50 3 u (joinP (l'.take k)).length (sflat (joinP (l'.take k))) ∧ Hid (Keeps w1 wr (fun b => w.heap.size ≤ b))) (fun i _ _ => l'.length - (RowKit.intOf i).toNat)
  case atStart => exact ⟨0, Nat.zero_le _, rfl, World.ownsRow_nil _ _ _ _, Lib.hid (Keeps.refl _ _)⟩
  case round =>
    obtain ⟨k, hk, rfl, hown, hK⟩ := hrel
    have hlr : (l'.length : Int) ≤ 10000 := by have := HL2.out; omega
    by_cases hlt : k < l'.length
    · obtain ⟨s, hs⟩ : ∃ s, l'[k]? = some s := ⟨_, List.getElem?_eq_getElem hlt⟩
      have hgn : ¬ w.heap.size ≤ g := by have := HG.out; omega
      have hgw : wr.heap[g]? = w1.heap[g]? := hK.out.block g (Nat.lt_of_lt_of_le HG.out HK.out.size) hgn
      obtain ⟨p0, p1, p2⟩ := HC.out k s hs
      replace p0 := (cell_same (o := k * 3) hgw).trans p0
      replace p1 := (cell_same (o := k * 3 + 1) hgw).trans p1
      replace p2 := (cell_same (o := k * 3 + 2) hgw).trans p2
      have hk0 : (0 : Int) ≤ (k : Int) := by omega
      have hk1 : (k : Int) < (l'.length : Int) := by omega
      have HSS := Lib.hid hs
      have HJ := Lib.hid (joinP_snoc hs)
      have HLT := Lib.hid hlt
      have hol : (joinP (l'.take k)).length ≤ 10000 := by have := joinP_len (l'.take k); rw [List.length_take] at this; omega
      clear hs hlt hgn hgw
      generalize joinP (l'.take k) = out at hown HJ hol
      obtain ⟨s0, s1, s2⟩ := s
      simp only at p0 p1 p2
      rcases List.eq_nil_or_concat out with rfl | ⟨A, z, rfl⟩
      · rw [List.length_nil] at hown hol
        rcases row_form hown with ⟨rfl, -⟩ | ⟨g3, c3, rfl⟩
        · have HO := Lib.hid (And.intro hown hol)
          clear hown hol
          go_wp2
          refine abs_w (fun W2 => W2.heap[wr.heap.size]? = some (.cells #[.int .i64 s0, .int .i64 s1, .bool s2] 50 (0, 0)) ∧ Below wr.heap.size wr W2) ⟨blk_new _ _, below_alloc (Below.refl _ _) _⟩ ?_
          rintro W2 ⟨h5, hb2⟩
          have r0 : W2.cell? ⟨wr.heap.size, 0, none⟩ = some (.int .i64 s0) := blk_cell h5 0
          have r1 : W2.cell? ⟨wr.heap.size, 1, none⟩ = some (.int .i64 s1) := blk_cell h5 1
          have r2 : W2.cell? ⟨wr.heap.size, 2, none⟩ = some (.bool s2) := blk_cell h5 2
          have HB := Lib.hid (And.intro hb2 h5)
          generalize wr.heap.size = b5 at r0 r1 r2 ⊢
          clear h5 hb2 p0 p1 p2 hk0 hk1
          go_quiet (fail)
          have HJ2 := Lib.hid (show joinP (l'.take (k + 1)) = [⟨s0, s1, s2⟩] from HJ.out)
          clear HJ
          refine abs_e (fun W3 => Below W2.heap.size W2 W3) (pw_below_drewN (Below.refl _ _) _) ?_
          rintro W3 hb3
          replace r0 := pw_cell_below hb3 r0
          replace r1 := pw_cell_below hb3 r1
          replace r2 := pw_cell_below hb3 r2
          have hb23 := below_step HB.out.1 hb3
          have HR3 := Lib.hid (And.intro (pw_own_below HO.out.1 hb23) (And.intro (hK.out.trans (Keeps.of_below hb23 (fun _ => False)) (fun _ h => h.elim)) (And.intro (show w.heap.size ≤ W3.heap.size by have := hb23.size; have := hK.out.size; have := HK.out.size; omega) HO.out.2)))
          clear hb3 hb23
          go_wp2_with (at_builtin; refine wpList_append_own (W3.alloc (.cells #[.int .i64 s0, .int .i64 s1, .bool s2] 50)) rfl (.tmp 48) (.tmp 50) 45 rfl w.heap.size 50 i0 (.agg #[.int .i64 0, .int .i64 0, .bool false]) 3 24 Tryz.underlying45 HI.out.1 HI.out.2.1 HI.out.2.2.1 HI.out.2.2.2 rfl (by decide) (.slice none 0 0) 0 (sflat []) rfl (World.ownsRow.alloc HR3.out.1 _) ⟨W3.heap.size, 0, none⟩ 1 1 [.int .i64 s0, .int .i64 s1, .bool s2] rfl rfl (fun j z h => cells_new j z h) (by simp [Value.oneCell']) (by have := HR3.out.2.2.2; unfold maxLen; omega) (by have := HR3.out.2.2.2; omega) (by have := HR3.out.2.2.1; simp; omega) ?_; intro v' w4 hown' hg4 hnil4)
          obtain ⟨hr3, hk3, hz3, hn3⟩ := HR3.out
          have HN := Lib.hid (show w4.ownsRow w.heap.size 50 3 v' (joinP (l'.take (k + 1))).length (sflat (joinP (l'.take (k + 1)))) by
            rw [HJ2.out]
            simpa [sflat, Sp.cells] using hown')
          have HKK := Lib.hid (show Keeps w1 w4 (fun b => w.heap.size ≤ b) from (hk3.alloc _).grown hg4 (fun j hj => .inl (hr3.lt j hj).1))
          clear hown' hg4 hnil4 hr3 hk3 hz3 hn3
          go_roundw
          case rel => exact ⟨k + 1, by have := HLT.out; omega, by go_num, HN.out, HKK⟩
          case measure => simp [RowKit.intOf]; have := HLT.out; omega
        · have HO := Lib.hid (And.intro hown hol)
          clear hown hol
          go_wp2
          refine abs_w (fun W2 => W2.heap[wr.heap.size]? = some (.cells #[.int .i64 s0, .int .i64 s1, .bool s2] 50 (0, 0)) ∧ Below wr.heap.size wr W2) ⟨blk_new _ _, below_alloc (Below.refl _ _) _⟩ ?_
          rintro W2 ⟨h5, hb2⟩
          have r0 : W2.cell? ⟨wr.heap.size, 0, none⟩ = some (.int .i64 s0) := blk_cell h5 0
          have r1 : W2.cell? ⟨wr.heap.size, 1, none⟩ = some (.int .i64 s1) := blk_cell h5 1
          have r2 : W2.cell? ⟨wr.heap.size, 2, none⟩ = some (.bool s2) := blk_cell h5 2
          have HB := Lib.hid (And.intro hb2 h5)
          generalize wr.heap.size = b5 at r0 r1 r2 ⊢
          clear h5 hb2 p0 p1 p2 hk0 hk1
          go_quiet (fail)
          have HJ2 := Lib.hid (show joinP (l'.take (k + 1)) = [⟨s0, s1, s2⟩] from HJ.out)
          clear HJ
          refine abs_e (fun W3 => Below W2.heap.size W2 W3) (pw_below_drewN (Below.refl _ _) _) ?_
          rintro W3 hb3
          replace r0 := pw_cell_below hb3 r0
          replace r1 := pw_cell_below hb3 r1
          replace r2 := pw_cell_below hb3 r2
          have hb23 := below_step HB.out.1 hb3
          have HR3 := Lib.hid (And.intro (pw_own_below HO.out.1 hb23) (And.intro (hK.out.trans (Keeps.of_below hb23 (fun _ => False)) (fun _ h => h.elim)) (And.intro (show w.heap.size ≤ W3.heap.size by have := hb23.size; have := hK.out.size; have := HK.out.size; omega) HO.out.2)))
          clear hb3 hb23
          go_wp2_with (at_builtin; refine wpList_append_own (W3.alloc (.cells #[.int .i64 s0, .int .i64 s1, .bool s2] 50)) rfl (.tmp 48) (.tmp 50) 45 rfl w.heap.size 50 i0 (.agg #[.int .i64 0, .int .i64 0, .bool false]) 3 24 Tryz.underlying45 HI.out.1 HI.out.2.1 HI.out.2.2.1 HI.out.2.2.2 rfl (by decide) (.slice (some ⟨g3, 0, none⟩) 0 c3) 0 (sflat []) rfl (World.ownsRow.alloc HR3.out.1 _) ⟨W3.heap.size, 0, none⟩ 1 1 [.int .i64 s0, .int .i64 s1, .bool s2] rfl rfl (fun j z h => cells_new j z h) (by simp [Value.oneCell']) (by have := HR3.out.2.2.2; unfold maxLen; omega) (by have := HR3.out.2.2.2; omega) (by have := HR3.out.2.2.1; simp; omega) ?_; intro v' w4 hown' hg4 hnil4)
          obtain ⟨hr3, hk3, hz3, hn3⟩ := HR3.out
          have HN := Lib.hid (show w4.ownsRow w.heap.size 50 3 v' (joinP (l'.take (k + 1))).length (sflat (joinP (l'.take (k + 1)))) by
            rw [HJ2.out]
            simpa [sflat, Sp.cells] using hown')
          have HKK := Lib.hid (show Keeps w1 w4 (fun b => w.heap.size ≤ b) from (hk3.alloc _).grown hg4 (fun j hj => .inl (hr3.lt j hj).1))
          clear hown' hg4 hnil4 hr3 hk3 hz3 hn3
          go_roundw
          case rel => exact ⟨k + 1, by have := HLT.out; omega, by go_num, HN.out, HKK⟩
          case measure => simp [RowKit.intOf]; have := HLT.out; omega
      · rw [List.concat_eq_append] at hown HJ hol
        rw [joinS_some] at HJ
        rw [List.length_append, List.length_singleton] at hown hol
        obtain ⟨g3, c3, rfl⟩ := row_some hown
        obtain ⟨q0, q1, q2⟩ := row_sp (l := A ++ [z]) hown (k := A.length) (x := z) (by simp)
        have hz0 : (0 : Int) ≤ (A.length : Int) := by omega
        have hz1 : (A.length : Int) < (A.length : Int) + 1 := by omega
        have hz2 : decide ((0 : Int) < (A.length : Int) + 1) = true := decide_eq_true (by omega)
        have hzw : IntKind.i64.wrap (A.length : Int) = (A.length : Int) := IntWalk.i64_in _ (by omega)
        obtain ⟨z0, z1, z2⟩ := z
        simp only at q0 q1 q2 HJ
        have HO := Lib.hid (And.intro hown hol)
        clear hown hol
        obtain ⟨b1, d1⟩ : ∃ b, (z1 == s0) = b := ⟨_, rfl⟩
        obtain ⟨b2, d2⟩ : ∃ b, (z2 == s2) = b := ⟨_, rfl⟩
        rw [d1, d2] at HJ
        go_wp2
        refine abs_w (fun W2 => W2.heap[wr.heap.size]? = some (.cells #[.int .i64 s0, .int .i64 s1, .bool s2] 50 (0, 0)) ∧ Below wr.heap.size wr W2) ⟨blk_new _ _, below_alloc (Below.refl _ _) _⟩ ?_
        rintro W2 ⟨h5, hb2⟩
        have r0 : W2.cell? ⟨wr.heap.size, 0, none⟩ = some (.int .i64 s0) := blk_cell h5 0
        have r1 : W2.cell? ⟨wr.heap.size, 1, none⟩ = some (.int .i64 s1) := blk_cell h5 1
        have r2 : W2.cell? ⟨wr.heap.size, 2, none⟩ = some (.bool s2) := blk_cell h5 2
        replace q0 := pw_cell_below hb2 q0
        replace q1 := pw_cell_below hb2 q1
        replace q2 := pw_cell_below hb2 q2
        have HB := Lib.hid (And.intro hb2 h5)
        generalize wr.heap.size = b5 at r0 r1 r2 ⊢
        clear h5 hb2 p0 p1 p2 hk0 hk1
        cases b1
        · go_quiet (fail)
          have HJ2 := Lib.hid (show joinP (l'.take (k + 1)) = (A ++ [⟨z0, z1, z2⟩]) ++ [⟨s0, s1, s2⟩] from HJ.out.trans (by simp))
          clear HJ d1 d2
          refine abs_e (fun W3 => Below W2.heap.size W2 W3) (pw_below_drewN (Below.refl _ _) _) ?_
          rintro W3 hb3
          replace r0 := pw_cell_below hb3 r0
          replace r1 := pw_cell_below hb3 r1
          replace r2 := pw_cell_below hb3 r2
          have hb23 := below_step HB.out.1 hb3
          have HR3 := Lib.hid (And.intro (pw_own_below HO.out.1 hb23) (And.intro (hK.out.trans (Keeps.of_below hb23 (fun _ => False)) (fun _ h => h.elim)) (And.intro (show w.heap.size ≤ W3.heap.size by have := hb23.size; have := hK.out.size; have := HK.out.size; omega) HO.out.2)))
          clear hb3 hb23
          go_wp2_with (at_builtin; refine wpList_append_own (W3.alloc (.cells #[.int .i64 s0, .int .i64 s1, .bool s2] 50)) rfl (.tmp 48) (.tmp 50) 45 rfl w.heap.size 50 i0 (.agg #[.int .i64 0, .int .i64 0, .bool false]) 3 24 Tryz.underlying45 HI.out.1 HI.out.2.1 HI.out.2.2.1 HI.out.2.2.2 rfl (by decide) (.slice (some ⟨g3, 0, none⟩) (A.length + 1) c3) (A.length + 1) (sflat (A ++ [⟨z0, z1, z2⟩])) rfl (World.ownsRow.alloc HR3.out.1 _) ⟨W3.heap.size, 0, none⟩ 1 1 [.int .i64 s0, .int .i64 s1, .bool s2] rfl rfl (fun j z h => cells_new j z h) (by simp [Value.oneCell']) (by have := HR3.out.2.2.2; unfold maxLen; omega) (by have := HR3.out.2.2.2; omega) (by have := HR3.out.2.2.1; simp; omega) ?_; intro v' w4 hown' hg4 hnil4)
          obtain ⟨hr3, hk3, hz3, hn3⟩ := HR3.out
          have HN := Lib.hid (show w4.ownsRow w.heap.size 50 3 v' (joinP (l'.take (k + 1))).length (sflat (joinP (l'.take (k + 1)))) by
            rw [HJ2.out, sflat_snoc, List.length_append]
            simpa [Sp.cells] using hown')
          have HKK := Lib.hid (show Keeps w1 w4 (fun b => w.heap.size ≤ b) from (hk3.alloc _).grown hg4 (fun j hj => .inl (hr3.lt j hj).1))
          clear hown' hg4 hnil4 hr3 hk3 hz3 hn3
          go_roundw
          case rel => exact ⟨k + 1, by have := HLT.out; omega, by go_num, HN.out, HKK⟩
          case measure => simp [RowKit.intOf]; have := HLT.out; omega
        · cases b2
          · go_quiet (fail)
            have HJ2 := Lib.hid (show joinP (l'.take (k + 1)) = (A ++ [⟨z0, z1, z2⟩]) ++ [⟨s0, s1, s2⟩] from HJ.out.trans (by simp))
            clear HJ d1 d2
            refine abs_e (fun W3 => Below W2.heap.size W2 W3) (pw_below_drewN (Below.refl _ _) _) ?_
            rintro W3 hb3
            replace r0 := pw_cell_below hb3 r0
            replace r1 := pw_cell_below hb3 r1
            replace r2 := pw_cell_below hb3 r2
            have hb23 := below_step HB.out.1 hb3
            have HR3 := Lib.hid (And.intro (pw_own_below HO.out.1 hb23) (And.intro (hK.out.trans (Keeps.of_below hb23 (fun _ => False)) (fun _ h => h.elim)) (And.intro (show w.heap.size ≤ W3.heap.size by have := hb23.size; have := hK.out.size; have := HK.out.size; omega) HO.out.2)))
            clear hb3 hb23
            go_wp2_with (at_builtin; refine wpList_append_own (W3.alloc (.cells #[.int .i64 s0, .int .i64 s1, .bool s2] 50)) rfl (.tmp 48) (.tmp 50) 45 rfl w.heap.size 50 i0 (.agg #[.int .i64 0, .int .i64 0, .bool false]) 3 24 Tryz.underlying45 HI.out.1 HI.out.2.1 HI.out.2.2.1 HI.out.2.2.2 rfl (by decide) (.slice (some ⟨g3, 0, none⟩) (A.length + 1) c3) (A.length + 1) (sflat (A ++ [⟨z0, z1, z2⟩])) rfl (World.ownsRow.alloc HR3.out.1 _) ⟨W3.heap.size, 0, none⟩ 1 1 [.int .i64 s0, .int .i64 s1, .bool s2] rfl rfl (fun j z h => cells_new j z h) (by simp [Value.oneCell']) (by have := HR3.out.2.2.2; unfold maxLen; omega) (by have := HR3.out.2.2.2; omega) (by have := HR3.out.2.2.1; simp; omega) ?_; intro v' w4 hown' hg4 hnil4)
            obtain ⟨hr3, hk3, hz3, hn3⟩ := HR3.out
            have HN := Lib.hid (show w4.ownsRow w.heap.size 50 3 v' (joinP (l'.take (k + 1))).length (sflat (joinP (l'.take (k + 1)))) by
              rw [HJ2.out, sflat_snoc, List.length_append]
              simpa [Sp.cells] using hown')
            have HKK := Lib.hid (show Keeps w1 w4 (fun b => w.heap.size ≤ b) from (hk3.alloc _).grown hg4 (fun j hj => .inl (hr3.lt j hj).1))
            clear hown' hg4 hnil4 hr3 hk3 hz3 hn3
            go_roundw
            case rel => exact ⟨k + 1, by have := HLT.out; omega, by go_num, HN.out, HKK⟩
            case measure => simp [RowKit.intOf]; have := HLT.out; omega
          · go_quiet (fail)
            have HJ2 := Lib.hid (show joinP (l'.take (k + 1)) = A ++ [⟨z0, s1, z2⟩] from HJ.out.trans (by simp))
            clear HJ d1 d2
            refine abs_e (fun W3 => Below W2.heap.size W2 W3) (pw_below_drewN (Below.refl _ _) _) ?_
            rintro W3 hb3
            replace r0 := pw_cell_below hb3 r0
            replace r1 := pw_cell_below hb3 r1
            replace r2 := pw_cell_below hb3 r2
            have hb23 := below_step HB.out.1 hb3
            have HR3 := Lib.hid (And.intro (pw_own_below HO.out.1 hb23) (And.intro (hK.out.trans (Keeps.of_below hb23 (fun _ => False)) (fun _ h => h.elim)) (And.intro (show w.heap.size ≤ W3.heap.size by have := hb23.size; have := hK.out.size; have := HK.out.size; omega) HO.out.2)))
            replace q1 := pw_cell_below hb3 q1
            clear hb3 hb23
            have f1 : W3.frozen? ⟨g3, A.length * 3 + 1, none⟩ = false := own_frozen HR3.out.1 _
            go_wp2
            obtain ⟨hr3, hk3, hz3, hn3⟩ := HR3.out
            have HN := Lib.hid (show (W3.setCell ⟨g3, A.length * 3 + 1, none⟩ (.int .i64 s1)).ownsRow w.heap.size 50 3 (.slice (some ⟨g3, 0, none⟩) (A.length + 1) c3) (joinP (l'.take (k + 1))).length (sflat (joinP (l'.take (k + 1)))) by
              rw [HJ2.out, List.length_append, ← sflat_set A ⟨z0, z1, z2⟩ s1]
              exact own_set hr3 _ _)
            have HKK := Lib.hid (show Keeps w1 (W3.setCell ⟨g3, A.length * 3 + 1, none⟩ (.int .i64 s1)) (fun b => w.heap.size ≤ b) from hk3.set _ _ (.inl (hr3.lt g3 rfl).1))
            clear hr3 hk3 hz3 hn3
            go_roundw
            case rel => exact ⟨k + 1, by have := HLT.out; omega, by go_num, HN.out, HKK⟩
            case measure => simp [RowKit.intOf]; have := HLT.out; omega
    · obtain rfl : k = l'.length := by omega
      rw [List.take_length] at hown
      go_wp2
      go_ret
      exact ⟨_, rfl, l', HP.out.1, HP.out.2, hown, HK.out.trans hK.out (fun i hi => .inr hi)⟩
end
section
set_option linter.unusedVariables false
set_option linter.unusedSimpArgs false
open Go.RowKit Go.Maps Go.Sort Go.Lib Go.Shelf Go.Proofs.YtoolflmaaooplaaGreatW.PrintWords Go.Proofs.YtoolflmaaooplaaGreatW.PrintLast Go.Proofs.YtoolflmaaooplaaGreatW.PrintMore FLib
attribute [local go_sem] below_alloc_T below_drew_T below_drewN_T

def spansOf (G : List Ent) (o : Int) : List Sp := match gAt G o with | some e => e.l | none => []
theorem TG.spans {W : World} {p mb : Nat} {qv : Value} {G : List Ent} {Q : List Lk} (h : TG W p mb qv G Q) (o : Int) : W.ownsRow 0 50 3 (entV (gAt G o)) (spansOf G o).length (sflat (spansOf G o)) := by
  unfold spansOf
  cases hg : gAt G o with
  | none => exact World.ownsRow_nil _ _ _ _
  | some e => exact h.row e (gAt_mem hg).1
theorem spans_len {G : List Ent} (h : GOk G) (o : Int) : (spansOf G o).length ≤ 1000 := by
  unfold spansOf
  cases hg : gAt G o with
  | none => simp
  | some e => exact h.len e (gAt_mem hg).1
theorem region_p {id : Nat} {ops : Array Oper} {b : Bool} {P : Program} {Q : Exit → Act → World → Prop} {a : Act} {w : World} (Φ : Act → Act → World → Prop)
    (h : (Code.region id ops b).wp P (fun e a' w' => e = .normal ∧ Φ a a' w') a w) (hq : ∀ a' w', Φ a a' w' → Q .normal a' w') : (Code.region id ops b).wp P Q a w :=
  Code.wp_mono (fun e a' w' hp => by obtain ⟨rfl, hp⟩ := hp; exact hq a' w' hp) h
theorem own_base {w : World} {base base' e sz n : Nat} {v : Value} {xs : List Value} (h : w.ownsRow base' e sz v n xs) (hb : base ≤ base') : w.ownsRow base e sz v n xs := by
  refine ⟨h.1, ?_⟩
  rcases h.2 with h2 | ⟨g, c, cur, h1, h2, h3⟩
  · exact .inl h2
  · exact .inr ⟨g, c, cur, h1, Nat.le_trans hb h2, h3⟩
theorem wout_any (v : Value) (hv : v.oneCell' = true) (l : List Sp) (lo hi : Int) (w : World) (hr : w.ownsRow 0 50 3 v l.length (sflat l)) :
    Calls Tryz.prog 47 #[v, .int .i64 lo, .int .i64 hi] w fun e w' => ∃ q0, e = .returned (.func (.func 69) #[] #[.pointer (some ⟨q0, 0, none⟩), .pointer (some ⟨q0 + 1, 0, none⟩), .pointer (some ⟨q0 + 2, 0, none⟩)]) ∧ RdW q0 v l lo hi w' ∧ Below w.heap.size w w' := by
  refine (without_any v hv lo hi w).mono ?_
  rintro e w' ⟨rfl, rfl⟩
  refine ⟨w.heap.size, rfl, ⟨?_, ?_, ?_, ?_⟩, below_alloc (below_alloc (below_alloc (Below.refl _ _) _) _) _⟩
  · exact blk_alloc (blk_alloc (blk_new _ _) _) _
  · have := blk_alloc (blk_new (w.alloc (.cells #[v] 45)) (.cells #[.int .i64 lo] 2)) (.cells #[.int .i64 hi] 2)
    simpa using this
  · have := blk_new ((w.alloc (.cells #[v] 45)).alloc (.cells #[.int .i64 lo] 2)) (.cells #[.int .i64 hi] 2)
    simpa using this
  · exact pw_own_below hr (below_alloc (below_alloc (below_alloc (Below.refl _ _) _) _) _)
theorem RdW.below {q : Nat} {v : Value} {l : List Sp} {lo hi : Int} {W W' : World} (h : RdW q v l lo hi W) (hb : Below W.heap.size W W') : RdW q v l lo hi W' := ⟨blk_below h.b0 hb, blk_below h.b1 hb, blk_below h.b2 hb, pw_own_below h.row hb⟩
theorem cells_at {w : World} {b : Nat} {cs : List Value} {ty : Nat} (h : w.heap[b]? = some (.cells cs.toArray ty (0, 0))) (j : Nat) (u : Value) (hu : cs[j]? = some u) : w.cell? ((⟨b, 0, none⟩ : Addr).add j) = some u := by
  rw [addmk, Nat.zero_add]
  exact (blk_cell h j).trans (by simpa using hu)
theorem below_keep {W w1 w2 : World} {g : Nat} (h : Below W.heap.size W w1) (hk : Keeps w1 w2 (fun b => b = g)) (hg : W.heap.size ≤ g) : Below W.heap.size W w2 := h.trans (hk.below h.size (fun i hi => by omega))
theorem entV_one (o : Option Ent) : (entV o).oneCell' = true := by cases o <;> rfl

set_option maxRecDepth 100000 in
set_option maxHeartbeats 1000000 in
theorem with_any (p mb : Nat) (qv : Value) (G : List Ent) (Q : List Lk) (hok : GOk G) (l : Lk) (hl : -1000000 ≤ l.st + l.len ∧ l.st + l.len ≤ 1000000) (ho : (Lit.int .i64 l.own).wf = true) (w : World) (h : TG w p mb qv G Q) :
    Calls Tryz.prog 24 #[.pointer (some ⟨p, 0, none⟩), lkV l] w fun e w' => ∃ u, e = .returned u ∧ ∃ l' : List Sp, l'.Perm (cutP (spansOf G l.own) (spanI l).lo (spanI l).hi ++ [spanI l]) ∧ l'.Pairwise (fun a b => ¬ b.lo < a.lo) ∧
      w'.ownsRow w.heap.size 50 3 u (joinP l').length (sflat (joinP l')) ∧ Below w.heap.size w w' := by
  obtain ⟨i0, hi0, hz0, hz1, hz2⟩ := info_parts info71
  have HI := Lib.hid (And.intro hi0 (And.intro hz0 (And.intro hz1 hz2)))
  have HSP := Lib.hid (fun w => span_any l hl w)
  have HT := Lib.hid h
  have HW := Lib.hid ho
  have HLN := Lib.hid (spans_len hok l.own)
  clear h hl ho hok hi0 hz0 hz1 hz2
  have b0 := below_alloc (below_alloc (Below.refl w.heap.size w) (.cells l.cells.toArray 29))
  simp only [lkV, spV] at HSP ⊢
  generalize hS : spanI l = S at HSP ⊢
  clear hS b0
  obtain ⟨s0, s1, s2⟩ := S
  simp only at HSP ⊢
  obtain ⟨L, hL⟩ : ∃ L, spansOf G l.own = L := ⟨_, rfl⟩
  rw [hL] at HLN ⊢
  obtain ⟨C, hC⟩ : ∃ C, cutP L s0 s1 = C := ⟨_, rfl⟩
  rw [hC]
  have HLL := Lib.hid hL
  have HCC := Lib.hid hC
  clear hL hC
  go_enter Tryz.func24, Tryz.ntmps24
  go_wp2_with fail
  refine (HSP.out _).mono ?_
  rintro e w1 ⟨rfl, hb1⟩
  go_wp2
  refine abs_w (fun W1 => W1.heap[w.heap.size]? = some (.cells l.cells.toArray 29 (0, 0)) ∧ W1.heap[w1.heap.size]? = some (.cells #[.int .i64 s0, .int .i64 s1, .bool s2] 50 (0, 0)) ∧ Below w.heap.size w W1) ?_ ?_
  · exact ⟨blk_alloc (blk_below (blk_new w _) hb1) _, blk_new _ _, below_alloc ((below_alloc (Below.refl w.heap.size w) _).trans (hb1.mono (by simp))) _⟩
  rintro W1 ⟨h3, h5, hB1⟩
  have hT1 := HT.out.below hB1
  generalize w1.heap.size = b5 at h5 ⊢
  generalize w.heap.size = b3 at h3 ⊢
  have c0 := later_cell (v := .map (some mb)) (blk_cell hT1.hdr 0)
  have c3 := later_cell (v := .int .i64 l.own) (blk_cell h3 0)
  have c50 := later_cell (v := .int .i64 s0) (blk_cell h5 0)
  have c51 := later_cell (v := .int .i64 s1) (blk_cell h5 1)
  have c52 := later_cell (v := .bool s2) (blk_cell h5 2)
  have hlk : ∀ w', Below W1.heap.size W1 w' → (Instr.lookup 46 (.map (some mb)) (.int .i64 l.own) false).run Tryz.prog w' = .ok (entV (gAt G l.own)) w' := fun w' hb => (hT1.below hb).run_look HW.out
  have HV := Lib.hid (And.intro (entV_one (gAt G l.own)) (fun w' (hb : Below W1.heap.size W1 w') => (hT1.below hb).spans l.own))
  have hL := HLL.out
  rw [hL] at HV
  clear hL HLL
  have hC := HCC.out
  obtain ⟨n, hn⟩ : ∃ n, (cutP L s0 s1).length = n := ⟨_, rfl⟩
  have HCN := Lib.hid (show n ≤ 2000 ∧ (C ++ [(⟨s0, s1, s2⟩ : Sp)]).length ≤ 10000 ∧ (C ++ [(⟨s0, s1, s2⟩ : Sp)]).length = n + 1 ∧ sflat (C ++ [(⟨s0, s1, s2⟩ : Sp)]) = sflat C ++ [.int .i64 s0, .int .i64 s1, .bool s2] by
    have := cut_le L s0 s1
    have := HLN.out
    rw [List.length_append]
    have e0 := congrArg List.length hC
    refine ⟨by omega, by simp; omega, by simp; omega, by rw [sflat_snoc]; rfl⟩)
  generalize entV (gAt G l.own) = v at hlk HV
  have HCO := Lib.hid (fun q0 w h => collect_any q0 v L s0 s1 HLN.out w h)
  rw [hn, hC] at HCO
  have HCA := Lib.hid (fun g c w h => canon_any W1.heap.size g c (C ++ [(⟨s0, s1, s2⟩ : Sp)]) HCN.out.2.1 w h)
  rw [HCN.out.2.2.1, HCN.out.2.2.2] at HCA
  have hb0 : Below W1.heap.size W1 W1 := Below.refl _ _
  have HBW := Lib.hid hB1
  clear h3 h5 hB1 hT1 hb1 hC hn
  refine region_p (fun a a' w' => ∃ u, (∃ v8 v9 v10 v11 v12 v13 v14 v15 v16 v17 v18 v19 v20 v21 v22 v23 : Value, a' = { tmps := (((((((((((((((((a.tmps.setIfInBounds 8 v8).setIfInBounds 9 v9).setIfInBounds 10 v10).setIfInBounds 11 v11).setIfInBounds 12 v12).setIfInBounds 13 v13).setIfInBounds 14 v14).setIfInBounds 15 v15).setIfInBounds 16 v16).setIfInBounds 17 v17).setIfInBounds 18 v18).setIfInBounds 19 v19).setIfInBounds 20 v20).setIfInBounds 21 v21).setIfInBounds 22 v22).setIfInBounds 23 v23).setIfInBounds 24 u).setIfInBounds 4 u, defers := a.defers }) ∧ ∃ l' : List Sp, l'.Perm (C ++ [(⟨s0, s1, s2⟩ : Sp)]) ∧ l'.Pairwise (fun a b => ¬ b.lo < a.lo) ∧ w'.ownsRow W1.heap.size 50 3 u (joinP l').length (sflat (joinP l')) ∧ Below W1.heap.size W1 w') ?_ ?_
  · go_region_held3 (fun w' => Below W1.heap.size W1 w') (first | assumption | exact below_drew (by assumption) | exact below_alloc (by assumption) _ | exact below_alloc (below_drew (by assumption)) _)
      (first
        | (go_at_call 47; refine (wout_any v HV.out.1 L s0 s1 _ (HV.out.2 _ (by first | assumption | exact below_drew (by assumption) | exact below_alloc (by assumption) _ | exact below_alloc (below_drew (by assumption)) _))).mono ?_; rintro e w3 ⟨q0, rfl, hrw, hb3⟩; have hbx := below_step (by first | assumption | exact below_drew (by assumption) | exact below_alloc (by assumption) _ | exact below_alloc (below_drew (by assumption)) _) hb3; (first | (have hbk := blk_below (blk_drew (blk_new _ _)) hb3) | (have hbk := blk_below (blk_new _ _) hb3) | skip); clear hb3)
        | (go_at_call 46; refine (HCO.out _ _ (by first | assumption | exact RdW.below (by assumption) (below_alloc (Below.refl _ _) _))).mono ?_; rintro e w5 ⟨u, rfl, hu, hb5⟩; have hby := below_step (by first | assumption | exact below_drew (by assumption) | exact below_alloc (by assumption) _ | exact below_alloc (below_drew (by assumption)) _) hb5; replace hu := own_base (base := W1.heap.size) hu (Below.size (show Below W1.heap.size W1 _ from by first | assumption | exact below_drew (by assumption) | exact below_alloc (by assumption) _ | exact below_alloc (below_drew (by assumption)) _)); (first | (have hbk5 := blk_below (by assumption : _ = some (Obj.cells #[Value.int .i64 s0, .int .i64 s1, .bool s2] 50)) hb5) | (have hbk5 := blk_below (blk_new _ _) hb5) | skip); clear hb5)
        | ((refine step_append_lies _ (by rfl) _ _ _ (by rfl) W1.heap.size 50 i0 (.agg #[.int .i64 0, .int .i64 0, .bool false]) 3 24 Tryz.underlying45 HI.out.1 HI.out.2.1 HI.out.2.2.1 HI.out.2.2.2 rfl (by decide) u n (sflat C) (by rfl) (by first | assumption | exact World.ownsRow.alloc (by assumption) _) _ 1 1 [.int .i64 s0, .int .i64 s1, .bool s2] (by rfl) (by rfl) (by intro j z hz; first | exact cells_new j z hz | exact cells_at (by assumption) j z hz) (by simp [Value.oneCell']) (by omega) (by have := HCN.out; unfold maxLen; omega) (by have := HCN.out; omega) (Below.size (show Below W1.heap.size W1 _ from by first | assumption | exact below_drew (by assumption) | exact below_alloc (by assumption) _ | exact below_alloc (below_drew (by assumption)) _)) _ rfl ?_; intro gg cap1 w' hown' hg' hat' hlt'); have hbz := Below.grown (show Below W1.heap.size W1 _ from by first | assumption | exact below_drew (by assumption) | exact below_alloc (by assumption) _ | exact below_alloc (below_drew (by assumption)) _) hg' (Below.size (show Below W1.heap.size W1 _ from by first | assumption | exact below_drew (by assumption) | exact below_alloc (by assumption) _ | exact below_alloc (below_drew (by assumption)) _)) (fun j hj => (hu.lt j hj).1))
        | (go_at_call 45; refine (HCA.out _ _ _ (by assumption)).mono ?_; rintro e w7 ⟨u7, rfl, l', hp, hsrt, hu7, hk7⟩; have hbc := below_keep hbz hk7 (hown'.lt _ rfl).1; replace hu7 := own_base (base := W1.heap.size) hu7 (Below.size (by assumption))))
    all_goals exact ⟨rfl, _, ⟨_, _, _, _, _, _, _, _, _, _, _, _, _, _, _, _, rfl⟩, _, by assumption, by assumption, by assumption, by first | assumption | exact below_drew (by assumption)⟩
  · rintro a' W2 ⟨u, ⟨v8, v9, v10, v11, v12, v13, v14, v15, v16, v17, v18, v19, v20, v21, v22, v23, rfl⟩, l', hp, hsrt, hu, hb⟩
    simp only [List.setIfInBounds_toArray, List.set_cons_zero, List.set_cons_succ]
    have HR := Lib.hid (And.intro hp (And.intro hsrt (And.intro hu hb)))
    clear hp hsrt hu hb hb0
    go_wp2
    go_ret
    obtain ⟨hp, hsrt, hu, hb⟩ := HR.out
    exact ⟨u, rfl, l', hp, hsrt, own_base hu HBW.out.size, HBW.out.trans (hb.mono HBW.out.size)⟩
end
end Go.Proofs.YtoolflmaaooplaaGreat
