/- Ranges: what an iterator of spans yields, collected. -/
import Derived.Test.YtoolflmaaooplaaB4
import Derived.OwnWalkIn
import Derived.Maps.OwnIn
namespace Go.Proofs.Ytoolflmaaooplaa
set_option linter.unusedVariables false
set_option linter.unusedSimpArgs false
open Go.RowKit Go.Maps Go.Sort Go.Lib Go.Shelf Go.Proofs.YtoolflmaaooplaaW.PrintWords Go.Proofs.YtoolflmaaooplaaW.PrintLast Go.Proofs.YtoolflmaaooplaaW.PrintMore FLib
attribute [local go_sem] Oper.semAt_some
attribute [local go_sem] below_alloc_T below_drew_T below_drewN_T

theorem info71 : (Try.prog.info? 71).map (fun i => (i.zero, i.size, i.bytes)) = some (some (.agg #[.int .i64 0, .int .i64 0, .bool false]), 3, 24) := by kernel_rfl
theorem info23 : (Try.prog.info? 23).map (fun i => (i.zero, i.size, i.bytes)) = some (some (.agg #[.int .i64 0, .int .i64 0, .int .i64 0, .bool false]), 4, 32) := by kernel_rfl
def encVP (L : List Sp) (k : Nat) : Value := match L[k]? with | some x => spV x | none => .int .i64 0
theorem encP_eq (L : List Sp) (k : Nat) : encP L k = #[encVP L k] := by unfold encP encVP; cases L[k]? <;> rfl
theorem sflat_len (L : List Sp) : (sflat L).length = L.length * 3 := by induction L with | nil => rfl | cons a L ih => unfold sflat at *; rw [List.flatMap_cons, List.length_append, ih]; simp [Sp.cells]; omega
theorem sflat_snoc (L : List Sp) (x : Sp) : sflat (L ++ [x]) = sflat L ++ x.cells := by unfold sflat; simp
theorem cells_new {w : World} {cs : List Value} {ty : Nat} (j : Nat) (u : Value) (h : cs[j]? = some u) : (w.alloc (.cells cs.toArray ty)).cell? ((⟨w.heap.size, 0, none⟩ : Addr).add j) = some u := by
  rw [addmk, Nat.zero_add]
  exact (blk_cell (blk_new w (.cells cs.toArray ty)) j).trans (by simpa using h)
theorem row_some {w : World} {base e sz n : Nat} {v : Value} {xs : List Value} (h : w.ownsRow base e sz v (n + 1) xs) : ∃ g c, v = .slice (some ⟨g, 0, none⟩) (n + 1) c := by
  rcases row_form h with ⟨-, h2⟩ | h2
  · omega
  · exact h2
theorem cut_le (l : List Sp) (lo hi : Int) : (cutP l lo hi).length ≤ 2 * l.length := by
  unfold cutP
  induction l with
  | nil => simp
  | cons a l ih =>
    rw [List.flatMap_cons, List.length_append, List.length_append, List.length_cons]
    have : (leftP a lo).length ≤ 1 := by unfold leftP; split <;> simp
    have : (rightP a hi).length ≤ 1 := by unfold rightP; split <;> simp
    omega
/-- What has been collected. -/
structure ApI (W0 : World) (base q : Nat) (L : List Sp) (B : Nat → Prop) (k : Nat) (W : World) : Prop where
  keep : Keeps W0 W (fun b => b = q)
  inB : B (W0.heap.size + 1)
  box : ∃ u, W.heap[q]? = some (.cells #[u] 60 (0, 0)) ∧ W.ownsRow base 71 3 u (L.take k).length (sflat (L.take k)) ∧ ∀ b, u.ownBlock = some b → b ≠ q ∧ ¬ B b ∧ W0.heap.size + 2 ≤ b
  size : W0.heap.size + 2 ≤ W.heap.size
theorem ApI.mono {W0 : World} {base q : Nat} {L : List Sp} {B B' : Nat → Prop} {k : Nat} {W : World} (h : ApI W0 base q L B k W) (hs : ∀ b, B' b → B b) (hb : B' (W0.heap.size + 1)) : ApI W0 base q L B' k W := by
  obtain ⟨hk, hi, ⟨u, h1, h2, h3⟩, hz⟩ := h
  exact ⟨hk, hb, ⟨u, h1, h2, fun b hb' => ⟨(h3 b hb').1, fun hB => (h3 b hb').2.1 (hs b hB), (h3 b hb').2.2⟩⟩, hz⟩
theorem ApI.put {W0 : World} {base q : Nat} {L : List Sp} {B : Nat → Prop} {k : Nat} {W : World} (h : ApI W0 base q L B k W) (hq : q < W0.heap.size) (o : Obj) : ApI W0 base q L B k (W.putObj (W0.heap.size + 1) o) := by
  obtain ⟨hk, hi, ⟨u, h1, h2, h3⟩, hz⟩ := h
  have hn : ∀ b, u.ownBlock = some b → b ≠ W0.heap.size + 1 := fun b hb e => (h3 b hb).2.1 (e ▸ hi)
  exact ⟨hk.trans (G := fun b => b = W0.heap.size + 1) ⟨rfl, rfl, rfl, by simp [World.putObj], fun b _ hb => World.putObj_heap_other hb⟩ (fun b hb => .inr (by omega)), hi, ⟨u,
    (World.putObj_heap_other (by omega)).trans h1, own_move h2 (fun b hb => World.putObj_heap_other (hn b hb)), h3⟩, by simpa [World.putObj] using hz⟩
theorem ApI.ext {W0 : World} {base q : Nat} {L : List Sp} {B : Nat → Prop} {k : Nat} {W W2 : World} (h : ApI W0 base q L B k W) (hb : Below W.heap.size W W2) : ApI W0 base q L (ext B W W2) k W2 := by
  obtain ⟨hk, hi, ⟨u, h1, h2, h3⟩, hz⟩ := h
  exact ⟨hk.trans (Keeps.of_below hb (fun _ => False)) (fun _ h => h.elim), .inl hi, ⟨u, blk_below h1 hb, pw_own_below h2 hb, fun b hb' => ⟨(h3 b hb').1, fun he => by
    rcases he with he | ⟨he, -⟩
    · exact (h3 b hb').2.1 he
    · have := row_lt h2 hb'; omega, (h3 b hb').2.2⟩⟩, Nat.le_trans hz hb.size⟩

set_option maxRecDepth 100000 in
theorem without_nil_at (m : Nat) (hm : 3 ≤ m) (q : Nat) (lo hi : Int) (w : World) (h : RdW q (.slice none 0 0) [] lo hi w) :
    SeqAt m Try.prog 65 #[] #[.pointer (some ⟨q, 0, none⟩), .pointer (some ⟨q + 1, 0, none⟩), .pointer (some ⟨q + 2, 0, none⟩)] (cutP [] lo hi).length (encP (cutP [] lo hi)) (fun _ W => RdW q (.slice none 0 0) [] lo hi W) w := by
  intro yl J Jx W hW hRd hX hY h0
  have HJ0 := Lib.hid h0
  have c0 : W.cell? ⟨q, 0, none⟩ = some (.slice none 0 0) := blk_cell (hRd _ _ _ h0).b0 0
  clear h hW hRd hX hY h0
  refine callsIn_of_wp Try.func65 rfl trivial ?_ rfl
  simp only [Try.ntmps65, List.size_toArray, List.length_cons, List.length_nil, Nat.reduceAdd, Nat.reduceSub, Array.replicate_succ, Array.replicate_zero, List.push_toArray, List.append_toArray, List.nil_append, List.cons_append]
  gi_wp2
  gi_loopw [11] (fun i wr => i = .int .i64 0 ∧ wr = W) (fun _ _ => 0)
  case atStart => exact ⟨rfl, rfl⟩
  case round =>
    obtain ⟨rfl, rfl⟩ := hrel
    gi_wp2
    go_end0
    exact ⟨⟨_, rfl⟩, .inl ⟨_, HJ0.out⟩⟩
theorem without_v (m : Nat) (hm : 3 ≤ m) (q : Nat) (v : Value) (l : List Sp) (lo hi : Int) (hl : l.length ≤ 1000) (w : World) (h : RdW q v l lo hi w) :
    SeqAt m Try.prog 65 #[] #[.pointer (some ⟨q, 0, none⟩), .pointer (some ⟨q + 1, 0, none⟩), .pointer (some ⟨q + 2, 0, none⟩)] (cutP l lo hi).length (encP (cutP l lo hi)) (fun _ W => RdW q v l lo hi W) w := by
  rcases row_form h.row with ⟨rfl, hz⟩ | ⟨g, c, rfl⟩
  · obtain rfl : l = [] := List.eq_nil_of_length_eq_zero hz
    exact without_nil_at m hm q lo hi w h
  · exact without_at m hm q g c l lo hi hl w h

set_option maxRecDepth 100000 in
set_option maxHeartbeats 400000 in
theorem seq_any (q0 : Nat) (v : Value) (l : List Sp) (lo hi : Int) (hl : l.length ≤ 1000) (w : World) (h : RdW q0 v l lo hi w) :
    Calls Try.prog 64 #[.slice none 0 0, .func (.func 65) #[] #[.pointer (some ⟨q0, 0, none⟩), .pointer (some ⟨q0 + 1, 0, none⟩), .pointer (some ⟨q0 + 2, 0, none⟩)]] w fun e w' =>
      ∃ u, e = .returned u ∧ w'.ownsRow w.heap.size 71 3 u (cutP l lo hi).length (sflat (cutP l lo hi)) ∧ Below w.heap.size w w' := by
  refine (callsIn_wide (n := 20)).1 ?_
  have HR := Lib.hid h
  have HL := Lib.hid hl
  obtain ⟨i0, hi0, hz0, hz1, hz2⟩ := info_parts info71
  have HI := Lib.hid (And.intro hi0 (And.intro hz0 (And.intro hz1 hz2)))
  clear h hl hi0 hz0 hz1 hz2
  refine callsIn_of_wp_marks Try.func64 rfl trivial ?_ rfl
  simp only [Try.ntmps64, List.size_toArray, List.length_cons, List.length_nil, Nat.reduceAdd, Nat.reduceSub, Array.replicate_succ, Array.replicate_zero, List.push_toArray, List.append_toArray, List.nil_append, List.cons_append]
  gi_wp2
  refine abs_in (fun W0 => W0.heap.size = w.heap.size + 1 ∧ W0.heap[w.heap.size]? = some (.cells #[.slice none 0 0] 60 (0, 0)) ∧ Below w.heap.size w W0) ⟨by simp, blk_new _ _, below_alloc (Below.refl _ _) _⟩ ?_
  rintro W0 ⟨hz0, h2, hB0⟩
  have hR0 : RdW q0 v l lo hi W0 := ⟨blk_below HR.out.b0 hB0, blk_below HR.out.b1 hB0, blk_below HR.out.b2 hB0, pw_own_below HR.out.row hB0⟩
  have hq := blk_lt HR.out.b2
  have hg : ∀ b, v.ownBlock = some b → b < w.heap.size := fun b hb => row_lt HR.out.row hb
  have HZ := Lib.hid (And.intro hz0 (And.intro hq hg))
  have HR0 := Lib.hid hR0
  have H2 := Lib.hid h2
  have HB0 := Lib.hid hB0
  clear hz0 hR0 h2 hB0 hq hg
  refine range_al (m := 20) (by omega) (gf := 65) (ba := #[]) (lb := #[.pointer (some ⟨q0, 0, none⟩), .pointer (some ⟨q0 + 1, 0, none⟩), .pointer (some ⟨q0 + 2, 0, none⟩)]) rfl (enters_of Try.func65 (by kernel_rfl) rfl)
    (without_v 19 (by omega) q0 v l lo hi HL.out W0 HR0.out) (fun k => encP_size _ k)
    (ApI W0 w.heap.size w.heap.size (cutP l lo hi)) (fun c W => False) ?rd ?inv (fun _ _ _ _ h _ => h.elim) ?ext ?start
    (fun k a W => ∃ b5, a = { tmps := #[.slice none 0 0, .func (.func 65) #[] #[.pointer (some ⟨q0, 0, none⟩), .pointer (some ⟨q0 + 1, 0, none⟩), .pointer (some ⟨q0 + 2, 0, none⟩)], .pointer (some ⟨w.heap.size, 0, none⟩), undef, .slice none 0 0, .pointer (some ⟨b5, 0, none⟩), .func (.func 65) #[] #[.pointer (some ⟨q0, 0, none⟩), .pointer (some ⟨q0 + 1, 0, none⟩), .pointer (some ⟨q0 + 2, 0, none⟩)], encVP (cutP l lo hi) k, undef, undef, undef, undef, undef], defers := [] } ∧ (∀ x, (cutP l lo hi)[k]? = some x → W.heap[b5]? = some (.cells x.cells.toArray 71 (0, 0))) ∧ W0.heap.size + 2 ≤ b5) ?fa ?mono
    ?assign ?body ?done (fun _ _ h _ => h.elim)
  case rd =>
    intro B k W hI
    have := HZ.out.1
    have := HZ.out.2.1
    have hb := fun b (hb : b < w.heap.size) => hI.keep.block b (by omega) (by omega)
    exact ⟨(hb _ (by omega)).trans HR0.out.b0, (hb _ (by omega)).trans HR0.out.b1, (hb _ (by omega)).trans HR0.out.b2, own_move HR0.out.row (fun b hb' => hb b (HZ.out.2.2 b hb'))⟩
  case inv => exact fun B k W r o hI _ => hI.put (by have := HZ.out; omega) o
  case ext => exact fun B k W1 W2 _ hI hb => hI.ext hb
  case start => exact fun W hb hz => ⟨Keeps.of_below hb _, .inr rfl, ⟨_, blk_below H2.out hb, World.ownsRow_nil _ _ _ _, by simp [Value.ownBlock]⟩, hz⟩
  case fa =>
    rintro k a W r o ⟨b5, rfl, h5, hz⟩ _
    exact ⟨b5, rfl, fun x hx => (World.putObj_heap_other (by omega)).trans (h5 x hx), hz⟩
  case mono => exact fun B B' k W hI hs _ hb => hI.mono hs hb
  case assign =>
    intro k W K hk hzW hK
    rw [encP_eq]
    obtain ⟨x, hx⟩ : ∃ x, (cutP l lo hi)[k]? = some x := ⟨_, List.getElem?_eq_getElem hk⟩
    have henc : encVP (cutP l lo hi) k = spV x := by unfold encVP; rw [hx]
    have hK' := fun a h => hK a _ ((Below.refl _ W).alloc (Nat.le_refl _) (.cells x.cells.toArray 71)) h
    rw [henc] at hK' ⊢
    obtain ⟨x0, x1, x2⟩ := x
    have HK := Lib.hid hK'
    have HX := Lib.hid hx
    clear hK hK' hx henc
    simp only [spV]
    gi_wp2
    refine HK.out _ ⟨W.heap.size, by simp [spV], fun x h => ?_, ?_⟩
    · rw [HX.out] at h
      cases h
      exact blk_new _ _
    · exact hzW
  case body =>
    rintro B k W a hB hk hI ⟨b5, rfl, h5, hz5⟩
    obtain ⟨x, hx⟩ : ∃ x, (cutP l lo hi)[k]? = some x := ⟨_, List.getElem?_eq_getElem hk⟩
    have henc : encVP (cutP l lo hi) k = spV x := by unfold encVP; rw [hx]
    have h5 := h5 x hx
    obtain ⟨hkp, hiB, ⟨u, h1, h2, h3⟩, hsz⟩ := hI
    have a0 : W.cell? ⟨w.heap.size, 0, none⟩ = some u := blk_cell h1 0
    have a1 : W.frozen? ⟨w.heap.size, 0, none⟩ = false := blk_frozen h1 0
    have htk : (cutP l lo hi).take (k + 1) = (cutP l lo hi).take k ++ [x] := by rw [List.take_add_one, hx]; rfl
    rw [henc]
    obtain ⟨x0, x1, x2⟩ := x
    simp only [spV]
    have v0 : W.cell? ⟨b5, 0, none⟩ = some (.int .i64 x0) := blk_cell h5 0
    have v1 : W.cell? ⟨b5, 1, none⟩ = some (.int .i64 x1) := blk_cell h5 1
    have v2 : W.cell? ⟨b5, 2, none⟩ = some (.bool x2) := blk_cell h5 2
    have HH := Lib.hid (And.intro hB (And.intro hk (And.intro hkp (And.intro hiB (And.intro h1 (And.intro h2 (And.intro h3 (And.intro htk hsz))))))))
    clear hB hk hx hkp hiB h1 h2 h3 htk henc hsz h5 hz5
    obtain ⟨n, hn⟩ : ∃ n, ((cutP l lo hi).take k).length = n := ⟨_, rfl⟩
    obtain ⟨xs, hxs⟩ : ∃ xs, sflat ((cutP l lo hi).take k) = xs := ⟨_, rfl⟩
    rw [hn, hxs] at HH
    obtain ⟨hB, hk, hkp, hiB, h1, h2, h3, htk, hsz⟩ := HH.out
    have hlen : n ≤ 100000 := by
      have := cut_le l lo hi
      have := HL.out
      rw [← hn, List.length_take]; omega
    have hWz : w.heap.size ≤ W.heap.size := by have := HZ.out; omega
    have h1a := blk_alloc h1 (.cells #[.int .i64 x0, .int .i64 x1, .bool x2] 71)
    have hne : some w.heap.size ≠ u.ownBlock := fun e => (h3 _ e.symm).1 rfl
    have HGR := Lib.hid (fun (w3 : World) (hg : (W.alloc (.cells #[.int .i64 x0, .int .i64 x1, .bool x2] 71)).grownBy w3 u.ownBlock) => blk_grown h1a hg hne)
    clear hB hk hkp hiB h1 h2 h3 htk hsz h1a hne
    have HN := Lib.hid (And.intro hn (And.intro hxs (And.intro hlen hWz)))
    clear hn hxs hlen hWz
    have hrow := World.ownsRow.alloc HH.out.2.2.2.2.2.1 (.cells #[.int .i64 x0, .int .i64 x1, .bool x2] 71)
    have hcell : ∀ (j : Nat) (z : Value), [Value.int .i64 x0, .int .i64 x1, .bool x2][j]? = some z → (W.alloc (.cells #[.int .i64 x0, .int .i64 x1, .bool x2] 71)).cell? ((⟨W.heap.size, 0, none⟩ : Addr).add j) = some z := fun j z h => cells_new j z h
    have HRW := Lib.hid (And.intro hrow hcell)
    clear hrow hcell
    gi_wp2_with (gi_at_builtin; refine wpListIn_append_own_at (W.alloc (.cells #[.int .i64 x0, .int .i64 x1, .bool x2] 71)) rfl (.tmp 8) (.tmp 10) 60 rfl w.heap.size 71 i0 (.agg #[.int .i64 0, .int .i64 0, .bool false]) 3 24 Try.underlying60 HI.out.1 HI.out.2.1 HI.out.2.2.1 HI.out.2.2.2 rfl (by decide) u n xs rfl HRW.out.1 ⟨W.heap.size, 0, none⟩ 1 1 [.int .i64 x0, .int .i64 x1, .bool x2] rfl rfl HRW.out.2 (by simp [Value.oneCell']) (by have := HN.out; unfold maxLen; omega) (by have := HN.out; omega) (by have := HN.out; simp; omega) ?_; intro v' w3 hown' hg3 hnil3 hat3; obtain ⟨g3, c3, rfl⟩ := row_some hown'; have f0 := blk_cell (HGR.out w3 hg3) 0; have f1 := blk_frozen (HGR.out w3 hg3) 0; simp only [List.getElem?_toArray, List.getElem?_cons_zero] at f0)
    obtain ⟨hB, hk, hkp, hiB, h1, h2, h3, htk, hsz⟩ := HH.out
    have hg3' : g3 ≠ w.heap.size ∧ ¬ B g3 ∧ W0.heap.size + 2 ≤ g3 := by
      rcases hat3 with h | h
      · exact h3 g3 (by rw [← h]; rfl)
      · have e : g3 = W.heap.size + 1 := by simpa [Value.ownBlock] using h
        exact ⟨by have := HN.out; omega, fun hb => by have := (hB _ hb).2; omega, by omega⟩
    have hq4 : ∀ j, (Value.slice (some ⟨g3, 0, none⟩) (n + 1) c3).ownBlock = some j → j ≠ w.heap.size ∧ ¬ B j ∧ W0.heap.size + 2 ≤ j := fun j hj => by
      have e : g3 = j := by simpa [Value.ownBlock] using hj
      subst e; exact hg3'
    have hg4 : w3.heap[g3]? ≠ none := fun e => by
      have := row_lt hown' rfl
      rw [Array.getElem?_eq_getElem this] at e; cases e
    refine ⟨fun b hb => ?_, ⟨?_, hiB, ⟨.slice (some ⟨g3, 0, none⟩) (n + 1) c3, ?_, ?_, ?_⟩, ?_⟩⟩
    · have hb2 := hB b hb
      have hb3 : some b ≠ u.ownBlock := fun e => (h3 b e.symm).2.1 hb
      have hbq : b ≠ w.heap.size := by have := HZ.out; omega
      exact (Below.heap_setCell _ _ _ _ hbq).trans ((hg3.block b (by simp; omega) hb3).trans (Below.heap_alloc _ _ _ hb2.2))
    · exact ((hkp.alloc _).grown hg3 (fun j hj => .inr (by have := (h3 j hj).2.2; omega))).set _ _ (.inl rfl)
    · exact blk_put (HGR.out w3 hg3) 0 _ rfl
    · have hr := own_move (w1 := w3.setCell ⟨w.heap.size, 0, none⟩ (.slice (some ⟨g3, 0, none⟩) (n + 1) c3)) hown' (fun j hj => Below.heap_setCell _ _ _ _ (hq4 j hj).1)
      have e1 : ((cutP l lo hi).take (k + 1)).length = n + 1 := by rw [htk, List.length_append, HN.out.1]; rfl
      have e2 : sflat ((cutP l lo hi).take (k + 1)) = xs ++ [.int .i64 x0, .int .i64 x1, .bool x2] := by rw [htk, sflat_snoc, HN.out.2.1]; rfl
      rw [e1, e2]
      exact hr
    · exact hq4
    · have := hg3.size; simp [World.setCell] at this ⊢; omega
  case done =>
    intro B W hI hK
    obtain ⟨hkp, hiB, ⟨u, h1, h2, h3⟩, hsz⟩ := hI
    rw [List.take_length] at h2
    have a0 : W.cell? ⟨w.heap.size, 0, none⟩ = some u := blk_cell h1 0
    have HH := Lib.hid (And.intro hkp (And.intro h2 (And.intro hK (fun b hb => (h3 b hb).2.2))))
    clear hkp hiB h1 h2 h3 hsz hK
    gi_wp2
    obtain ⟨hkp, h2, hK, h3⟩ := HH.out
    refine ⟨by simp, .inl ⟨_, _, rfl, run_takeDeferred hK, ?_⟩⟩
    refine ⟨u, by simp [results, Try.results64, go_sem], u, rfl, own_move h2 (fun j hj => World.putObj_heap_other (by have := h3 j hj; omega)), below_put (hkp.below (by have := HZ.out; omega) (fun i hi => by omega) |> fun h => HB0.out.trans h) (by have := HZ.out; omega) _⟩

theorem collect_any (q0 : Nat) (v : Value) (l : List Sp) (lo hi : Int) (hl : l.length ≤ 1000) (w : World) (h : RdW q0 v l lo hi w) :
    Calls Try.prog 39 #[.func (.func 65) #[] #[.pointer (some ⟨q0, 0, none⟩), .pointer (some ⟨q0 + 1, 0, none⟩), .pointer (some ⟨q0 + 2, 0, none⟩)]] w fun e w' =>
      ∃ u, e = .returned u ∧ w'.ownsRow w.heap.size 71 3 u (cutP l lo hi).length (sflat (cutP l lo hi)) ∧ Below w.heap.size w w' := by
  have HC := Lib.hid (seq_any q0 v l lo hi hl w h)
  clear h hl
  go_enter Try.func39, Try.ntmps39
  go_wp2_with fail
  refine HC.out.mono ?_
  rintro e w3 ⟨u, rfl, hr, hb⟩
  have HR := Lib.hid (And.intro hr hb)
  clear hr hb HC
  go_wp2
  go_ret
  exact ⟨u, rfl, HR.out⟩
end Go.Proofs.Ytoolflmaaooplaa
