/- The length of a task's program. -/
import Derived.Test.YtmbfnhnemhojjaaE1
namespace Go.Proofs.Ytmbfnhnemhojjaa
set_option linter.unusedVariables false
set_option linter.unusedSimpArgs false
open Go.RowKit Go.Proofs.YtmbfnhnemhojjaaW.PrintWords Go.Proofs.YtmbfnhnemhojjaaW.PrintLast Go.Proofs.YtmbfnhnemhojjaaW.PrintMore PResponseCosts FLib

theorem info99 : (Try.prog.info? 99).map (fun i => (i.zero, i.size, i.bytes)) = some (some (.agg #[.int .i64 0, .int .i64 0, .int .i64 0, .int .i64 0, .int .i64 0, .slice none 0 0, .slice none 0 0]), 7, 88) := by kernel_rfl
theorem info100 : (Try.prog.info? 100).map (fun i => (i.zero, i.size, i.bytes)) = some (some (.agg #[.int .i64 0, .int .i64 0, .int .i64 0, .int .i64 0, .int .i64 0, .slice none 0 0, .slice none 0 0]), 7, 88) := by kernel_rfl
def opC (a b c d : Int) : List Value := [.int .i64 a, .int .i64 b, .int .i64 c, .int .i64 d, .int .i64 0, .slice none 0 0, .slice none 0 0]
def plen (x : S33) : Nat := if 0 < x.f5 then 7 else 4

theorem own_lit2 (w : World) (o o2 : Obj) (cs : Array Value) (e size n : Nat) (hs : cs.size = n * size) (hn : n ≤ 100) : (((w.alloc o).alloc (.cells cs e)).alloc o2).ownsRow w.heap.size e size (.slice (some ⟨w.heap.size + 1, 0, none⟩) n n) n cs.toList := by
  have h := (World.ownsRow_lit (base := w.heap.size) (e := e) (size := size) (w.alloc o) cs n (by simp) (by unfold maxLen; omega) hs).alloc o2
  simpa using h
theorem news_top (w : World) (cs : List Value) (e g : Nat) (hg : g = w.heap.size) : ∀ j u, cs[j]? = some u → (w.alloc (.cells cs.toArray e)).cell? ((⟨g, 0, none⟩ : Addr).add j) = some u := by
  subst hg
  intro j u hu
  rw [add_plain, blk_cell (blk_new w (.cells cs.toArray e))]
  simpa using hu
theorem grown_lit {w : World} {o o2 o3 : Obj} {w1 : World} {row : Option Nat} (h : ((((w.alloc o).alloc o2).alloc o3)).grownBy w1 row) (hrow : ∀ k, row = some k → w.heap.size ≤ k) : Below w.heap.size w w1 :=
  Below.grown (below_alloc (below_alloc (below_alloc (Below.refl w.heap.size w) o) o2) o3) h (by simp; omega) hrow
theorem box_kept {w : World} {o o2 o3 : Obj} {w1 : World} {row : Option Nat} (h : ((((w.alloc o).alloc o2).alloc o3)).grownBy w1 row) (hrow : some w.heap.size ≠ row) : w1.heap[w.heap.size]? = some o :=
  blk_grown (blk_alloc (blk_alloc (blk_new w o) o2) o3) h hrow
theorem own_base {w : World} {base e size g n cap : Nat} {xs : List Value} (h : w.ownsRow base e size (.slice (some ⟨g, 0, none⟩) n cap) n xs) (hn : 0 < n) : base ≤ g := by
  obtain ⟨-, h⟩ := h
  rcases h with ⟨h, -⟩ | ⟨g', c', cs', h, hb, -⟩
  · cases h
  · simp at h
    omega
theorem grown_top {w w1 w2 : World} {o : Obj} {row : Option Nat} (h1 : Below w.heap.size w w1) (h : (w1.alloc o).grownBy w2 row) (hrow : ∀ k, row = some k → w.heap.size ≤ k) : Below w.heap.size w w2 :=
  Below.grown (below_new h1 o) h (by have := h1.size; simp; omega) hrow
set_option maxRecDepth 100000 in
set_option maxHeartbeats 1000000 in
theorem program_any (i : Int) (x : S33) (hx : TkOk x) (w : World) : Calls Try.prog 46 #[.int .i64 i, tkV x] w fun e w' => ∃ A c, e = .returned (.slice A (plen x) c) ∧ Below w.heap.size w w' := by
  obtain ⟨b3, b3'⟩ := hx.f3
  obtain ⟨i0, hi0, hz0, hz1, hz2⟩ := info_parts info99
  have HP := Lib.hid (show plen x = if 0 < x.f5 then 7 else 4 from rfl)
  unfold tkV
  clear hx
  by_cases hz : 0 < x.f5
  · rw [if_pos hz] at HP
    go_enter Try.func46, Try.ntmps46
    go_wp2_with (first
      | (refine gate_builtin (xs := #[.tmp 21, .tmp 27]) rfl ?_; go_must (refine wpList_append_lies _ rfl (.tmp 21) (.tmp 27) 82 rfl w.heap.size 99 i0 _ 7 88 Try.underlying82 hi0 hz0 hz1 hz2 rfl (by omega) (.slice (some ⟨w.heap.size + 1, 0, none⟩) 2 2) 2 _ (by rfl) (own_lit2 _ _ _ _ _ _ 2 (by rfl) (by omega)) ⟨w.heap.size + 1 + 1, 0, none⟩ 3 3 (opC 14 0 0 0 ++ (opC 0 x.f5 0 0 ++ opC 16 0 0 0)) (by rfl) (by rfl) (news_top _ _ _ _ (by simp)) (by simp [opC, Value.oneCell']) (by omega) (by unfold maxLen; omega) (by omega) (by simp; omega) (w.heap.size + 3) (by simp) ?_); intro g cap w1 hown hgrow hat hlt; have HO := Lib.hid hown; have HB1 := Lib.hid (grown_lit hgrow (by simp [Value.ownBlock])); have c4 : w1.cell? ⟨w.heap.size, 4, none⟩ = some (.int .i64 x.f4) := blk_cell (box_kept hgrow (by simp [Value.ownBlock])) 4; clear hown hgrow hat hlt)
      | (refine gate_builtin (xs := #[.tmp 29, .tmp 34]) rfl ?_; go_must (refine wpList_append_lies _ rfl (.tmp 29) (.tmp 34) 82 rfl w.heap.size 99 i0 _ 7 88 Try.underlying82 hi0 hz0 hz1 hz2 rfl (by omega) (.slice (some ⟨g, 0, none⟩) 5 cap) 5 _ (by rfl) (HO.out.alloc _) ⟨w1.heap.size, 0, none⟩ 2 2 (opC 0 x.f4 0 0 ++ opC 3 1 0 0) (by rfl) (by rfl) (news_top _ _ _ _ rfl) (by simp [opC, Value.oneCell']) (by omega) (by unfold maxLen; omega) (by omega) (by have := HB1.out.size; simp; omega) (w1.heap.size + 1) (by simp) ?_); intro g2 cap2 w2 hown2 hgrow2 hat2 hlt2; have HB2 := Lib.hid (grown_top HB1.out hgrow2 (fun k hk => by have := own_base HO.out (by omega); simp [Value.ownBlock] at hk; omega)); clear hown2 hgrow2 hat2 hlt2))
    go_ret
    exact ⟨⟨some ⟨g2, 0, none⟩, cap2, by rw [HP.out]; rfl⟩, HB2.out⟩
  · rw [if_neg hz] at HP
    go_enter Try.func46, Try.ntmps46
    go_wp2_with (first
      | (refine gate_builtin (xs := #[.tmp 29, .tmp 34]) rfl ?_; go_must (refine wpList_append_lies _ rfl (.tmp 29) (.tmp 34) 82 rfl w.heap.size 99 i0 _ 7 88 Try.underlying82 hi0 hz0 hz1 hz2 rfl (by omega) (.slice (some ⟨w.heap.size + 1, 0, none⟩) 2 2) 2 _ (by rfl) (own_lit2 _ _ _ _ _ _ 2 (by rfl) (by omega)) ⟨w.heap.size + 1 + 1, 0, none⟩ 2 2 (opC 0 x.f4 0 0 ++ opC 3 1 0 0) (by rfl) (by rfl) (news_top _ _ _ _ (by simp)) (by simp [opC, Value.oneCell']) (by omega) (by unfold maxLen; omega) (by omega) (by simp; omega) (w.heap.size + 3) (by simp) ?_); intro g cap w1 hown hgrow hat hlt; have HB1 := Lib.hid (grown_lit hgrow (by simp [Value.ownBlock])); clear hown hgrow hat hlt)
      | fail)
    go_ret
    exact ⟨⟨some ⟨g, 0, none⟩, cap, by rw [HP.out]; rfl⟩, HB1.out⟩
set_option maxRecDepth 100000 in
set_option maxHeartbeats 1000000 in
theorem rprogram_any (i : Int) (x : S33) (hx : TkOk x) (w : World) : Calls Try.prog 47 #[tkV x, .int .i64 i] w fun e w' => ∃ A c, e = .returned (.slice A (plen x) c) ∧ Below w.heap.size w w' := by
  obtain ⟨b3, b3'⟩ := hx.f3
  obtain ⟨i0, hi0, hz0, hz1, hz2⟩ := info_parts info100
  have HP := Lib.hid (show plen x = if 0 < x.f5 then 7 else 4 from rfl)
  unfold tkV
  clear hx
  by_cases hz : 0 < x.f5
  · rw [if_pos hz] at HP
    go_enter Try.func47, Try.ntmps47
    go_wp2_with (first
      | (refine gate_builtin (xs := #[.tmp 21, .tmp 27]) rfl ?_; go_must (refine wpList_append_lies _ rfl (.tmp 21) (.tmp 27) 84 rfl w.heap.size 100 i0 _ 7 88 Try.underlying84 hi0 hz0 hz1 hz2 rfl (by omega) (.slice (some ⟨w.heap.size + 1, 0, none⟩) 2 2) 2 _ (by rfl) (own_lit2 _ _ _ _ _ _ 2 (by rfl) (by omega)) ⟨w.heap.size + 1 + 1, 0, none⟩ 3 3 (opC 14 0 0 0 ++ (opC 0 x.f5 0 0 ++ opC 16 0 0 0)) (by rfl) (by rfl) (news_top _ _ _ _ (by simp)) (by simp [opC, Value.oneCell']) (by omega) (by unfold maxLen; omega) (by omega) (by simp; omega) (w.heap.size + 3) (by simp) ?_); intro g cap w1 hown hgrow hat hlt; have HO := Lib.hid hown; have HB1 := Lib.hid (grown_lit hgrow (by simp [Value.ownBlock])); have c4 : w1.cell? ⟨w.heap.size, 4, none⟩ = some (.int .i64 x.f4) := blk_cell (box_kept hgrow (by simp [Value.ownBlock])) 4; clear hown hgrow hat hlt)
      | (refine gate_builtin (xs := #[.tmp 29, .tmp 34]) rfl ?_; go_must (refine wpList_append_lies _ rfl (.tmp 29) (.tmp 34) 84 rfl w.heap.size 100 i0 _ 7 88 Try.underlying84 hi0 hz0 hz1 hz2 rfl (by omega) (.slice (some ⟨g, 0, none⟩) 5 cap) 5 _ (by rfl) (HO.out.alloc _) ⟨w1.heap.size, 0, none⟩ 2 2 (opC 0 x.f4 0 0 ++ opC 3 1 0 0) (by rfl) (by rfl) (news_top _ _ _ _ rfl) (by simp [opC, Value.oneCell']) (by omega) (by unfold maxLen; omega) (by omega) (by have := HB1.out.size; simp; omega) (w1.heap.size + 1) (by simp) ?_); intro g2 cap2 w2 hown2 hgrow2 hat2 hlt2; have HB2 := Lib.hid (grown_top HB1.out hgrow2 (fun k hk => by have := own_base HO.out (by omega); simp [Value.ownBlock] at hk; omega)); clear hown2 hgrow2 hat2 hlt2))
    go_ret
    exact ⟨⟨some ⟨g2, 0, none⟩, cap2, by rw [HP.out]; rfl⟩, HB2.out⟩
  · rw [if_neg hz] at HP
    go_enter Try.func47, Try.ntmps47
    go_wp2_with (first
      | (refine gate_builtin (xs := #[.tmp 29, .tmp 34]) rfl ?_; go_must (refine wpList_append_lies _ rfl (.tmp 29) (.tmp 34) 84 rfl w.heap.size 100 i0 _ 7 88 Try.underlying84 hi0 hz0 hz1 hz2 rfl (by omega) (.slice (some ⟨w.heap.size + 1, 0, none⟩) 2 2) 2 _ (by rfl) (own_lit2 _ _ _ _ _ _ 2 (by rfl) (by omega)) ⟨w.heap.size + 1 + 1, 0, none⟩ 2 2 (opC 0 x.f4 0 0 ++ opC 3 1 0 0) (by rfl) (by rfl) (news_top _ _ _ _ (by simp)) (by simp [opC, Value.oneCell']) (by omega) (by unfold maxLen; omega) (by omega) (by simp; omega) (w.heap.size + 3) (by simp) ?_); intro g cap w1 hown hgrow hat hlt; have HB1 := Lib.hid (grown_lit hgrow (by simp [Value.ownBlock])); clear hown hgrow hat hlt)
      | fail)
    go_ret
    exact ⟨⟨some ⟨g, 0, none⟩, cap, by rw [HP.out]; rfl⟩, HB1.out⟩
end Go.Proofs.Ytmbfnhnemhojjaa
