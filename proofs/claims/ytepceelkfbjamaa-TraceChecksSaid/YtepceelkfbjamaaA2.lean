/- Putting one element into the buffer of a ring: room for it, or the oldest one overwritten. -/
import Derived.Test.YtepceelkfbjamaaA1
import Derived.Test.YtepceelkfbjamaaPTraceFiltersx0
import Derived.StillTailTactics
import Derived.Deep.RegionLaw
import Derived.Deep.RegionHeld3
import Derived.Deep.AppendLies
import Derived.Test.YtepceelkfbjamaaLib
namespace Go.Proofs.Ytepceelkfbjamaa
open Go.RowKit Go.Proofs.YtepceelkfbjamaaW.PrintWords Go.Proofs.YtepceelkfbjamaaW.PrintLast Go.Proofs.YtepceelkfbjamaaW.PrintMore PTraceFilters FLib

def evCells (x : S47) : List Value := [.int .i64 x.f0, .int .i64 x.f1, .int .i64 x.f2, .int .i64 x.f3, .int .i64 x.f4, .int .i64 x.f5]
def evV (x : S47) : Value := .agg #[.int .i64 x.f0, .int .i64 x.f1, .int .i64 x.f2, .int .i64 x.f3, .int .i64 x.f4, .int .i64 x.f5]

/-- a buffer in block g whose row is one of the call's own -/
structure BufAt (w : World) (g base : Nat) (v : Value) (kept : List S47) (at_ cap lost : Int) : Prop where
  blk : w.heap[g]? = some (.cells #[v, .int .i64 at_, .int .i64 cap, .int .i64 lost] 82 (0, 0))
  row : Kd.R k47 47 w base (fun k => some k = v.ownBlock) v kept
  low : base ≤ g
  le : base ≤ w.heap.size

def BufFp (g : Nat) (v : Value) (k : Nat) : Prop := k = g ∨ some k = v.ownBlock
def Moved (w : World) (v v' : Value) : Prop := v'.ownBlock = v.ownBlock ∨ ∃ k, v'.ownBlock = some k ∧ w.heap.size ≤ k

def PutPost (g base : Nat) (v : Value) (kept' : List S47) (at' cap lost' : Int) (w : World) (e : Ending) (w' : World) : Prop :=
  e = .returned (.tuple #[]) ∧ ∃ v', BufAt w' g base v' kept' at' cap lost' ∧ Keeps w w' (BufFp g v) ∧ Moved w v v'

set_option maxRecDepth 100000 in
set_option maxHeartbeats 1600000 in
theorem put_room (g base : Nat) (v : Value) (kept : List S47) (at_ cap lost : Int) (x : S47) (w : World) (hb : BufAt w g base v kept at_ cap lost)
    (hlt : (kept.length : Int) < cap) (hcap : cap ≤ 10000) :
    Calls Try.prog 33 #[.pointer (some ⟨g, 0, none⟩), evV x] w (PutPost g base v (kept ++ [x]) at_ cap lost w) := by
  obtain ⟨hg, hR0, hbg, hbase⟩ := hb
  have hR : Kd.R k47 47 w base (fun _ => True) v kept := Kd.R_mono hR0 (fun _ _ => trivial)
  clear hR0
  obtain ⟨i0, hi0, hz0, hz1, hz2⟩ := info_parts info47
  have hne := Kd.R_ne hR hg (by decide)
  obtain ⟨inner, hown, happ⟩ := R_app hR (fun _ _ => trivial)
  obtain ⟨A, c, rfl, hc, -⟩ := Kd.R_reads hR
  have h0 := blk_cell hg 0
  have h2 := blk_cell hg 2
  simp at h0 h2
  have hgs := blk_lt hg
  have HA := Lib.hid happ
  have HO := Lib.hid hown
  have HG := Lib.hid hg
  have HN := Lib.hid hne
  have HX := Lib.hid (show some w.heap.size ≠ (Value.slice A kept.length c).ownBlock from Kd.R_ne_new hR 0)
  clear hR hg hown happ hne
  unfold evV
  go_enter Try.func33, Try.ntmps33
  go_wp2
  go_quiet (fail)
  go_wp2
  go_region_law
    ((refine step_append_lies _ (by rfl) _ _ _ (by rfl) base 47 i0 _ 6 48 Try.underlying22 hi0 hz0 hz1 hz2 rfl (by omega) (.slice A kept.length c) kept.length inner (by rfl) (HO.out _ (below_new2 _ _ _ _)) ⟨w.heap.size + 1, 0, none⟩ 1 1 (evCells x) (by rfl) (by rfl) (World.news_of_block (cs := (evCells x).toArray) (t := 47) (fr := (0, 0)) (blk_second _ _ _ _)) (by simp [evCells, Value.oneCell']) (by omega) (by unfold maxLen; omega) (by omega) (by simp; omega) (w.heap.size + 2) (by simp) ?_; intro gg cap1 w1 hown1 hgrow hat hlt1
      have hg1 : w1.heap[g]? = some (.cells #[.slice A kept.length c, .int .i64 at_, .int .i64 cap, .int .i64 lost] 82 (0, 0)) := blk_grow HG.out hgrow (below_new2 _ _ _ _) HN.out
      have c0 : w1.cell? ⟨g, 0, none⟩ = some (.slice A kept.length c) := blk_cell hg1 0
      have f0 : w1.frozen? ⟨g, 0, none⟩ = false := blk_frozen hg1 0
      have HG1 := Lib.hid hg1
      clear hg1))
  all_goals
    go_wp2
    have hR1 := HA.out _ _ _ _ _ x (fun _ => False) (below_new2 _ _ _ _) hown1 hgrow (by simpa using hat) (k47_mkM _ _ _ x) (fun _ h => h.elim)
    have hk : Keeps w w1 (BufFp g (.slice A kept.length c)) := (Keeps.of_below (below_new2 _ _ _ _) _).grown hgrow (fun k hk => .inl (.inr hk.symm))
    refine bodyPost_ret (v := .tuple #[]) (results_none rfl _ _ _) rfl ⟨rfl, .slice (some ⟨gg, 0, none⟩) (kept.length + 1) cap1, ⟨blk_set HG1.out 0 _, Kd.R_tight rfl (Kd.R_set hR1 HG1.out (by decide) 0 _), hbg, ?_⟩, hk.set _ _ (.inl (.inl rfl)), ?_⟩
    · have := hk.size
      simp [World.setCell]; omega
    · rcases hat with h | h
      · exact .inl h.symm
      · exact .inr ⟨gg, rfl, by have := (below_new2 w (.cells #[] 0) (.cells #[] 0) 0).size; simp at this h; omega⟩

set_option maxRecDepth 100000 in
set_option maxHeartbeats 1600000 in
theorem put_full (g base : Nat) (v : Value) (kept : List S47) (at_ : Nat) (cap lost : Int) (x : S47) (w : World) (hb : BufAt w g base v kept at_ cap lost)
    (hlt : (kept.length : Int) = cap) (hcap : cap ≤ 10000) (hat : at_ < kept.length) (hl0 : 0 ≤ lost) (hl1 : lost ≤ 4611686018427387904) :
    Calls Try.prog 33 #[.pointer (some ⟨g, 0, none⟩), evV x] w (PutPost g base v (kept.set at_ x) ((at_ + 1) % kept.length) cap (lost + 1) w) := by
  obtain ⟨hg, hR, hbg, hbase⟩ := hb
  have hnge : ¬ ((kept.length : Int) < cap) := by omega
  have hne := Kd.R_ne hR hg (by decide)
  obtain ⟨gg, c, rfl, -, hgg, -⟩ := Kd.R_form hR (by omega)
  obtain ⟨hcn, hcc0, -⟩ := Kd.R_reads' hR
  obtain ⟨cs, hcs, hM, hcc, hfr⟩ := Kd.R_elem hR z47 (at_ : Int) (by omega) (by omega)
  obtain rfl := k47_openM hM
  have c0 := hcc 0 _ rfl
  have c1 := hcc 1 _ rfl
  have c2 := hcc 2 _ rfl
  have c3 := hcc 3 _ rfl
  have c4 := hcc 4 _ rfl
  have c5 := hcc 5 _ rfl
  have f0 := hfr 0
  have f1 := hfr 1
  have f2 := hfr 2
  have f3 := hfr 3
  have f4 := hfr 4
  have f5 := hfr 5
  simp only [Int.toNat_natCast, show k47.sz = 6 from rfl, Nat.add_zero] at c0 c1 c2 c3 c4 c5 f0 f1 f2 f3 f4 f5
  have HC := Lib.hid hcc
  have HM := Lib.hid hM
  have HR := Lib.hid hR
  have h0 := blk_cell hg 0
  have h1 := blk_cell hg 1
  have h2 := blk_cell hg 2
  have h3 := blk_cell hg 3
  simp at h0 h1 h2 h3
  have hgs := blk_lt hg
  have HG := Lib.hid hg
  have HN := Lib.hid hne
  have hgne : g ≠ gg := fun e => hne (by rw [e]; rfl)
  have hgne' : gg ≠ g := Ne.symm hgne
  have hsz : w.heap.size ≠ gg := by omega
  have hsz' : gg ≠ w.heap.size := by omega
  have hi0 : (0 : Int) ≤ (at_ : Int) := by omega
  have hi1 : (at_ : Int) < (kept.length : Int) := by omega
  clear hg hne hcc hM hR hfr hcs
  unfold evV
  go_enter Try.func33, Try.ntmps33
  go_wp2
  go_quiet (fail)
  go_wp2
  refine still_tail 9 (by kernel_rfl) (by kernel_rfl) ?_
  simp only [List.take_succ_cons, List.take_zero, List.drop_succ_cons, List.drop_zero]
  repeat still_step
  refine wpStill_nil ?_
  go_wp2
  refine abs_w (fun W => W.heap[g]? = some (.cells #[.slice (some ⟨gg, 0, none⟩) kept.length c, .int .i64 at_, .int .i64 cap, .int .i64 lost] 82 (0, 0)) ∧
    Kd.R k47 47 W base (fun k => some k = some gg) (.slice (some ⟨gg, 0, none⟩) kept.length c) (kept.set at_ x) ∧ Keeps w W (fun k => k = gg)) ?_ ?_
  · have hb2 := below_boxed w (.cells #[.int .i64 x.f0, .int .i64 x.f1, .int .i64 x.f2, .int .i64 x.f3, .int .i64 x.f4, .int .i64 x.f5] 47) (nq + 1)
    have h2 := Kd.R_seg (Kd.R_below HR.out hb2) (at_ : Int) hi0 hi1 (seg := evCells x) (j := 0) (okp := fun _ => False) (x' := x) rfl (fun j u hu => pw_cell_below hb2 (HC.out j u hu)) (Nat.le_refl 6) (k47_mkM _ _ _ x) (fun _ h => h.elim)
    simp only [Int.toNat_natCast, show k47.sz = 6 from rfl, Nat.add_zero, evCells, World.setCells] at h2
    have hk := (Keeps.of_below hb2 (fun k => k = gg)).grown h2.2 (fun k h => .inl (by injection h with h; exact h.symm))
    exact ⟨hk.blk HG.out hgne, h2.1, hk⟩
  clear c0 c1 c2 c3 c4 c5 f0 f1 f2 f3 f4 f5 h0 h1 h2 h3
  rintro W ⟨hW, hRW, hK⟩
  have hc1 : 1 ≤ cap := by omega
  have hc2 : (at_ : Int) ≤ 10000 := by omega
  have hc3 : ¬ cap = 0 := by omega
  have hc4 : IntKind.i64.wrap ((at_ : Int) + 1) = (at_ : Int) + 1 := IntWalk.i64_in _ (by omega)
  have hc5 : ((at_ : Int) + 1).tmod cap = ((at_ : Int) + 1) % cap := Int.tmod_eq_emod_of_nonneg (by omega)
  have h0 := blk_cell hW 1
  have h2 := blk_cell hW 2
  have h3 := blk_cell hW 3
  have f1 := blk_frozen hW 1
  have f3 := blk_frozen hW 3
  simp at h0 h2 h3
  have HW := Lib.hid hW
  have HRW := Lib.hid hRW
  have HK := Lib.hid hK
  clear hW hRW hK
  refine still_tail 11 (by kernel_rfl) (by kernel_rfl) ?_
  simp only [List.take_succ_cons, List.take_zero, List.drop_succ_cons, List.drop_zero]
  repeat still_step
  refine wpStill_nil ?_
  clear hc3 hc4 hc5
  go_wp2
  have hk := ((HK.out.mono (G := BufFp g (.slice (some ⟨gg, 0, none⟩) kept.length c)) (fun k h => .inr (by rw [h]; rfl))).drew.set ⟨g, 1, none⟩ (.int .i64 (((at_ : Int) + 1) % cap)) (.inl (.inl rfl))).set ⟨g, 3, none⟩ (.int .i64 (lost + 1)) (.inl (.inl rfl))
  have hb := blk_set (blk_set (blk_drew HW.out) 1 (.int .i64 (((at_ : Int) + 1) % cap))) 3 (.int .i64 (lost + 1))
  have hr := Kd.R_set (Kd.R_set (Kd.R_drew HRW.out) (blk_drew HW.out) (by decide) 1 (.int .i64 (((at_ : Int) + 1) % cap))) (blk_set (blk_drew HW.out) 1 (.int .i64 (((at_ : Int) + 1) % cap))) (by decide) 3 (.int .i64 (lost + 1))
  refine bodyPost_end (v := .tuple #[]) (results_none rfl _ _ _) rfl ⟨rfl, .slice (some ⟨gg, 0, none⟩) kept.length c, ⟨?_, hr, hbg, ?_⟩, hk, .inl rfl⟩
  · rw [hlt]; exact hb
  · exact Nat.le_trans hbase hk.size

end Go.Proofs.Ytepceelkfbjamaa
