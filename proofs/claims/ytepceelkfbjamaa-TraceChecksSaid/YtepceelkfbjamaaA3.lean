/- The ring of the trace: putting events into it. -/
import Derived.Test.YtepceelkfbjamaaA2
namespace Go.Proofs.Ytepceelkfbjamaa
open Go.RowKit Go.Proofs.YtepceelkfbjamaaW.PrintWords Go.Proofs.YtepceelkfbjamaaW.PrintLast Go.Proofs.YtepceelkfbjamaaW.PrintMore PTraceFilters FLib

/-- The ring's state. -/
structure RS where
  kept : List S47
  pos : Nat
  lost : Nat
def RS.put (cap : Nat) (s : RS) (x : S47) : RS :=
  if s.kept.length < cap then ⟨s.kept ++ [x], s.pos, s.lost⟩ else ⟨s.kept.set s.pos x, (s.pos + 1) % s.kept.length, s.lost + 1⟩
def RS.Ok (cap : Nat) (s : RS) : Prop := 1 ≤ cap ∧ cap ≤ 10000 ∧ s.kept.length ≤ cap ∧ (s.kept.length < cap → s.pos = 0) ∧ (s.kept.length = cap → s.pos < cap)
theorem RS.put_ok {cap : Nat} {s : RS} (h : s.Ok cap) (x : S47) : (s.put cap x).Ok cap := by
  obtain ⟨h1, h2, h3, h4, h5⟩ := h
  unfold RS.put RS.Ok
  split
  · refine ⟨h1, h2, by simp; omega, fun h => ?_, fun h => ?_⟩
    · exact h4 (by omega)
    · have := h4 (by omega); simp; omega
  · refine ⟨h1, h2, by simp; omega, fun h => ?_, fun h => ?_⟩
    · simp at h; omega
    · exact Nat.lt_of_lt_of_le (Nat.mod_lt _ (by omega)) (by omega)

def RingAt (w : World) (g base : Nat) (v : Value) (cap : Nat) (s : RS) : Prop := BufAt w g base v s.kept s.pos cap s.lost ∧ s.Ok cap

def RingPost (ret : Value) (g base : Nat) (v : Value) (cap : Nat) (s' : RS) (w : World) (e : Ending) (w' : World) : Prop :=
  e = .returned ret ∧ ∃ v', RingAt w' g base v' cap s' ∧ Keeps w w' (BufFp g v) ∧ Moved w v v'

theorem put_any (g base : Nat) (v : Value) (cap : Nat) (s : RS) (x : S47) (w : World) (h : RingAt w g base v cap s) (hl : s.lost ≤ 1000000) :
    Calls Try.prog 33 #[.pointer (some ⟨g, 0, none⟩), evV x] w (RingPost (.tuple #[]) g base v cap (s.put cap x) w) := by
  obtain ⟨hb, ho⟩ := h
  have ho' := RS.put_ok ho x
  obtain ⟨h1, h2, h3, h4, h5⟩ := ho
  by_cases hlt : s.kept.length < cap
  · refine (put_room g base v s.kept _ _ _ x w hb (by omega) (by omega)).mono fun e w' hp => ?_
    obtain ⟨he, v', hv, hk, hm⟩ := hp
    refine ⟨he, v', ⟨?_, ho'⟩, hk, hm⟩
    simp only [RS.put, if_pos hlt]
    exact hv
  · refine (put_full g base v s.kept s.pos _ _ x w hb (by omega) (by omega) (by have := h5 (by omega); omega) (by omega) (by omega)).mono fun e w' hp => ?_
    obtain ⟨he, v', hv, hk, hm⟩ := hp
    refine ⟨he, v', ⟨?_, ho'⟩, hk, hm⟩
    simp only [RS.put, if_neg hlt]
    have e1 : (((s.pos + 1) % s.kept.length : Nat) : Int) = ((s.pos : Int) + 1) % (s.kept.length : Int) := by simp
    have e2 : ((s.lost + 1 : Nat) : Int) = (s.lost : Int) + 1 := by simp
    rw [e1, e2]
    exact hv

theorem Moved.trans {w w1 : World} {v v1 v2 : Value} (h : Moved w v v1) (k : Moved w1 v1 v2) (hs : w.heap.size ≤ w1.heap.size) : Moved w v v2 := by
  rcases k with k | ⟨b, k, hb⟩
  · rcases h with h | ⟨b, h, hb⟩
    · exact .inl (k.trans h)
    · exact .inr ⟨b, k.trans h, hb⟩
  · exact .inr ⟨b, k, by omega⟩
theorem BufFp.moved {w : World} {g : Nat} {v v1 : Value} (h : Moved w v v1) : ∀ i, BufFp g v1 i → BufFp g v i ∨ w.heap.size ≤ i := by
  intro i hi
  rcases hi with hi | hi
  · exact .inl (.inl hi)
  · rcases h with h | ⟨b, h, hb⟩
    · exact .inl (.inr (hi.trans h))
    · rw [h] at hi; injection hi with hi; exact .inr (by omega)

theorem BufAt.keeps {w w' : World} {g base : Nat} {v : Value} {kept : List S47} {a c l : Int} {F : Nat → Prop} (h : BufAt w g base v kept a c l) (hk : Keeps w w' F) (hF : ∀ i, BufFp g v i → ¬ F i) : BufAt w' g base v kept a c l :=
  ⟨hk.blk h.blk (hF g (.inl rfl)), hk.R h.row (fun i hi => hF i (.inr hi)), h.low, Nat.le_trans h.le hk.size⟩
theorem RingAt.keeps {w w' : World} {g base : Nat} {v : Value} {cap : Nat} {s : RS} {F : Nat → Prop} (h : RingAt w g base v cap s) (hk : Keeps w w' F) (hF : ∀ i, BufFp g v i → ¬ F i) : RingAt w' g base v cap s := ⟨h.1.keeps hk hF, h.2⟩
theorem RingAt.below {w w' : World} {g base : Nat} {v : Value} {cap : Nat} {s : RS} (h : RingAt w g base v cap s) (hb : Below w.heap.size w w') : RingAt w' g base v cap s := h.keeps (Keeps.of_below hb (fun _ => False)) (fun _ _ h => h)
theorem RS.lost_le (cap : Nat) (l : List S47) : ∀ (s : RS), (l.foldl (RS.put cap) s).lost ≤ s.lost + l.length := by
  induction l with
  | nil => intro s; simp
  | cons x l ih =>
    intro s
    have h1 := ih (RS.put cap s x)
    have h2 : (RS.put cap s x).lost ≤ s.lost + 1 := by unfold RS.put; split <;> simp
    simp only [List.foldl_cons, List.length_cons]
    omega
theorem take_foldl {α β : Type} (f : α → β → α) (a : α) (l : List β) (k : Nat) (x : β) (h : l[k]? = some x) : (l.take (k + 1)).foldl f a = f ((l.take k).foldl f a) x := by
  rw [List.take_add_one, h]; simp [List.foldl_append]
theorem rd_get (l : List S47) (k : Nat) (h : k < l.length) : l[k]? = some (rd_T47 l k) := by simp [rd_T47, List.getD, h]

set_option maxRecDepth 100000 in
set_option maxHeartbeats 1600000 in
theorem putAll (g base : Nat) (v : Value) (cap : Nat) (s : RS) (A : Option Addr) (c : Nat) (l : List S47) (w : World) (h : RingAt w g base v cap s) (hl : s.lost + l.length ≤ 1000000)
    (hC : ∀ W, Keeps w W (BufFp g v) → Kd.C k47 W A l.length l) :
    Calls Try.prog 13 #[.pointer (some ⟨g, 0, none⟩), .slice A l.length c] w (RingPost (.int .i64 0) g base v cap (l.foldl (RS.put cap) s) w) := by
  have H := Lib.hid h
  have HC := Lib.hid hC
  have hlen : (l.length : Int) ≤ 1000000 := by omega
  clear h hC
  go_enter Try.func13, Try.ntmps13
  go_wp2
  go_loopw [11] (fun i wr => ∃ k : Nat, k ≤ l.length ∧ i = .int .i64 k ∧ Hid (∃ v', RingAt wr g base v' cap ((l.take k).foldl (RS.put cap) s) ∧ Keeps w wr (BufFp g v) ∧ Moved w v v')) (fun i _ => l.length - (intOf i).toNat)
  case atStart => exact ⟨0, Nat.zero_le _, rfl, Lib.hid ⟨v, H.out, Keeps.refl _ _, .inl rfl⟩⟩
  case round =>
    obtain ⟨k, hk, rfl, HR⟩ := hrel
    obtain ⟨v', hring, hkeep, hmov⟩ := HR.out
    by_cases hlt : k < l.length
    · obtain ⟨ad, rfl, c0, c1, c2, c3, c4, c5⟩ := at_T47 (HC.out wr hkeep) (k : Int) (by omega) (by omega)
      simp only [Int.toNat_natCast] at c0 c1 c2 c3 c4 c5
      have hi0 : (0 : Int) ≤ (k : Int) := by omega
      have hi1 : (k : Int) < (l.length : Int) := by omega
      generalize hx : rd_T47 l k = x at c0 c1 c2 c3 c4 c5
      have HX := Lib.hid hx
      have HG := Lib.hid hring
      have HK := Lib.hid hkeep
      have HM := Lib.hid hmov
      clear hx hring hkeep hmov HR
      go_wp2
      refine still_tail 4 (by kernel_rfl) (by kernel_rfl) ?_
      simp only [List.take_succ_cons, List.take_zero, List.drop_succ_cons, List.drop_zero]
      repeat still_step
      refine wpStill_nil ?_
      go_wp2_with fail
      have hb : Below wr.heap.size wr (wr.alloc (.cells #[.int .i64 x.f0, .int .i64 x.f1, .int .i64 x.f2, .int .i64 x.f3, .int .i64 x.f4, .int .i64 x.f5] 47)).drew := below_drew (below_alloc (Below.refl _ _) _)
      have hlo := RS.lost_le cap (l.take k) s
      have hlk : (l.take k).length ≤ k := List.length_take_le _ _
      refine (put_any g base v' cap _ x _ (HG.out.below hb) (by omega)).mono ?_
      rintro e w2 ⟨rfl, v2, hr2, hk2, hm2⟩
      have HF := Lib.hid (show ∃ v', RingAt w2 g base v' cap ((l.take (k + 1)).foldl (RS.put cap) s) ∧ Keeps w w2 (BufFp g v) ∧ Moved w v v' from
        ⟨v2, by rw [take_foldl _ _ _ k x (by rw [← HX.out]; exact rd_get l k hlt)]; exact hr2, (HK.out.trans (Keeps.of_below hb (fun _ => False)) (fun _ h => h.elim)).trans hk2 (BufFp.moved HM.out), HM.out.trans (Moved.trans (.inl rfl) hm2 (Nat.le_refl _) |>.imp id (fun ⟨b, h1, h2⟩ => ⟨b, h1, Nat.le_trans hb.size h2⟩)) HK.out.size⟩)
      clear hr2 hk2 hm2 hb hlo hlk HG HX HK HM c0 c1 c2 c3 c4 c5
      go_wp2
      go_roundw
      case rel => exact ⟨k + 1, by omega, by go_num, HF⟩
      case measure => simp [intOf]; omega
    · have : k = l.length := by omega
      subst this
      go_wp2
      go_ret
      exact ⟨rfl, by simpa using HR.out⟩
end Go.Proofs.Ytepceelkfbjamaa
