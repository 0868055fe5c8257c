/- TraceChecks: The profiler: stop, run, event. -/
import Derived.Test.YtepceelkfbjamaaK5
namespace Go.Proofs.Ytepceelkfbjamaa
section
set_option linter.unusedVariables false
set_option linter.unusedSimpArgs false
open Go.RowKit Go.Proofs.YtepceelkfbjamaaW.PrintWords Go.Proofs.YtepceelkfbjamaaW.PrintLast Go.Proofs.YtepceelkfbjamaaW.PrintMore PTraceFilters FLib
attribute [local go_sem ↓] hold_cells hold_from
attribute [local go_sem] below_alloc_T below_drew_T below_drewN_T run_box run_box6
attribute [local go_sem] max2_int max_two

/-- The profiler at block qp: its checker, its rows, the times. -/
structure PP (w : World) (qp q gr cr gb ge gw gs gk : Nat) (kA : Option Addr) (ck : Nat) (P : Pf) : Prop where
  hp : w.heap[qp]? = some (.cells #[.pointer (some ⟨q, 0, none⟩), .slice (some ⟨gw, 0, none⟩) P.wk.length P.wk.length, .slice (some ⟨gs, 0, none⟩) P.si.length P.si.length, .slice kA P.wk.length ck] 105 (0, 0))
  cc : CC 115 w q gr cr gb ge P.s
  hw : At w gw 76 (ints P.F)
  hs : At w gs 2 (ints P.si)
  hk : P.wk = [] ∨ (kA = some ⟨gk, 0, none⟩ ∧ At w gk 2 (ints P.wk))
  ne : gs ≠ gk
  fl : P.F.length = P.wk.length * 7
  sl : P.si.length = P.s.runs.length
  kl : gk < w.heap.size
theorem size_set (w : World) (p : Addr) (v : Value) : (w.setCell p v).heap.size = w.heap.size := by simp [World.setCell]
theorem PP.qAt {w : World} {qp q gr cr gb ge gw gs gk : Nat} {kA : Option Addr} {ck : Nat} {P : Pf} (h : PP w qp q gr cr gb ge gw gs gk kA ck P) : At w qp 105 [.pointer (some ⟨q, 0, none⟩), .slice (some ⟨gw, 0, none⟩) P.wk.length P.wk.length, .slice (some ⟨gs, 0, none⟩) P.si.length P.si.length, .slice kA P.wk.length ck] := ⟨[], by simpa using h.hp⟩
theorem CC.qAt {T : Nat} {w : World} {q gr cr gb ge : Nat} {s : St} (h : CC T w q gr cr gb ge s) : At w q T [.slice (some ⟨gr, 0, none⟩) s.runs.length cr, .slice (some ⟨gb, 0, none⟩) s.blk.length s.blk.length, .slice (some ⟨ge, 0, none⟩) s.ended.length s.ended.length, .int .i64 s.time] := ⟨[], by simpa using h.hq⟩
theorem PP.below {w w' : World} {qp q gr cr gb ge gw gs gk : Nat} {kA : Option Addr} {ck : Nat} {P : Pf} (h : PP w qp q gr cr gb ge gw gs gk kA ck P) (hb : Below w.heap.size w w') : PP w' qp q gr cr gb ge gw gs gk kA ck P :=
  ⟨blk_below h.hp hb, h.cc.below hb, h.hw.below hb, h.hs.below hb, h.hk.imp id (fun x => ⟨x.1, x.2.below hb⟩), h.ne, h.fl, h.sl, Nat.lt_of_lt_of_le h.kl hb.size⟩
theorem PP.drewN {w : World} {qp q gr cr gb ge gw gs gk : Nat} {kA : Option Addr} {ck : Nat} {P : Pf} (h : PP w qp q gr cr gb ge gw gs gk kA ck P) (n : Nat) : PP (w.drewN n) qp q gr cr gb ge gw gs gk kA ck P :=
  h.below (pw_below_drewN (Below.refl _ _) _)
theorem CC.block {T : Nat} {w w' : World} {q gr cr gb ge : Nat} {s : St} (h : CC T w q gr cr gb ge s) (hb : ∀ i, chF q gr gb ge i → w'.heap[i]? = w.heap[i]?) : CC T w' q gr cr gb ge s :=
  ⟨(hb q (Or.inl rfl)).trans h.hq, h.hr.block (hb gr (Or.inr (Or.inl rfl))), h.hb.block (hb gb (Or.inr (Or.inr (Or.inl rfl)))), h.he.block (hb ge (Or.inr (Or.inr (Or.inr rfl)))), h.ne, h.hc⟩
/-- No block of the checker is of type T'. -/
theorem CC.far {w : World} {q gr cr gb ge g T' : Nat} {l : List Value} {s : St} (h : CC 115 w q gr cr gb ge s) (hA : At w g T' l) (h1 : T' ≠ 115) (h2 : T' ≠ 3) (h3 : T' ≠ 4) : ¬ chF q gr gb ge g := by
  rintro (rfl | rfl | rfl | rfl)
  · exact hA.ne h.qAt h1 rfl
  · exact hA.ne h.hr h2 rfl
  · exact hA.ne h.hb h3 rfl
  · exact hA.ne h.he h3 rfl
theorem CC.set_far {w : World} {q gr cr gb ge g T' i : Nat} {l : List Value} {s : St} {v : Value} (h : CC 115 w q gr cr gb ge s) (hA : At w g T' l) (h1 : T' ≠ 115) (h2 : T' ≠ 3) (h3 : T' ≠ 4) : CC 115 (w.setCell ⟨g, i, none⟩ v) q gr cr gb ge s :=
  h.block fun j hj => Below.heap_setCell w ⟨g, i, none⟩ v j (fun e => h.far hA h1 h2 h3 (by subst e; exact hj))
theorem PP.setF {w : World} {qp q gr cr gb ge gw gs gk : Nat} {kA : Option Addr} {ck : Nat} {P : Pf} (h : PP w qp q gr cr gb ge gw gs gk kA ck P) (i : Nat) (hi : i < P.F.length) (v : Int) : PP (w.setCell ⟨gw, i, none⟩ (.int .i64 v)) qp q gr cr gb ge gw gs gk kA ck ⟨P.s, P.F.set i v, P.si, P.wk⟩ := by
  refine ⟨set_far h.hp (h.hw.ne h.qAt (by decide)) _, h.cc.set_far h.hw (by decide) (by decide) (by decide), ?_, h.hs.set_ne (h.hw.ne h.hs (by decide)) _, h.hk.imp id (fun x => ⟨x.1, x.2.set_ne (h.hw.ne x.2 (by decide)) _⟩), h.ne, by rw [List.length_set]; exact h.fl, h.sl, by rw [size_set]; exact h.kl⟩
  have := h.hw.set (i := i) (by rw [ints_len]; exact hi) (.int .i64 v)
  rwa [ints_set] at this
theorem PP.setSi {w : World} {qp q gr cr gb ge gw gs gk : Nat} {kA : Option Addr} {ck : Nat} {P : Pf} (h : PP w qp q gr cr gb ge gw gs gk kA ck P) (i : Nat) (hi : i < P.si.length) (v : Int) : PP (w.setCell ⟨gs, i, none⟩ (.int .i64 v)) qp q gr cr gb ge gw gs gk kA ck ⟨P.s, P.F, P.si.set i v, P.wk⟩ := by
  refine ⟨by rw [List.length_set]; exact set_far h.hp (h.hs.ne h.qAt (by decide)) _, h.cc.set_far h.hs (by decide) (by decide) (by decide), h.hw.set_ne (h.hs.ne h.hw (by decide)) _, ?_, h.hk.imp id (fun x => ⟨x.1, x.2.set_ne h.ne _⟩), h.ne, h.fl, by rw [List.length_set]; exact h.sl, by rw [size_set]; exact h.kl⟩
  have := h.hs.set (i := i) (by rw [ints_len]; exact hi) (.int .i64 v)
  rwa [ints_set] at this
theorem PP.wkAt {w : World} {qp q gr cr gb ge gw gs gk : Nat} {kA : Option Addr} {ck : Nat} {P : Pf} (h : PP w qp q gr cr gb ge gw gs gk kA ck P) (hp : 0 < P.wk.length) : kA = some ⟨gk, 0, none⟩ ∧ At w gk 2 (ints P.wk) := by
  rcases h.hk with x | x
  · rw [x] at hp; simp at hp
  · exact x
theorem PP.setWk {w : World} {qp q gr cr gb ge gw gs gk : Nat} {kA : Option Addr} {ck : Nat} {P : Pf} (h : PP w qp q gr cr gb ge gw gs gk kA ck P) (i : Nat) (hi : i < P.wk.length) (v : Int) : PP (w.setCell ⟨gk, i, none⟩ (.int .i64 v)) qp q gr cr gb ge gw gs gk kA ck ⟨P.s, P.F, P.si, P.wk.set i v⟩ := by
  obtain ⟨e, hk⟩ := h.wkAt (by omega)
  refine ⟨by rw [List.length_set]; exact set_far h.hp (hk.ne h.qAt (by decide)) _, h.cc.set_far hk (by decide) (by decide) (by decide), h.hw.set_ne (hk.ne h.hw (by decide)) _, h.hs.set_ne (fun e => h.ne e.symm) _, Or.inr ⟨e, ?_⟩, h.ne, by rw [List.length_set]; exact h.fl, h.sl, by rw [size_set]; exact h.kl⟩
  have := hk.set (i := i) (by rw [ints_len]; exact hi) (.int .i64 v)
  rwa [ints_set] at this
/-- What an event may turn, beside the checker. -/
def pfF (gw gs gk : Nat) (i : Nat) : Prop := i = gw ∨ i = gs ∨ i = gk
theorem ints_nat {l : List Int} {k : Nat} (h : k < l.length) : (ints l)[k]? = some (.int .i64 (l.getD k 0)) := ints_at h

/-- A time in range. -/
def tmax : Int := 1099511627776

set_option maxRecDepth 100000 in
set_option maxHeartbeats 3200000 in
theorem stop_any (qp q gr cr gb ge gw gs gk : Nat) (kA : Option Addr) (ck : Nat) (P : Pf) (p time : Int) (w : World) (h : PP w qp q gr cr gb ge gw gs gk kA ck P)
    (hp0 : 0 ≤ p) (hp1 : p < P.si.length) (ht : getI P.s.runs p = -1 ∨ (0 ≤ getI P.s.runs p ∧ getI P.s.runs p < (P.wk.length : Int))) (hs0 : 0 ≤ getI P.si p) (hs1 : getI P.si p ≤ time) (hs2 : time ≤ tmax)
    (hf : ∀ i, 0 ≤ P.F.getD i 0 ∧ P.F.getD i 0 ≤ 9 * tmax) :
    Calls Try.prog 55 #[.pointer (some ⟨qp, 0, none⟩), .int .i64 p, .int .i64 time] w fun x w' => x = .returned (.tuple #[]) ∧ PP w' qp q gr cr gb ge gw gs gk kA ck (stopF P p time) ∧ Keeps w w' (pfF gw gs gk) := by
  have c0 : w.cell? ⟨qp, 0, none⟩ = some (.pointer (some ⟨q, 0, none⟩)) := blk_cell h.hp 0
  have c1 : w.cell? ⟨qp, 1, none⟩ = some (.slice (some ⟨gw, 0, none⟩) P.wk.length P.wk.length) := blk_cell h.hp 1
  have c2 : w.cell? ⟨qp, 2, none⟩ = some (.slice (some ⟨gs, 0, none⟩) P.si.length P.si.length) := blk_cell h.hp 2
  have q0 : w.cell? ⟨q, 0, none⟩ = some (.slice (some ⟨gr, 0, none⟩) P.si.length cr) := (blk_cell h.cc.hq 0).trans (by rw [h.sl]; rfl)
  have u0 := h.cc.runAt hp0 (by rw [← h.sl]; exact hp1)
  have v0 := h.hs.cell (ints_get hp0 hp1)
  have z0 := h.hs.frozen p.toNat
  have HPL := Lib.hid (show p.toNat < P.si.length by omega)
  have HH := Lib.hid h
  have HK := Lib.hid (Keeps.refl w (pfF gw gs gk))
  unfold tmax at hs2 hf
  have HST : Hid (stopF P p time = ⟨P.s, if getI P.s.runs p = -1 then P.F else P.F.set ((getI P.s.runs p).toNat * 7) (P.F.getD ((getI P.s.runs p).toNat * 7) 0 + (time - getI P.si p)), P.si.set p.toNat time, P.wk⟩) := Lib.hid rfl
  have hfl := h.fl
  clear h
  generalize getI P.s.runs p = t at u0 ht HST
  generalize getI P.si p = sv at v0 hs0 hs1 HST
  by_cases h1 : t = -1
  · subst h1
    rw [if_pos rfl] at HST
    clear ht hf
    go_enter Try.func55, Try.ntmps55
    go_wp2
    go_end0
    exact ⟨rfl, by rw [HST.out]; exact HH.out.setSi _ HPL.out _, HK.out.set _ _ (Or.inl (Or.inr (Or.inl rfl)))⟩
  · rw [if_neg h1] at HST
    obtain ⟨ht0, ht1⟩ : 0 ≤ t ∧ t < (P.wk.length : Int) := by omega
    obtain ⟨hf0, hf1⟩ := hf (t.toNat * 7)
    have HTL := Lib.hid (show t.toNat * 7 < P.F.length by omega)
    have r0 := HH.out.hw.cell (ints_nat HTL.out)
    have y0 := HH.out.hw.frozen (t.toNat * 7)
    generalize P.F.getD (t.toNat * 7) 0 = fv at r0 hf0 hf1 HST
    have m1 : (t == -1) = false := by rw [beq_eq_false_iff_ne]; exact h1
    have m2 : (t != -1) = true := by rw [bne_iff_ne]; exact h1
    clear hf h1 ht
    have HH2 := Lib.hid ((HH.out.drewN 1).setF _ HTL.out (fv + (time - sv)))
    have HK2 := Lib.hid ((HK.out.drewN 1).set ⟨gw, t.toNat * 7, none⟩ (.int .i64 (fv + (time - sv))) (Or.inl (Or.inl rfl)))
    go_enter Try.func55, Try.ntmps55
    go_wp2
    refine still_tail 20 (by kernel_rfl) (by kernel_rfl) ?_
    simp only [List.take_succ_cons, List.take_zero, List.drop_succ_cons, List.drop_zero]
    repeat still_step
    refine wpStill_nil ?_
    go_upto_region 3 with (fail)
    refine abs_w (fun W2 => PP W2 qp q gr cr gb ge gw gs gk kA ck ⟨P.s, P.F.set (t.toNat * 7) (fv + (time - sv)), P.si, P.wk⟩ ∧ Keeps w W2 (pfF gw gs gk)) ⟨HH2.out, HK2.out⟩ ?_
    clear c0 c1 c2 q0 u0 v0 z0 r0 y0 m1 m2 HH HK HH2 HK2
    rintro W2 ⟨hh, hk2⟩
    have c2 : W2.cell? ⟨qp, 2, none⟩ = some (.slice (some ⟨gs, 0, none⟩) P.si.length P.si.length) := blk_cell hh.hp 2
    have v0 := hh.hs.cell (ints_get hp0 hp1)
    have z0 := hh.hs.frozen p.toNat
    have HH := Lib.hid hh
    have HK := Lib.hid hk2
    clear hh hk2
    go_wp2
    go_end0
    exact ⟨rfl, by rw [HST.out]; exact HH.out.setSi _ HPL.out _, HK.out.set _ _ (Or.inl (Or.inr (Or.inl rfl)))⟩

theorem PP.not_new {w : World} {qp q gr cr gb ge gw gs gk : Nat} {kA : Option Addr} {ck : Nat} {P : Pf} (h : PP w qp q gr cr gb ge gw gs gk kA ck P) : ¬ pfF gw gs gk w.heap.size := by
  have h1 := h.hw.lt
  have h2 := h.hs.lt
  have h3 := h.kl
  unfold pfF
  omega
theorem getD_set {l : List Int} {i j : Nat} {v : Int} : (l.set i v).getD j 0 = if i = j ∧ i < l.length then v else l.getD j 0 := by
  rw [List.getD_eq_getElem?_getD, List.getD_eq_getElem?_getD]
  by_cases e : i = j
  · subst e
    by_cases h : i < l.length
    · rw [List.getElem?_set_self h, if_pos ⟨rfl, h⟩]; rfl
    · rw [if_neg (fun x => h x.2), List.set_eq_of_length_le (by omega)]
  · rw [List.getElem?_set_ne e, if_neg (fun x => e x.1)]
theorem stop_le {P : Pf} {p time : Int} (hs0 : 0 ≤ getI P.si p) (hs1 : getI P.si p ≤ time) (hs2 : time ≤ tmax) (hf : ∀ i, 0 ≤ P.F.getD i 0 ∧ P.F.getD i 0 ≤ 9 * tmax) (i : Nat) :
    0 ≤ (stopF P p time).F.getD i 0 ∧ (stopF P p time).F.getD i 0 ≤ 10 * tmax := by
  have ht : tmax = 1099511627776 := rfl
  have h1 := hf i
  unfold stopF
  dsimp only
  split
  · omega
  · rw [getD_set]
    split
    · have := hf ((getI P.s.runs p).toNat * 7)
      omega
    · omega

set_option maxRecDepth 100000 in
set_option maxHeartbeats 6400000 in
theorem run_any (qp q gr cr gb ge gw gs gk : Nat) (kA : Option Addr) (ck : Nat) (P : Pf) (e : S47) (w : World) (h : PP w qp q gr cr gb ge gw gs gk kA ck P)
    (hp0 : 0 ≤ e.f2) (hp1 : e.f2 < P.si.length) (ht : getI P.s.runs e.f2 = -1 ∨ (0 ≤ getI P.s.runs e.f2 ∧ getI P.s.runs e.f2 < (P.wk.length : Int))) (hs0 : 0 ≤ getI P.si e.f2) (hs1 : getI P.si e.f2 ≤ e.f0) (hs2 : e.f0 ≤ tmax)
    (hf : ∀ i, 0 ≤ P.F.getD i 0 ∧ P.F.getD i 0 ≤ 9 * tmax) (hth : e.f3 = -1 ∨ (0 ≤ e.f3 ∧ e.f3 < (P.wk.length : Int))) (hwk : getI P.wk e.f3 = -1 ∨ (0 ≤ getI P.wk e.f3 ∧ getI P.wk e.f3 ≤ e.f0)) :
    Calls Try.prog 64 #[.pointer (some ⟨qp, 0, none⟩), evV e] w fun x w' => x = .returned (.tuple #[]) ∧ PP w' qp q gr cr gb ge gw gs gk kA ck (runF P e) ∧ Keeps w w' (pfF gw gs gk) := by
  obtain ⟨t0, k, p, t, a, bb⟩ := e
  have hs3 : 0 ≤ t0 := Int.le_trans hs0 hs1
  have hnw := h.not_new
  have HS := Lib.hid (stop_any qp q gr cr gb ge gw gs gk kA ck P p t0 (w.alloc (.cells #[.int .i64 t0, .int .i64 k, .int .i64 p, .int .i64 t, .int .i64 a, .int .i64 bb] 47)) (h.below (below_alloc (Below.refl _ _) _)) hp0 hp1 ht hs0 hs1 hs2 hf)
  have hF := stop_le (P := P) (p := p) (time := t0) hs0 hs1 hs2 hf
  have HK := Lib.hid ((Keeps.refl w (pfF gw gs gk)).alloc (.cells #[.int .i64 t0, .int .i64 k, .int .i64 p, .int .i64 t, .int .i64 a, .int .i64 bb] 47))
  have HE := Lib.hid (blk_new w (.cells #[.int .i64 t0, .int .i64 k, .int .i64 p, .int .i64 t, .int .i64 a, .int .i64 bb] 47))
  have HNW := Lib.hid hnw
  obtain ⟨r, hr⟩ : ∃ r, runF P ⟨t0, k, p, t, a, bb⟩ = r := ⟨_, rfl⟩
  rw [hr]
  unfold runF at hr
  have HR := Lib.hid hr.symm
  clear hr
  have hwkl : (stopF P p t0).wk = P.wk := rfl
  have hP1 : stopF P p t0 = ⟨(stopF P p t0).s, (stopF P p t0).F, (stopF P p t0).si, P.wk⟩ := rfl
  dsimp only at HR hth hwk hs2 hs3
  have hss : (stopF P p t0).s = P.s := rfl
  generalize stopF P p t0 = P1 at HS hF HR hwkl hP1 hss
  obtain ⟨s1, F1, si1, wk1⟩ := P1
  dsimp only at HR hF hwkl hss
  subst hwkl
  subst hss
  clear hP1 h ht hs0 hs1 hp0 hp1 hf hnw
  unfold tmax at hF hs2
  unfold evV
  go_enter Try.func64, Try.ntmps64
  go_upto_region 1 with (fail)
  generalize w.alloc (.cells #[.int .i64 t0, .int .i64 k, .int .i64 p, .int .i64 t, .int .i64 a, .int .i64 bb] 47) = W at HS HK HE ⊢
  generalize w.heap.size = g at HE HNW ⊢
  have e0 : W.cell? ⟨g, 0, none⟩ = some (.int .i64 t0) := blk_cell HE.out 0
  have e2 : W.cell? ⟨g, 2, none⟩ = some (.int .i64 p) := blk_cell HE.out 2
  go_wp2_with fail
  refine HS.out.mono ?_
  rintro x w3 ⟨rfl, hPP, hK3⟩
  have HP3 := Lib.hid hPP
  have HE3 := Lib.hid (hK3.blk HE.out HNW.out)
  have HK3 := Lib.hid (HK.out.trans hK3 (fun i hi => Or.inl hi))
  clear e0 e2 HS HE HK hPP hK3
  have e0 : w3.cell? ⟨g, 0, none⟩ = some (.int .i64 t0) := blk_cell HE3.out 0
  have e3 : w3.cell? ⟨g, 3, none⟩ = some (.int .i64 t) := blk_cell HE3.out 3
  by_cases h1 : t = -1
  · subst h1
    rw [if_pos rfl] at HR
    clear hth hwk hF
    go_wp2
    (try simp only [Exit.inBlock, Exit.then]); refine bodyPost_ret (results_none rfl _ _ _) rfl ?_
    exact ⟨rfl, by rw [HR.out]; exact HP3.out, HK3.out⟩
  · rw [if_neg h1] at HR
    have m1 : (t == -1) = false := by rw [beq_eq_false_iff_ne]; exact h1
    have m2 : (t != -1) = true := by rw [bne_iff_ne]; exact h1
    obtain ⟨ht0, ht1⟩ : 0 ≤ t ∧ t < (P.wk.length : Int) := by omega
    have c1 : w3.cell? ⟨qp, 1, none⟩ = some (.slice (some ⟨gw, 0, none⟩) P.wk.length P.wk.length) := blk_cell HP3.out.hp 1
    clear hth h1
    go_wp2
    go_quiet (fail)
    refine abs_e (fun W4 => PP W4 qp q gr cr gb ge gw gs gk kA ck ⟨P.s, F1, si1, P.wk⟩ ∧ W4.heap[g]? = some (.cells #[.int .i64 t0, .int .i64 k, .int .i64 p, .int .i64 t, .int .i64 a, .int .i64 bb] 47 (0, 0)) ∧ Keeps w W4 (pfF gw gs gk)) ⟨HP3.out.drewN _, HE3.out, HK3.out.drewN _⟩ ?_
    clear e0 e3 c1 m1 m2 HP3 HE3 HK3
    rintro W4 ⟨hp4, he4, hk4⟩
    have hfl : F1.length = P.wk.length * 7 := hp4.fl
    have HX1 := Lib.hid (show t.toNat * 7 + 1 < F1.length by omega)
    have r1 := hp4.hw.cell (ints_nat (l := F1) HX1.out)
    have y1 := hp4.hw.frozen (t.toNat * 7 + 1)
    obtain ⟨b0, b1⟩ := hF (t.toNat * 7 + 1)
    have hF5 := hF (t.toNat * 7 + 5)
    have HX5 := Lib.hid (show t.toNat * 7 + 5 < F1.length by omega)
    have HXT := Lib.hid (show t.toNat < P.wk.length by omega)
    have hg5 : (F1.set (t.toNat * 7 + 1) (F1.getD (t.toNat * 7 + 1) 0 + 1)).getD (t.toNat * 7 + 5) 0 = F1.getD (t.toNat * 7 + 5) 0 := by rw [getD_set, if_neg (by omega)]
    rw [hg5] at HR
    generalize F1.getD (t.toNat * 7 + 5) 0 = f5 at HR hF5 hg5
    generalize F1.getD (t.toNat * 7 + 1) 0 = f1 at r1 b0 b1 HR hg5
    have HP5 := Lib.hid (hp4.setF _ HX1.out (f1 + 1))
    have HE5 := Lib.hid (set_far (i := t.toNat * 7 + 1) he4 (fun x => HNW.out (Or.inl x.symm)) (.int .i64 (f1 + 1)))
    have HK5 := Lib.hid (hk4.set ⟨gw, t.toNat * 7 + 1, none⟩ (.int .i64 (f1 + 1)) (Or.inl (Or.inl rfl)))
    have HG5 := Lib.hid hg5
    clear hp4 he4 hk4 hg5 hfl hF
    go_upto_region 5 with (fail)
    refine abs_w (fun W5 => PP W5 qp q gr cr gb ge gw gs gk kA ck ⟨P.s, F1.set (t.toNat * 7 + 1) (f1 + 1), si1, P.wk⟩ ∧ W5.heap[g]? = some (.cells #[.int .i64 t0, .int .i64 k, .int .i64 p, .int .i64 t, .int .i64 a, .int .i64 bb] 47 (0, 0)) ∧ Keeps w W5 (pfF gw gs gk)) ⟨HP5.out, HE5.out, HK5.out⟩ ?_
    clear r1 y1 HP5 HE5 HK5
    rintro W5 ⟨hp5, he5, hk5⟩
    obtain ⟨hkA, hkw⟩ := hp5.wkAt (show 0 < P.wk.length by omega)
    subst hkA
    have c3 : W5.cell? ⟨qp, 3, none⟩ = some (.slice (some ⟨gk, 0, none⟩) P.wk.length ck) := blk_cell hp5.hp 3
    have e3 : W5.cell? ⟨g, 3, none⟩ = some (.int .i64 t) := blk_cell he5 3
    have u0 := hkw.cell (ints_get (l := P.wk) ht0 ht1)
    have HP5 := Lib.hid hp5
    have HE5 := Lib.hid he5
    have HK5 := Lib.hid hk5
    generalize getI P.wk t = w0 at u0 hwk HR
    generalize hF2 : F1.set (t.toNat * 7 + 1) (f1 + 1) = F2 at HP5 HR HG5
    have HX52 := Lib.hid (show t.toNat * 7 + 5 < F2.length by rw [← hF2, List.length_set]; exact HX5.out)
    clear hp5 he5 hk5 hkw hF2 HX5 HX1
    rcases int_cases w0 (-1) with ⟨v1, v2, v3⟩ | ⟨v1, v2, v3⟩
    · rw [if_pos v3] at HR
      clear v3 hwk
      go_quiet (fail)
      go_wp2
      go_end0
      exact ⟨rfl, by rw [HR.out]; exact HP5.out.drewN _, HK5.out.drewN _⟩
    · rw [if_neg v3] at HR
      obtain ⟨hw0, hw1⟩ : 0 ≤ w0 ∧ w0 ≤ t0 := by omega
      clear v3 hwk
      go_quiet (fail)
      refine abs_e (fun W6 => PP W6 qp q gr cr gb ge gw gs gk (some ⟨gk, 0, none⟩) ck ⟨P.s, F2, si1, P.wk⟩ ∧ W6.heap[g]? = some (.cells #[.int .i64 t0, .int .i64 k, .int .i64 p, .int .i64 t, .int .i64 a, .int .i64 bb] 47 (0, 0)) ∧ Keeps w W6 (pfF gw gs gk)) ⟨HP5.out.drewN _, HE5.out, HK5.out.drewN _⟩ ?_
      clear c3 e3 u0 HP5 HE5 HK5
      rintro W6 ⟨hp6, he6, hk6⟩
      have e0 : W6.cell? ⟨g, 0, none⟩ = some (.int .i64 t0) := blk_cell he6 0
      have r5 := hp6.hw.cell (ints_nat (l := F2) HX52.out)
      have y5 := hp6.hw.frozen (t.toNat * 7 + 5)
      rw [HG5.out] at r5
      have HP7 := Lib.hid ((hp6.drewN 1).setF _ HX52.out (mx2 f5 (t0 - w0)))
      have HE7 := Lib.hid (set_far (w := W6.drewN 1) (i := t.toNat * 7 + 5) he6 (fun x => HNW.out (Or.inl x.symm)) (.int .i64 (mx2 f5 (t0 - w0))))
      have HK7 := Lib.hid ((hk6.drewN 1).set ⟨gw, t.toNat * 7 + 5, none⟩ (.int .i64 (mx2 f5 (t0 - w0))) (Or.inl (Or.inl rfl)))
      clear hp6 he6 hk6
      go_wp2
      refine still_tail 12 (by kernel_rfl) (by kernel_rfl) ?_
      simp only [List.take_succ_cons, List.take_zero, List.drop_succ_cons, List.drop_zero]
      repeat still_step
      refine wpStill_nil ?_
      go_upto_region 8 with (fail)
      refine abs_w (fun W7 => PP W7 qp q gr cr gb ge gw gs gk (some ⟨gk, 0, none⟩) ck ⟨P.s, F2.set (t.toNat * 7 + 5) (mx2 f5 (t0 - w0)), si1, P.wk⟩ ∧ W7.heap[g]? = some (.cells #[.int .i64 t0, .int .i64 k, .int .i64 p, .int .i64 t, .int .i64 a, .int .i64 bb] 47 (0, 0)) ∧ Keeps w W7 (pfF gw gs gk)) ⟨HP7.out, HE7.out, HK7.out⟩ ?_
      clear e0 r5 y5 HP7 HE7 HK7
      rintro W7 ⟨hp7, he7, hk7⟩
      have c3 : W7.cell? ⟨qp, 3, none⟩ = some (.slice (some ⟨gk, 0, none⟩) P.wk.length ck) := blk_cell hp7.hp 3
      have e3 : W7.cell? ⟨g, 3, none⟩ = some (.int .i64 t) := blk_cell he7 3
      obtain ⟨-, hkw⟩ := hp7.wkAt (show 0 < P.wk.length by omega)
      have u0 := hkw.cell (ints_get (l := P.wk) ht0 ht1)
      have y0 := hkw.frozen t.toNat
      have HP8 := Lib.hid ((hp7.drewN 1).setWk _ HXT.out (-1))
      have HK8 := Lib.hid ((hk7.drewN 1).set ⟨gk, t.toNat, none⟩ (.int .i64 (-1)) (Or.inl (Or.inr (Or.inr rfl))))
      clear hp7 he7 hk7 hkw
      refine still_tail 7 (by kernel_rfl) (by kernel_rfl) ?_
      simp only [List.take_succ_cons, List.take_zero, List.drop_succ_cons, List.drop_zero]
      repeat still_step
      refine wpStill_nil ?_
      go_wp2
      all_goals (go_end0; exact ⟨rfl, by rw [HR.out]; exact HP8.out, HK8.out⟩)
end
section
set_option linter.unusedVariables false
set_option linter.unusedSimpArgs false
open Go.RowKit Go.Proofs.YtepceelkfbjamaaW.PrintWords Go.Proofs.YtepceelkfbjamaaW.PrintLast Go.Proofs.YtepceelkfbjamaaW.PrintMore PTraceFilters FLib
attribute [local go_sem ↓] hold_cells hold_from
attribute [local go_sem] below_alloc_T below_drew_T below_drewN_T run_box run_box6

set_option maxRecDepth 100000 in
set_option maxHeartbeats 6400000 in
theorem event_any (qp q gr cr gb ge gw gs gk : Nat) (kA : Option Addr) (ck : Nat) (P : Pf) (e : S47) (w : World) (h : PP w qp q gr cr gb ge gw gs gk kA ck P)
    (hfi : Fine P.s e) (hok : StOk P.s) (hbl : P.s.blk.length = P.wk.length)
    (ht : e.f1 = 0 → getI P.s.runs e.f2 = -1 ∨ (0 ≤ getI P.s.runs e.f2 ∧ getI P.s.runs e.f2 < (P.wk.length : Int))) (hs0 : e.f1 = 0 → 0 ≤ getI P.si e.f2) (hs1 : e.f1 = 0 → getI P.si e.f2 ≤ e.f0) (hs2 : e.f0 ≤ tmax)
    (hf : ∀ i, 0 ≤ P.F.getD i 0 ∧ P.F.getD i 0 ≤ 9 * tmax) (hwk : e.f1 = 0 → getI P.wk e.f3 = -1 ∨ (0 ≤ getI P.wk e.f3 ∧ getI P.wk e.f3 ≤ e.f0)) :
    Calls Try.prog 54 #[.pointer (some ⟨qp, 0, none⟩), evV e] w fun x w' => x = .returned (.tuple #[]) ∧ PP w' qp q gr cr gb ge gw gs gk kA ck (evF P e) ∧ Keeps w w' (pfF gw gs gk) := by
  obtain ⟨t0, k, p, t, a, bb⟩ := e
  have hnw := h.not_new
  have hPa := h.below (below_alloc (Below.refl _ _) (.cells #[.int .i64 t0, .int .i64 k, .int .i64 p, .int .i64 t, .int .i64 a, .int .i64 bb] 47))
  have HP := Lib.hid hPa
  have HK := Lib.hid ((Keeps.refl w (pfF gw gs gk)).alloc (.cells #[.int .i64 t0, .int .i64 k, .int .i64 p, .int .i64 t, .int .i64 a, .int .i64 bb] 47))
  have HE := Lib.hid (blk_new w (.cells #[.int .i64 t0, .int .i64 k, .int .i64 p, .int .i64 t, .int .i64 a, .int .i64 bb] 47))
  have HNW := Lib.hid hnw
  have HF := Lib.hid hfi
  have HOK := Lib.hid hok
  have HFB := Lib.hid hf
  have hrn : k = 0 → Calls Try.prog 64 #[.pointer (some ⟨qp, 0, none⟩), evV ⟨t0, k, p, t, a, bb⟩] (w.alloc (.cells #[.int .i64 t0, .int .i64 k, .int .i64 p, .int .i64 t, .int .i64 a, .int .i64 bb] 47)) fun x w' => x = .returned (.tuple #[]) ∧ PP w' qp q gr cr gb ge gw gs gk kA ck (runF P ⟨t0, k, p, t, a, bb⟩) ∧ Keeps (w.alloc (.cells #[.int .i64 t0, .int .i64 k, .int .i64 p, .int .i64 t, .int .i64 a, .int .i64 bb] 47)) w' (pfF gw gs gk) := fun hk => by
    have hpr := hfi.proc hk
    refine run_any qp q gr cr gb ge gw gs gk kA ck P ⟨t0, k, p, t, a, bb⟩ _ hPa hpr.1 (by rw [h.sl]; exact hpr.2) (ht hk) (hs0 hk) (hs1 hk) hs2 hf ?_ (hwk hk)
    have h1 := hfi.thr (show k ≠ 5 by omega)
    rw [hbl] at h1
    rcases h1 with h1 | h1
    · exact Or.inr h1
    · exact Or.inl h1.1
  have HRN := Lib.hid hrn
  unfold evV at HRN ⊢
  have hbl' := hbl
  clear hfi hok hf h hnw hPa hrn ht hs0 hs1 hwk
  go_enter Try.func54, Try.ntmps54
  go_upto_region 1 with (fail)
  generalize w.alloc (.cells #[.int .i64 t0, .int .i64 k, .int .i64 p, .int .i64 t, .int .i64 a, .int .i64 bb] 47) = W at HP HK HE HRN ⊢
  generalize w.heap.size = g at HE HNW ⊢
  have e1 : W.cell? ⟨g, 1, none⟩ = some (.int .i64 k) := blk_cell HE.out 1
  have hk : k = 0 ∨ k = 1 ∨ k = 2 ∨ k = 3 ∨ k = 4 ∨ k = 5 ∨ k = 6 ∨ k = 7 ∨ k = 8 := by
    have : (0 : Int) ≤ k ∧ k < 9 := HF.out.kind
    omega
  rcases hk with rfl | rfl | rfl | rfl | rfl | rfl | rfl | rfl | rfl
  · -- run
    have l1 : RunCells Try.prog ⟨g, 0, none⟩ 6 W = _ := runCells_blk (P := Try.prog) (n := 6) HE.out rfl
    have HX := Lib.hid (HRN.out rfl)
    clear HRN
    go_wp2_with fail
    refine HX.out.mono ?_
    rintro x w3 ⟨rfl, hP3, hK3⟩
    have HP3 := Lib.hid hP3
    have HK3 := Lib.hid (HK.out.trans hK3 (fun i hi => Or.inl hi))
    clear hP3 hK3 l1 e1
    go_wp2
    go_end0
    exact ⟨rfl, HP3.out, HK3.out⟩
  · -- end
    obtain ⟨ht0, ht1⟩ := thr_in HF.out (show (1 : Int) ≠ 5 by decide) (show (1 : Int) ≠ 0 by decide) (show (1 : Int) ≠ 6 by decide)
    have ht0 : 0 ≤ t := ht0
    have ht1 : t < (P.s.blk.length : Int) := ht1
    rw [hbl'] at ht1
    have hfl := HP.out.fl
    have HX1 := Lib.hid (show t.toNat * 7 + 6 < P.F.length by omega)
    have r1 := HP.out.hw.cell (ints_nat (l := P.F) HX1.out)
    have y1 := HP.out.hw.frozen (t.toNat * 7 + 6)
    obtain ⟨b0, b1⟩ := HFB.out (t.toNat * 7 + 6)
    unfold tmax at b1
    have HR : Hid (evF P ⟨t0, 1, p, t, a, bb⟩ = ⟨P.s, P.F.set (t.toNat * 7 + 6) (P.F.getD (t.toNat * 7 + 6) 0 + 1), P.si, P.wk⟩) := Lib.hid rfl
    generalize P.F.getD (t.toNat * 7 + 6) 0 = f1 at r1 b0 b1 HR
    have c1 : W.cell? ⟨qp, 1, none⟩ = some (.slice (some ⟨gw, 0, none⟩) P.wk.length P.wk.length) := blk_cell HP.out.hp 1
    have e3 : W.cell? ⟨g, 3, none⟩ = some (.int .i64 t) := blk_cell HE.out 3
    have HP2 := Lib.hid ((HP.out.drewN 1).setF _ HX1.out (f1 + 1))
    have HE2 := Lib.hid (set_far (w := W.drewN 1) (i := t.toNat * 7 + 6) HE.out (fun x => HNW.out (Or.inl x.symm)) (.int .i64 (f1 + 1)))
    have HK2 := Lib.hid ((HK.out.drewN 1).set ⟨gw, t.toNat * 7 + 6, none⟩ (.int .i64 (f1 + 1)) (Or.inl (Or.inl rfl)))
    clear hfl HRN
    go_wp2
    refine still_tail 12 (by kernel_rfl) (by kernel_rfl) ?_
    simp only [List.take_succ_cons, List.take_zero, List.drop_succ_cons, List.drop_zero]
    repeat still_step
    refine wpStill_nil ?_
    go_wp2
    go_end0
    exact ⟨rfl, by rw [HR.out]; exact HP2.out, HK2.out⟩
  · -- block
    obtain ⟨ht0, ht1⟩ := thr_in HF.out (show (2 : Int) ≠ 5 by decide) (show (2 : Int) ≠ 0 by decide) (show (2 : Int) ≠ 6 by decide)
    have ht0 : 0 ≤ t := ht0
    have ht1 : t < (P.s.blk.length : Int) := ht1
    rw [hbl'] at ht1
    have hfl := HP.out.fl
    have HX1 := Lib.hid (show t.toNat * 7 + 2 < P.F.length by omega)
    have r1 := HP.out.hw.cell (ints_nat (l := P.F) HX1.out)
    have y1 := HP.out.hw.frozen (t.toNat * 7 + 2)
    obtain ⟨b0, b1⟩ := HFB.out (t.toNat * 7 + 2)
    unfold tmax at b1
    have HR : Hid (evF P ⟨t0, 2, p, t, a, bb⟩ = ⟨P.s, P.F.set (t.toNat * 7 + 2) (P.F.getD (t.toNat * 7 + 2) 0 + 1), P.si, P.wk⟩) := Lib.hid rfl
    generalize P.F.getD (t.toNat * 7 + 2) 0 = f1 at r1 b0 b1 HR
    have c1 : W.cell? ⟨qp, 1, none⟩ = some (.slice (some ⟨gw, 0, none⟩) P.wk.length P.wk.length) := blk_cell HP.out.hp 1
    have e3 : W.cell? ⟨g, 3, none⟩ = some (.int .i64 t) := blk_cell HE.out 3
    have HP2 := Lib.hid ((HP.out.drewN 1).setF _ HX1.out (f1 + 1))
    have HE2 := Lib.hid (set_far (w := W.drewN 1) (i := t.toNat * 7 + 2) HE.out (fun x => HNW.out (Or.inl x.symm)) (.int .i64 (f1 + 1)))
    have HK2 := Lib.hid ((HK.out.drewN 1).set ⟨gw, t.toNat * 7 + 2, none⟩ (.int .i64 (f1 + 1)) (Or.inl (Or.inl rfl)))
    clear hfl HRN
    go_wp2
    refine still_tail 12 (by kernel_rfl) (by kernel_rfl) ?_
    simp only [List.take_succ_cons, List.take_zero, List.drop_succ_cons, List.drop_zero]
    repeat still_step
    refine wpStill_nil ?_
    go_wp2
    go_end0
    exact ⟨rfl, by rw [HR.out]; exact HP2.out, HK2.out⟩
  · -- wake
    obtain ⟨ht0, ht1⟩ := thr_in HF.out (show (3 : Int) ≠ 5 by decide) (show (3 : Int) ≠ 0 by decide) (show (3 : Int) ≠ 6 by decide)
    have ht0 : 0 ≤ t := ht0
    have ht1 : t < (P.s.blk.length : Int) := ht1
    rw [hbl'] at ht1
    have hfl := HP.out.fl
    have HX1 := Lib.hid (show t.toNat * 7 + 3 < P.F.length by omega)
    have r1 := HP.out.hw.cell (ints_nat (l := P.F) HX1.out)
    have y1 := HP.out.hw.frozen (t.toNat * 7 + 3)
    obtain ⟨b0, b1⟩ := HFB.out (t.toNat * 7 + 3)
    unfold tmax at b1
    have HR : Hid (evF P ⟨t0, 3, p, t, a, bb⟩ = ⟨P.s, P.F.set (t.toNat * 7 + 3) (P.F.getD (t.toNat * 7 + 3) 0 + 1), P.si, P.wk.set t.toNat (if P.s.runs.contains t = true then -1 else t0)⟩) := Lib.hid rfl
    generalize P.F.getD (t.toNat * 7 + 3) 0 = f1 at r1 b0 b1 HR
    have c1 : W.cell? ⟨qp, 1, none⟩ = some (.slice (some ⟨gw, 0, none⟩) P.wk.length P.wk.length) := blk_cell HP.out.hp 1
    have e3 : W.cell? ⟨g, 3, none⟩ = some (.int .i64 t) := blk_cell HE.out 3
    have HP2 := Lib.hid ((HP.out.drewN 1).setF _ HX1.out (f1 + 1))
    have HE2 := Lib.hid (set_far (w := W.drewN 1) (i := t.toNat * 7 + 3) HE.out (fun x => HNW.out (Or.inl x.symm)) (.int .i64 (f1 + 1)))
    have HK2 := Lib.hid ((HK.out.drewN 1).set ⟨gw, t.toNat * 7 + 3, none⟩ (.int .i64 (f1 + 1)) (Or.inl (Or.inl rfl)))
    clear hfl HRN
    go_wp2
    refine still_tail 12 (by kernel_rfl) (by kernel_rfl) ?_
    simp only [List.take_succ_cons, List.take_zero, List.drop_succ_cons, List.drop_zero]
    repeat still_step
    refine wpStill_nil ?_
    go_upto_region 8 with (fail)
    refine abs_w (fun W2 => PP W2 qp q gr cr gb ge gw gs gk kA ck ⟨P.s, P.F.set (t.toNat * 7 + 3) (f1 + 1), P.si, P.wk⟩ ∧ W2.heap[g]? = some (.cells #[.int .i64 t0, .int .i64 3, .int .i64 p, .int .i64 t, .int .i64 a, .int .i64 bb] 47 (0, 0)) ∧ Keeps w W2 (pfF gw gs gk)) ⟨HP2.out, HE2.out, HK2.out⟩ ?_
    clear e1 r1 y1 c1 e3 HP2 HE2 HK2 HP HE HK
    rintro W2 ⟨hp2, he2, hk2⟩
    obtain ⟨hkA, hkw⟩ := hp2.wkAt (show 0 < P.wk.length by omega)
    subst hkA
    have HXT := Lib.hid (show t.toNat < P.wk.length by omega)
    have c3 : W2.cell? ⟨qp, 3, none⟩ = some (.slice (some ⟨gk, 0, none⟩) P.wk.length ck) := blk_cell hp2.hp 3
    have e3 : W2.cell? ⟨g, 3, none⟩ = some (.int .i64 t) := blk_cell he2 3
    have e0 : W2.cell? ⟨g, 0, none⟩ = some (.int .i64 t0) := blk_cell he2 0
    have u0 := hkw.cell (ints_get (l := P.wk) ht0 ht1)
    have y0 := hkw.frozen t.toNat
    have HP3 := Lib.hid ((hp2.drewN 1).setWk _ HXT.out t0)
    have HE3 := Lib.hid (set_far (w := W2.drewN 1) (i := t.toNat) he2 (fun x => HNW.out (Or.inr (Or.inr x.symm))) (.int .i64 t0))
    have HK3 := Lib.hid ((hk2.drewN 1).set ⟨gk, t.toNat, none⟩ (.int .i64 t0) (Or.inl (Or.inr (Or.inr rfl))))
    clear hp2 he2 hk2 hkw
    refine still_tail 9 (by kernel_rfl) (by kernel_rfl) ?_
    simp only [List.take_succ_cons, List.take_zero, List.drop_succ_cons, List.drop_zero]
    repeat still_step
    refine wpStill_nil ?_
    go_upto_region 9 with (fail)
    refine abs_w (fun W3 => PP W3 qp q gr cr gb ge gw gs gk (some ⟨gk, 0, none⟩) ck ⟨P.s, P.F.set (t.toNat * 7 + 3) (f1 + 1), P.si, P.wk.set t.toNat t0⟩ ∧ W3.heap[g]? = some (.cells #[.int .i64 t0, .int .i64 3, .int .i64 p, .int .i64 t, .int .i64 a, .int .i64 bb] 47 (0, 0)) ∧ Keeps w W3 (pfF gw gs gk)) ⟨HP3.out, HE3.out, HK3.out⟩ ?_
    clear c3 e3 e0 u0 y0 HP3 HE3 HK3
    rintro W3 ⟨hp3, he3, hk3⟩
    have c0 : W3.cell? ⟨qp, 0, none⟩ = some (.pointer (some ⟨q, 0, none⟩)) := blk_cell hp3.hp 0
    have q0 : W3.cell? ⟨q, 0, none⟩ = some (.slice (some ⟨gr, 0, none⟩) P.s.runs.length cr) := blk_cell hp3.cc.hq 0
    have e3 : W3.cell? ⟨g, 3, none⟩ = some (.int .i64 t) := blk_cell he3 3
    have hcn := fun w hA => contains_at gr cr P.s.runs P.s.runs.length (Nat.le_refl _) (by have := HOK.out.rl; omega) t w hA
    rw [List.take_length] at hcn
    have HP4 := Lib.hid hp3
    have HE4 := Lib.hid he3
    have HK4 := Lib.hid hk3
    have HAR := Lib.hid hp3.cc.hr
    generalize P.s.runs.contains t = b at hcn HR
    have HCN := Lib.hid hcn
    clear hp3 he3 hk3 hcn
    cases b with
    | false =>
      go_quiet (refine Calls.quiet_of_same ((HCN.out _ (by first | exact HAR.out | exact HAR.out.below (pw_below_drewN (Below.refl _ _) 1))).mono fun e w' h => ⟨h.1, h.2.symm⟩))
      go_wp2
      go_end0
      exact ⟨rfl, by rw [HR.out]; exact HP4.out.drewN _, HK4.out.drewN _⟩
    | true =>
      go_quiet (refine Calls.quiet_of_same ((HCN.out _ (by first | exact HAR.out | exact HAR.out.below (pw_below_drewN (Below.refl _ _) 1))).mono fun e w' h => ⟨h.1, h.2.symm⟩))
      refine abs_e (fun W5 => PP W5 qp q gr cr gb ge gw gs gk (some ⟨gk, 0, none⟩) ck ⟨P.s, P.F.set (t.toNat * 7 + 3) (f1 + 1), P.si, P.wk.set t.toNat t0⟩ ∧ W5.heap[g]? = some (.cells #[.int .i64 t0, .int .i64 3, .int .i64 p, .int .i64 t, .int .i64 a, .int .i64 bb] 47 (0, 0)) ∧ Keeps w W5 (pfF gw gs gk)) ⟨HP4.out.drewN _, HE4.out, HK4.out.drewN _⟩ ?_
      clear c0 q0 e3 HP4 HE4 HK4 HAR HCN
      rintro W5 ⟨hp5, he5, hk5⟩
      have c3 : W5.cell? ⟨qp, 3, none⟩ = some (.slice (some ⟨gk, 0, none⟩) (P.wk.set t.toNat t0).length ck) := blk_cell hp5.hp 3
      rw [List.length_set] at c3
      have e3 : W5.cell? ⟨g, 3, none⟩ = some (.int .i64 t) := blk_cell he5 3
      obtain ⟨-, hkw⟩ := hp5.wkAt (show 0 < (P.wk.set t.toNat t0).length by rw [List.length_set]; omega)
      have u0 := hkw.cell (ints_get (l := P.wk.set t.toNat t0) ht0 (by rw [List.length_set]; exact ht1))
      have y0 := hkw.frozen t.toNat
      have HP6 := Lib.hid ((hp5.drewN 1).setWk t.toNat (by show t.toNat < (P.wk.set t.toNat t0).length; rw [List.length_set]; exact HXT.out) (-1))
      have HK6 := Lib.hid ((hk5.drewN 1).set ⟨gk, t.toNat, none⟩ (.int .i64 (-1)) (Or.inl (Or.inr (Or.inr rfl))))
      clear hp5 he5 hk5 hkw
      go_wp2
      refine still_tail 7 (by kernel_rfl) (by kernel_rfl) ?_
      simp only [List.take_succ_cons, List.take_zero, List.drop_succ_cons, List.drop_zero]
      repeat still_step
      refine wpStill_nil ?_
      go_wp2
      go_end0
      refine ⟨rfl, ?_, HK6.out⟩
      have hx := HP6.out
      rw [List.set_set] at hx
      rw [HR.out]
      exact hx
  · clear HRN
    go_wp2
    go_end0
    exact ⟨rfl, HP.out, HK.out⟩
  · clear HRN
    go_wp2
    go_end0
    exact ⟨rfl, HP.out, HK.out⟩
  · clear HRN
    go_wp2
    go_end0
    exact ⟨rfl, HP.out, HK.out⟩
  · -- signal
    obtain ⟨ht0, ht1⟩ := thr_in HF.out (show (7 : Int) ≠ 5 by decide) (show (7 : Int) ≠ 0 by decide) (show (7 : Int) ≠ 6 by decide)
    have ht0 : 0 ≤ t := ht0
    have ht1 : t < (P.s.blk.length : Int) := ht1
    rw [hbl'] at ht1
    have hfl := HP.out.fl
    have HX1 := Lib.hid (show t.toNat * 7 + 4 < P.F.length by omega)
    have r1 := HP.out.hw.cell (ints_nat (l := P.F) HX1.out)
    have y1 := HP.out.hw.frozen (t.toNat * 7 + 4)
    obtain ⟨b0, b1⟩ := HFB.out (t.toNat * 7 + 4)
    unfold tmax at b1
    have HR : Hid (evF P ⟨t0, 7, p, t, a, bb⟩ = ⟨P.s, P.F.set (t.toNat * 7 + 4) (P.F.getD (t.toNat * 7 + 4) 0 + 1), P.si, P.wk⟩) := Lib.hid rfl
    generalize P.F.getD (t.toNat * 7 + 4) 0 = f1 at r1 b0 b1 HR
    have c1 : W.cell? ⟨qp, 1, none⟩ = some (.slice (some ⟨gw, 0, none⟩) P.wk.length P.wk.length) := blk_cell HP.out.hp 1
    have e3 : W.cell? ⟨g, 3, none⟩ = some (.int .i64 t) := blk_cell HE.out 3
    have HP2 := Lib.hid ((HP.out.drewN 1).setF _ HX1.out (f1 + 1))
    have HE2 := Lib.hid (set_far (w := W.drewN 1) (i := t.toNat * 7 + 4) HE.out (fun x => HNW.out (Or.inl x.symm)) (.int .i64 (f1 + 1)))
    have HK2 := Lib.hid ((HK.out.drewN 1).set ⟨gw, t.toNat * 7 + 4, none⟩ (.int .i64 (f1 + 1)) (Or.inl (Or.inl rfl)))
    clear hfl HRN
    go_wp2
    refine still_tail 12 (by kernel_rfl) (by kernel_rfl) ?_
    simp only [List.take_succ_cons, List.take_zero, List.drop_succ_cons, List.drop_zero]
    repeat still_step
    refine wpStill_nil ?_
    go_wp2
    go_end0
    exact ⟨rfl, by rw [HR.out]; exact HP2.out, HK2.out⟩
  · clear HRN
    go_wp2
    go_end0
    exact ⟨rfl, HP.out, HK.out⟩
end
end Go.Proofs.Ytepceelkfbjamaa
