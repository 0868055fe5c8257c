/- Ranges: scan; Check, Cancel, Drop. -/
import Derived.Test.YtoolflmaaooplaaGreatMF
import Derived.ControlIn
import Derived.OrdersIn
import Derived.Shelf.SlSortCmp.NoneTotal
namespace Go.Proofs.YtoolflmaaooplaaGreat
section
set_option linter.unusedVariables false
set_option linter.unusedSimpArgs false
open Go.RowKit Go.Maps Go.Sort Go.Lib Go.Shelf Go.Proofs.YtoolflmaaooplaaGreatW.PrintWords Go.Proofs.YtoolflmaaooplaaGreatW.PrintLast Go.Proofs.YtoolflmaaooplaaGreatW.PrintMore FLib
attribute [local go_sem] below_alloc_T below_drew_T below_drewN_T

def mLen : Option Value → Nat
  | some (.slice _ n _) => n
  | _ => 0
def mBool : Option Value → Nat
  | some (.bool true) => 1
  | _ => 0
def mAg (W : World) : Value → Nat
  | .pointer (some a) => mBool (W.cell? a)
  | _ => 0
theorem qv_len {gq : Option Nat} {qv : Value} {Q : List Lk} (h : QvOk gq qv Q) : mLen (some qv) = Q.length := by
  rcases h with ⟨rfl, rfl⟩ | ⟨g, c, -, rfl, -⟩ <;> rfl
theorem qv_form {gq : Option Nat} {qv : Value} {Q : List Lk} (h : QvOk gq qv Q) : ∃ a n c, qv = .slice a n c := by
  rcases h with ⟨rfl, rfl⟩ | ⟨g, c, -, rfl, -⟩
  · exact ⟨_, _, _, rfl⟩
  · exact ⟨_, _, _, rfl⟩
theorem ScI.setag {W : World} {p mb : Nat} {qv : Value} {T : Tb} {Q : List Lk} {bt bo ba base : Nat} {out : List Int} {ag : Bool} (h : ScI W p mb qv T Q bt bo ba base out ag) (b : Bool) : ScI (W.setCell ⟨ba, 0, none⟩ (.bool b)) p mb qv T Q bt bo ba base out b := by
  obtain ⟨⟨G, hT, hG⟩, h1, ⟨u, h2, h3⟩, h4⟩ := h
  have hk : Keeps W (W.setCell ⟨ba, 0, none⟩ (.bool b)) (fun k => k = ba) := (Keeps.refl W _).set _ _ (.inl rfl)
  refine ⟨⟨G, hT.keep hk (fun k hk => by subst hk; exact hT.not_own h4 (by omega) (by omega) (by omega)), hG⟩, blk_far h1 (ty_ne h1 h4 (by omega)) _, ⟨u, blk_far h2 (ty_ne h2 h4 (by omega)) _, own_move h3 (fun k hk => Below.heap_setCell _ _ _ _ ?_)⟩, blk_put h4 0 _ rfl⟩
  obtain ⟨cs, hc⟩ := own_ty h3 hk
  exact ty_ne hc h4 (by omega)
theorem ScI.newag {W : World} {p mb : Nat} {qv : Value} {T : Tb} {Q : List Lk} {bt bo ba base : Nat} {out : List Int} {ag : Bool} (h : ScI W p mb qv T Q bt bo ba base out ag) (b : Bool) : ScI (W.alloc (.cells #[.bool b] 4)) p mb qv T Q bt bo W.heap.size base out b := by
  have h' := h.below (below_alloc (Below.refl _ W) (.cells #[.bool b] 4))
  exact ⟨h'.tg, h'.ct, h'.co, blk_new _ _⟩
theorem delF_all (Q : List Lk) : ∀ (T : Tb) (out : List Int), TOk T → QOk Q → tAll T + 2 * Q.length ≤ 900 → tAll (delF T out Q).1.1 + 2 * (delF T out Q).2.length ≤ tAll T + 2 * Q.length := by
  induction Q with
  | nil => intro T out h hq hl; exact Nat.le_refl _
  | cons y Q ih =>
    intro T out h hq hl
    rw [List.length_cons] at hl
    have hy := hq y (List.mem_cons_self ..)
    have hq2 : QOk Q := fun z hz => hq z (List.mem_cons_of_mem _ hz)
    unfold delF
    split
    · obtain ⟨g1, g2⟩ := grT_ok h hy.1 hy.2 (by omega)
      have := ih (grT T y) (out ++ [y.own]) g1 hq2 (by omega)
      rw [List.length_cons]; omega
    · have := ih T out h hq2 (by omega)
      simp only [List.length_cons]; omega
theorem delF_le (T : Tb) (out : List Int) (Q : List Lk) : (delF T out Q).2.length ≤ Q.length := by
  induction Q generalizing T out with
  | nil => exact Nat.le_refl _
  | cons y Q ih =>
    unfold delF
    split
    · have := ih (grT T y) (out ++ [y.own]); rw [List.length_cons]; omega
    · have := ih T out; simp only [List.length_cons]; omega
theorem scanF_fuel (k : Nat) : ∀ (n : Nat) (T : Tb) (out : List Int) (Q : List Lk), Q.length ≤ k → Q.length < n → scanF n T out Q = scanF (Q.length + 1) T out Q := by
  induction k with
  | zero =>
    intro n T out Q hk hn
    obtain ⟨m, rfl⟩ : ∃ m, n = m + 1 := ⟨n - 1, by omega⟩
    unfold scanF
    rw [if_neg (by omega), if_neg (by omega)]
  | succ k ih =>
    intro n T out Q hk hn
    obtain ⟨m, rfl⟩ : ∃ m, n = m + 1 := ⟨n - 1, by omega⟩
    unfold scanF
    by_cases h : (delF T out Q).2.length < Q.length
    · rw [if_pos h, if_pos h, ih m _ _ _ (by omega) (by omega), ih Q.length _ _ _ (by omega) (by omega)]
    · rw [if_neg h, if_neg h]
set_option maxRecDepth 100000 in
set_option maxHeartbeats 2000000 in
theorem scan_any (p mb : Nat) (qv : Value) (T : Tb) (Q : List Lk) (hT : TOk T) (hTl : tAll T + 2 * Q.length ≤ 900) (hQ : QOk Q) (w : World) (G : List Ent) (h : TG w p mb qv G Q) (hG : plainG G = T) :
    Calls Tryz.prog 27 #[.pointer (some ⟨p, 0, none⟩)] w fun e w' => ∃ (u qv' : Value) (G' : List Ent), e = .returned u ∧ TG w' p mb qv' G' (scanF (Q.length + 1) T [] Q).2 ∧ plainG G' = (scanF (Q.length + 1) T [] Q).1.1 ∧
      w'.ownsRow w.heap.size 3 1 u (scanF (Q.length + 1) T [] Q).1.2.length ((scanF (Q.length + 1) T [] Q).1.2.map encZ) ∧ QvOk qv.ownBlock qv' (scanF (Q.length + 1) T [] Q).2 ∧ Keeps w w' (fun k => k = p ∨ k = mb ∨ qv.ownBlock = some k) := by
  have HT := Lib.hid h
  have HG := Lib.hid hG
  have HQV := Lib.hid (row_qv h.queue)
  have HTO := Lib.hid (And.intro hT (And.intro hTl hQ))
  have hp := blk_lt h.hdr
  obtain ⟨R, hR⟩ : ∃ R, scanF (Q.length + 1) T [] Q = R := ⟨_, rfl⟩
  rw [hR]
  have HR := Lib.hid hR
  clear h hG hT hTl hQ hR
  go_enter Tryz.func27, Tryz.ntmps27
  go_wp2
  refine abs_w (fun W1 => ScI W1 p mb qv T Q w.heap.size (w.heap.size + 1) (w.heap.size + 1 + 1) w.heap.size [] true ∧ Below w.heap.size w W1) ?_ ?_
  · have hb := below_alloc (below_alloc (below_alloc (Below.refl w.heap.size w) (.cells #[.pointer (some ⟨p, 0, none⟩)] 24)) (.cells #[.slice none 0 0] 35)) (.cells #[.bool true] 4)
    refine ⟨⟨⟨G, HT.out.below hb, HG.out⟩, blk_alloc (blk_alloc (blk_new _ _) _) _, ⟨.slice none 0 0, ?_, World.ownsRow_nil _ _ _ _⟩, ?_⟩, hb⟩
    · have := blk_alloc (blk_new (w.alloc (.cells #[.pointer (some ⟨p, 0, none⟩)] 24)) (.cells #[.slice none 0 0] 35)) (.cells #[.bool true] 4)
      simpa using this
    · have := blk_new ((w.alloc (.cells #[.pointer (some ⟨p, 0, none⟩)] 24)).alloc (.cells #[.slice none 0 0] 35)) (.cells #[.bool true] 4)
      simpa using this
  rintro W1 ⟨hS1, hb1⟩
  have HS1 := Lib.hid (And.intro hS1 hb1)
  clear hS1 hb1
  go_loopw [4] (fun t4 wr => ∃ (ba : Nat) (ag : Bool) (qv1 : Value) (T1 : Tb) (Q1 : List Lk) (o1 : List Int), t4 = .pointer (some ⟨ba, 0, none⟩) ∧ Hid (ScI wr p mb qv1 T1 Q1 w.heap.size (w.heap.size + 1) ba w.heap.size o1 ag) ∧
      Hid (QvOk qv.ownBlock qv1 Q1 ∧ TOk T1 ∧ tAll T1 + 2 * Q1.length ≤ 900 ∧ QOk Q1 ∧ o1.length + Q1.length ≤ 1000 ∧ (if ag then scanF (Q1.length + 1) T1 o1 Q1 else ((T1, o1), Q1)) = R ∧ w.heap.size ≤ ba) ∧ Hid (Keeps w wr (fun k => k = p ∨ k = mb ∨ qv.ownBlock = some k)))
    (fun t4 wr => 2 * mLen (wr.cell? ⟨p, 1, none⟩) + mAg wr t4)
  case atStart => exact ⟨_, true, qv, T, Q, [], rfl, Lib.hid HS1.out.1, Lib.hid ⟨HQV.out, HTO.out.1, HTO.out.2.1, HTO.out.2.2, by have := HTO.out.2.1; simp; omega, HR.out, by omega⟩, Lib.hid (Keeps.of_below HS1.out.2 _)⟩
  case round =>
    obtain ⟨ba, ag, qv1, T1, Q1, o1, rfl, hS, hI, hK⟩ := hrel
    obtain ⟨G1, hTG1, hG1⟩ := hS.out.tg
    obtain ⟨u, hu, hur⟩ := hS.out.co
    have a0 : wr.cell? ⟨w.heap.size, 0, none⟩ = some (.pointer (some ⟨p, 0, none⟩)) := blk_cell hS.out.ct 0
    have a1 : wr.cell? ⟨w.heap.size + 1, 0, none⟩ = some u := blk_cell hu 0
    have a2 : wr.cell? ⟨ba, 0, none⟩ = some (.bool ag) := blk_cell hS.out.ca 0
    have a3 : wr.frozen? ⟨ba, 0, none⟩ = false := blk_frozen hS.out.ca 0
    have a4 : wr.cell? ⟨p, 1, none⟩ = some qv1 := blk_cell hTG1.hdr 1
    have HM := Lib.hid (show 2 * mLen (wr.cell? ⟨p, 1, none⟩) + mAg wr (.pointer (some ⟨ba, 0, none⟩)) = 2 * Q1.length + mBool (some (.bool ag)) by
      show 2 * mLen (wr.cell? ⟨p, 1, none⟩) + mBool (wr.cell? ⟨ba, 0, none⟩) = _
      rw [a4, a2, qv_len hI.out.1])
    have HUR := Lib.hid hur
    have HTG1 := Lib.hid (And.intro hTG1 hG1)
    have npb : p ≠ ba := ty_ne hTG1.hdr hS.out.ca (by omega)
    have ntb : w.heap.size ≠ ba := ty_ne hS.out.ct hS.out.ca (by omega)
    clear hu hur hTG1 hG1
    cases ag
    · have he := hI.out.2.2.2.2.2.1
      simp only [Bool.false_eq_true, if_false] at he
      have HE := Lib.hid he
      clear he
      go_wp2
      go_ret
      refine ⟨u, qv1, G1, rfl, ?_⟩
      rw [← HE.out]
      exact ⟨HTG1.out.1, HTG1.out.2, HUR.out, hI.out.1, hK.out⟩
    · go_wp2
      refine abs_w (fun W2 => ScI W2 p mb qv1 T1 Q1 w.heap.size (w.heap.size + 1) ba w.heap.size o1 false ∧ Keeps w W2 (fun k => k = p ∨ k = mb ∨ qv.ownBlock = some k)) ⟨hS.out.setag false, hK.out.set _ _ (.inr hI.out.2.2.2.2.2.2)⟩ ?_
      clear a0 a1 a2 a3 a4
      rintro W2 ⟨hS2, hK2⟩
      obtain ⟨G2, hTG2, -⟩ := hS2.tg
      have b4 : W2.cell? ⟨p, 1, none⟩ = some qv1 := blk_cell hTG2.hdr 1
      have hbt := hS2.ct
      have b0 : W2.cell? ⟨w.heap.size, 0, none⟩ = some (.pointer (some ⟨p, 0, none⟩)) := blk_cell hbt 0
      have HP := Lib.hid (pass_any p mb qv.ownBlock qv1 T1 Q1 w.heap.size (w.heap.size + 1) ba w.heap.size o1 hI.out.1 (by
        rcases hI.out.1 with ⟨-, h⟩ | ⟨g, c, hg, rfl, -⟩
        · exact .inr h
        · exact .inl hg.symm) hI.out.2.1 hI.out.2.2.1 (by have := hI.out.2.2.2.2.1; omega) hI.out.2.2.2.1 W2.drew hK2.size (hS2.below (below_drew (Below.refl _ _))))
      have H2 := Lib.hid (And.intro hK2 (ty_ne hTG2.hdr hbt (by omega)))
      have npt : w.heap.size ≠ p := Ne.symm H2.out.2
      clear hTG2 hS2 hK2
      obtain ⟨r, hr⟩ : ∃ r, delF T1 o1 Q1 = r := ⟨_, rfl⟩
      rw [hr] at HP
      have HRR := Lib.hid hr
      clear hr
      have hmx : Tryz.prog.follows .mixedOrders = true := by kernel_rfl
      have h59 : Fence.wide.fn 48 := trivial
      have hm1 : 1 ≤ 5 := by omega
      have KF := Lib.hid (fun (w3 : World) (v : Value) (hK3 : Keeps W2.drew w3 (fun k => ScF W2.drew mb (w.heap.size + 1) ba w.heap.size k ∨ qv1.ownBlock = some k)) => show Keeps w (w3.setCell ⟨p, 1, none⟩ v) (fun k => k = p ∨ k = mb ∨ qv.ownBlock = some k) by
        refine (H2.out.1.trans (G := fun k => ScF W2.drew mb (w.heap.size + 1) ba w.heap.size k ∨ qv1.ownBlock = some k) ⟨hK3.os, hK3.tape, hK3.output, hK3.size, hK3.block⟩ ?_).set _ _ (.inl (.inl rfl))
        intro i hi
        rcases hi with (rfl | rfl | rfl | ⟨h1, -⟩) | hi
        · exact .inl (.inr (.inl rfl))
        · exact .inr (by omega)
        · exact .inr hI.out.2.2.2.2.2.2
        · exact .inr h1
        · rcases hI.out.1 with ⟨rfl, -⟩ | ⟨g, c, hg, rfl, -⟩
          · cases hi
          · exact .inl (.inr (.inr (hg.trans hi))))
      refine region_p (fun a a' w' => (∃ v6 v7 v8 v9 v10 v11 v12 v13 v14 : Value, a' = { tmps := (((((((((a.tmps.setIfInBounds 6 v6).setIfInBounds 7 v7).setIfInBounds 8 v8).setIfInBounds 9 v9).setIfInBounds 10 v10).setIfInBounds 11 v11).setIfInBounds 12 v12).setIfInBounds 13 v13).setIfInBounds 14 v14), defers := a.defers }) ∧ ∃ qv', ScI w' p mb qv' r.1.1 r.2 w.heap.size (w.heap.size + 1) ba w.heap.size r.1.2 (decide (r.2.length < Q1.length)) ∧ QvOk qv.ownBlock qv' r.2 ∧ Keeps w w' (fun k => k = p ∨ k = mb ∨ qv.ownBlock = some k)) ?_ ?_
      · refine (wpIn_wide (n := 5)).1 ?_
        refine wpIn_region_any hmx ?_
        change wpAnyIn _ _ _ _ _ _ _ _ _ W2.drew
        simp only [List.size_toArray, List.length_cons, List.length_nil, Nat.reduceAdd]
        refine wpAnyIn_take (i := 5) (oi := { dst := some 11, op := Op.makeFunc (Fn.func 49) #[] #[Operand.tmp 1, Operand.tmp 3, Operand.tmp 4], type := 32, pos := "ranges.go:159", after := #[], guard := none }) (v := ?_) rfl rfl (by kernel_rfl) (by kernel_rfl) (by kernel_rfl) (fun _ _ _ h => by cases h.1) ⟨Or.inl ⟨by rfl, ?_⟩, fun _ => rfl⟩ ?_
        rotate_left
        · (intro w; go_simp; try with_reducible rfl)
        simp only [Act.put, List.setIfInBounds_toArray, List.set_cons_zero, List.set_cons_succ]
        refine wpAnyIn_ready (rs := [0, 1]) (by kernel_rfl) (by simp) (AllReadyIn.cons (o := { dst := some 6, op := Op.load 24 (Operand.tmp 1), type := 24, pos := "ranges.go:159", after := #[], guard := none }) rfl (fun K hK => ?_) (AllReadyIn.cons (o := { dst := some 7, op := Op.load 24 (Operand.tmp 1), type := 24, pos := "ranges.go:159", after := #[], guard := none }) rfl (fun K hK => ?_) AllReadyIn.nil))
        · go_simp
          refine hK _ _ ?_
          clear hK K
          refine wpAnyIn_ready (rs := [1]) (by kernel_rfl) (by simp) (AllReadyIn.cons (o := { dst := some 7, op := Op.load 24 (Operand.tmp 1), type := 24, pos := "ranges.go:159", after := #[], guard := none }) rfl (fun K hK => ?_) AllReadyIn.nil)
          go_simp
          refine hK _ _ ?_
          clear hK K
          refine wpAnyIn_take (i := 2) (oi := { dst := some 8, op := Op.nilCheck (Operand.tmp 7), type := 0, pos := "ranges.go:159", after := #[{ on := 1, ground := Ground.data }], guard := none }) (v := ?_) rfl rfl (by kernel_rfl) (by kernel_rfl) (by kernel_rfl) (fun _ _ _ h => by cases h.1) ⟨Or.inl ⟨by rfl, ?_⟩, fun _ => rfl⟩ ?_
          rotate_left
          · (intro w; go_simp; try with_reducible rfl)
          simp only [Act.put, List.setIfInBounds_toArray, List.set_cons_zero, List.set_cons_succ]
          refine wpAnyIn_take (i := 3) (oi := { dst := some 9, op := Op.fieldAddr 48 (Operand.tmp 8) 1, type := 0, pos := "ranges.go:159", after := #[{ on := 2, ground := Ground.data }], guard := none }) (v := ?_) rfl rfl (by kernel_rfl) (by kernel_rfl) (by kernel_rfl) (fun _ _ _ h => by cases h.1) ⟨Or.inl ⟨by rfl, ?_⟩, fun _ => rfl⟩ ?_
          rotate_left
          · (intro w; go_simp; try with_reducible rfl)
          simp only [Act.put, List.setIfInBounds_toArray, List.set_cons_zero, List.set_cons_succ]
          refine wpAnyIn_ready (rs := [4]) (by kernel_rfl) (by simp) (AllReadyIn.cons (o := { dst := some 10, op := Op.load 26 (Operand.tmp 9), type := 26, pos := "ranges.go:159", after := #[{ on := 3, ground := Ground.data }], guard := none }) rfl (fun K hK => ?_) AllReadyIn.nil)
          go_simp
          refine hK _ _ ?_
          clear hK K
          refine wpAnyIn_ready (rs := [6]) (by kernel_rfl) (by simp) (AllReadyIn.cons (o := { dst := some 12, op := Op.call { callee := Callee.value (Operand.func 48), args := #[Operand.tmp 10, Operand.tmp 11], argTypes := #[26, 32] }, type := 26, pos := "ranges.go:159", after := #[{ on := 4, ground := Ground.data }, { on := 5, ground := Ground.data }], guard := none }) rfl (fun K hK => ?_) AllReadyIn.nil)
          go_simp
          refine ((callsIn_wide (n := 4)).2 HP.out).mono ?_
          rintro e w3 ⟨qv', rfl, -, hbt3, hph, hS3, hqv3, hK3⟩
          obtain ⟨aa, nn, cc, rfl⟩ := qv_form hqv3
          have y1 := blk_cell hph 1
          have y2 := blk_frozen hph 1
          have y5 := blk_cell hbt3 0
          simp only [List.getElem?_toArray, List.getElem?_cons_succ, List.getElem?_cons_zero] at y1 y5
          dsimp only
          refine hK _ _ ?_
          clear hK K
          refine wpAnyIn_take (i := 7) (oi := { dst := some 13, op := Op.nilCheck (Operand.tmp 6), type := 0, pos := "ranges.go:159", after := #[{ on := 0, ground := Ground.data }, { on := 0, ground := Ground.phase }, { on := 1, ground := Ground.phase }, { on := 2, ground := Ground.phase }, { on := 3, ground := Ground.phase }, { on := 4, ground := Ground.phase }, { on := 5, ground := Ground.phase }, { on := 6, ground := Ground.phase }], guard := none }) (v := ?_) rfl rfl (by kernel_rfl) (by kernel_rfl) (by kernel_rfl) (fun _ _ _ h => by cases h.1) ⟨Or.inl ⟨by rfl, ?_⟩, fun _ => rfl⟩ ?_
          rotate_left
          · (intro w; go_simp; try with_reducible rfl)
          simp only [Act.put, List.setIfInBounds_toArray, List.set_cons_zero, List.set_cons_succ]
          refine wpAnyIn_take (i := 8) (oi := { dst := some 14, op := Op.fieldAddr 48 (Operand.tmp 13) 1, type := 0, pos := "ranges.go:159", after := #[{ on := 7, ground := Ground.data }, { on := 0, ground := Ground.phase }, { on := 1, ground := Ground.phase }, { on := 2, ground := Ground.phase }, { on := 3, ground := Ground.phase }, { on := 4, ground := Ground.phase }, { on := 5, ground := Ground.phase }, { on := 6, ground := Ground.phase }], guard := none }) (v := ?_) rfl rfl (by kernel_rfl) (by kernel_rfl) (by kernel_rfl) (fun _ _ _ h => by cases h.1) ⟨Or.inl ⟨by rfl, ?_⟩, fun _ => rfl⟩ ?_
          rotate_left
          · (intro w; go_simp; try with_reducible rfl)
          simp only [Act.put, List.setIfInBounds_toArray, List.set_cons_zero, List.set_cons_succ]
          refine wpAnyIn_ready (rs := [9]) (by kernel_rfl) (by simp) (AllReadyIn.cons (o := { dst := none, op := Op.store 26 (Operand.tmp 14) (Operand.tmp 12), type := 0, pos := "ranges.go:159", after := #[{ on := 8, ground := Ground.data }, { on := 6, ground := Ground.data }, { on := 6, ground := Ground.chain }, { on := 0, ground := Ground.phase }, { on := 1, ground := Ground.phase }, { on := 2, ground := Ground.phase }, { on := 3, ground := Ground.phase }, { on := 4, ground := Ground.phase }, { on := 5, ground := Ground.phase }, { on := 6, ground := Ground.phase }], guard := none }) rfl (fun K hK => ?_) AllReadyIn.nil)
          go_simp
          refine hK _ _ ?_
          clear hK K
          refine wpAnyIn_done (by kernel_rfl) ?_ _
          refine ⟨rfl, ⟨_, _, _, _, _, _, _, _, _, rfl⟩, _, hS3, hqv3, ?_⟩
          exact KF.out _ _ hK3
        · go_simp
          refine hK _ _ ?_
          clear hK K
          refine wpAnyIn_take (i := 2) (oi := { dst := some 8, op := Op.nilCheck (Operand.tmp 7), type := 0, pos := "ranges.go:159", after := #[{ on := 1, ground := Ground.data }], guard := none }) (v := ?_) rfl rfl (by kernel_rfl) (by kernel_rfl) (by kernel_rfl) (fun _ _ _ h => by cases h.1) ⟨Or.inl ⟨by rfl, ?_⟩, fun _ => rfl⟩ ?_
          rotate_left
          · (intro w; go_simp; try with_reducible rfl)
          simp only [Act.put, List.setIfInBounds_toArray, List.set_cons_zero, List.set_cons_succ]
          refine wpAnyIn_take (i := 3) (oi := { dst := some 9, op := Op.fieldAddr 48 (Operand.tmp 8) 1, type := 0, pos := "ranges.go:159", after := #[{ on := 2, ground := Ground.data }], guard := none }) (v := ?_) rfl rfl (by kernel_rfl) (by kernel_rfl) (by kernel_rfl) (fun _ _ _ h => by cases h.1) ⟨Or.inl ⟨by rfl, ?_⟩, fun _ => rfl⟩ ?_
          rotate_left
          · (intro w; go_simp; try with_reducible rfl)
          simp only [Act.put, List.setIfInBounds_toArray, List.set_cons_zero, List.set_cons_succ]
          refine wpAnyIn_ready (rs := [0, 4]) (by kernel_rfl) (by simp) (AllReadyIn.cons (o := { dst := some 6, op := Op.load 24 (Operand.tmp 1), type := 24, pos := "ranges.go:159", after := #[], guard := none }) rfl (fun K hK => ?_) (AllReadyIn.cons (o := { dst := some 10, op := Op.load 26 (Operand.tmp 9), type := 26, pos := "ranges.go:159", after := #[{ on := 3, ground := Ground.data }], guard := none }) rfl (fun K hK => ?_) AllReadyIn.nil))
          · go_simp
            refine hK _ _ ?_
            clear hK K
            refine wpAnyIn_ready (rs := [4]) (by kernel_rfl) (by simp) (AllReadyIn.cons (o := { dst := some 10, op := Op.load 26 (Operand.tmp 9), type := 26, pos := "ranges.go:159", after := #[{ on := 3, ground := Ground.data }], guard := none }) rfl (fun K hK => ?_) AllReadyIn.nil)
            go_simp
            refine hK _ _ ?_
            clear hK K
            refine wpAnyIn_ready (rs := [6]) (by kernel_rfl) (by simp) (AllReadyIn.cons (o := { dst := some 12, op := Op.call { callee := Callee.value (Operand.func 48), args := #[Operand.tmp 10, Operand.tmp 11], argTypes := #[26, 32] }, type := 26, pos := "ranges.go:159", after := #[{ on := 4, ground := Ground.data }, { on := 5, ground := Ground.data }], guard := none }) rfl (fun K hK => ?_) AllReadyIn.nil)
            go_simp
            refine ((callsIn_wide (n := 4)).2 HP.out).mono ?_
            rintro e w3 ⟨qv', rfl, -, hbt3, hph, hS3, hqv3, hK3⟩
            obtain ⟨aa, nn, cc, rfl⟩ := qv_form hqv3
            have y1 := blk_cell hph 1
            have y2 := blk_frozen hph 1
            have y5 := blk_cell hbt3 0
            simp only [List.getElem?_toArray, List.getElem?_cons_succ, List.getElem?_cons_zero] at y1 y5
            dsimp only
            refine hK _ _ ?_
            clear hK K
            refine wpAnyIn_take (i := 7) (oi := { dst := some 13, op := Op.nilCheck (Operand.tmp 6), type := 0, pos := "ranges.go:159", after := #[{ on := 0, ground := Ground.data }, { on := 0, ground := Ground.phase }, { on := 1, ground := Ground.phase }, { on := 2, ground := Ground.phase }, { on := 3, ground := Ground.phase }, { on := 4, ground := Ground.phase }, { on := 5, ground := Ground.phase }, { on := 6, ground := Ground.phase }], guard := none }) (v := ?_) rfl rfl (by kernel_rfl) (by kernel_rfl) (by kernel_rfl) (fun _ _ _ h => by cases h.1) ⟨Or.inl ⟨by rfl, ?_⟩, fun _ => rfl⟩ ?_
            rotate_left
            · (intro w; go_simp; try with_reducible rfl)
            simp only [Act.put, List.setIfInBounds_toArray, List.set_cons_zero, List.set_cons_succ]
            refine wpAnyIn_take (i := 8) (oi := { dst := some 14, op := Op.fieldAddr 48 (Operand.tmp 13) 1, type := 0, pos := "ranges.go:159", after := #[{ on := 7, ground := Ground.data }, { on := 0, ground := Ground.phase }, { on := 1, ground := Ground.phase }, { on := 2, ground := Ground.phase }, { on := 3, ground := Ground.phase }, { on := 4, ground := Ground.phase }, { on := 5, ground := Ground.phase }, { on := 6, ground := Ground.phase }], guard := none }) (v := ?_) rfl rfl (by kernel_rfl) (by kernel_rfl) (by kernel_rfl) (fun _ _ _ h => by cases h.1) ⟨Or.inl ⟨by rfl, ?_⟩, fun _ => rfl⟩ ?_
            rotate_left
            · (intro w; go_simp; try with_reducible rfl)
            simp only [Act.put, List.setIfInBounds_toArray, List.set_cons_zero, List.set_cons_succ]
            refine wpAnyIn_ready (rs := [9]) (by kernel_rfl) (by simp) (AllReadyIn.cons (o := { dst := none, op := Op.store 26 (Operand.tmp 14) (Operand.tmp 12), type := 0, pos := "ranges.go:159", after := #[{ on := 8, ground := Ground.data }, { on := 6, ground := Ground.data }, { on := 6, ground := Ground.chain }, { on := 0, ground := Ground.phase }, { on := 1, ground := Ground.phase }, { on := 2, ground := Ground.phase }, { on := 3, ground := Ground.phase }, { on := 4, ground := Ground.phase }, { on := 5, ground := Ground.phase }, { on := 6, ground := Ground.phase }], guard := none }) rfl (fun K hK => ?_) AllReadyIn.nil)
            go_simp
            refine hK _ _ ?_
            clear hK K
            refine wpAnyIn_done (by kernel_rfl) ?_ _
            refine ⟨rfl, ⟨_, _, _, _, _, _, _, _, _, rfl⟩, _, hS3, hqv3, ?_⟩
            exact KF.out _ _ hK3
          · go_simp
            refine hK _ _ ?_
            clear hK K
            refine wpAnyIn_ready (rs := [0, 6]) (by kernel_rfl) (by simp) (AllReadyIn.cons (o := { dst := some 6, op := Op.load 24 (Operand.tmp 1), type := 24, pos := "ranges.go:159", after := #[], guard := none }) rfl (fun K hK => ?_) (AllReadyIn.cons (o := { dst := some 12, op := Op.call { callee := Callee.value (Operand.func 48), args := #[Operand.tmp 10, Operand.tmp 11], argTypes := #[26, 32] }, type := 26, pos := "ranges.go:159", after := #[{ on := 4, ground := Ground.data }, { on := 5, ground := Ground.data }], guard := none }) rfl (fun K hK => ?_) AllReadyIn.nil))
            · go_simp
              refine hK _ _ ?_
              clear hK K
              refine wpAnyIn_ready (rs := [6]) (by kernel_rfl) (by simp) (AllReadyIn.cons (o := { dst := some 12, op := Op.call { callee := Callee.value (Operand.func 48), args := #[Operand.tmp 10, Operand.tmp 11], argTypes := #[26, 32] }, type := 26, pos := "ranges.go:159", after := #[{ on := 4, ground := Ground.data }, { on := 5, ground := Ground.data }], guard := none }) rfl (fun K hK => ?_) AllReadyIn.nil)
              go_simp
              refine ((callsIn_wide (n := 4)).2 HP.out).mono ?_
              rintro e w3 ⟨qv', rfl, -, hbt3, hph, hS3, hqv3, hK3⟩
              obtain ⟨aa, nn, cc, rfl⟩ := qv_form hqv3
              have y1 := blk_cell hph 1
              have y2 := blk_frozen hph 1
              have y5 := blk_cell hbt3 0
              simp only [List.getElem?_toArray, List.getElem?_cons_succ, List.getElem?_cons_zero] at y1 y5
              dsimp only
              refine hK _ _ ?_
              clear hK K
              refine wpAnyIn_take (i := 7) (oi := { dst := some 13, op := Op.nilCheck (Operand.tmp 6), type := 0, pos := "ranges.go:159", after := #[{ on := 0, ground := Ground.data }, { on := 0, ground := Ground.phase }, { on := 1, ground := Ground.phase }, { on := 2, ground := Ground.phase }, { on := 3, ground := Ground.phase }, { on := 4, ground := Ground.phase }, { on := 5, ground := Ground.phase }, { on := 6, ground := Ground.phase }], guard := none }) (v := ?_) rfl rfl (by kernel_rfl) (by kernel_rfl) (by kernel_rfl) (fun _ _ _ h => by cases h.1) ⟨Or.inl ⟨by rfl, ?_⟩, fun _ => rfl⟩ ?_
              rotate_left
              · (intro w; go_simp; try with_reducible rfl)
              simp only [Act.put, List.setIfInBounds_toArray, List.set_cons_zero, List.set_cons_succ]
              refine wpAnyIn_take (i := 8) (oi := { dst := some 14, op := Op.fieldAddr 48 (Operand.tmp 13) 1, type := 0, pos := "ranges.go:159", after := #[{ on := 7, ground := Ground.data }, { on := 0, ground := Ground.phase }, { on := 1, ground := Ground.phase }, { on := 2, ground := Ground.phase }, { on := 3, ground := Ground.phase }, { on := 4, ground := Ground.phase }, { on := 5, ground := Ground.phase }, { on := 6, ground := Ground.phase }], guard := none }) (v := ?_) rfl rfl (by kernel_rfl) (by kernel_rfl) (by kernel_rfl) (fun _ _ _ h => by cases h.1) ⟨Or.inl ⟨by rfl, ?_⟩, fun _ => rfl⟩ ?_
              rotate_left
              · (intro w; go_simp; try with_reducible rfl)
              simp only [Act.put, List.setIfInBounds_toArray, List.set_cons_zero, List.set_cons_succ]
              refine wpAnyIn_ready (rs := [9]) (by kernel_rfl) (by simp) (AllReadyIn.cons (o := { dst := none, op := Op.store 26 (Operand.tmp 14) (Operand.tmp 12), type := 0, pos := "ranges.go:159", after := #[{ on := 8, ground := Ground.data }, { on := 6, ground := Ground.data }, { on := 6, ground := Ground.chain }, { on := 0, ground := Ground.phase }, { on := 1, ground := Ground.phase }, { on := 2, ground := Ground.phase }, { on := 3, ground := Ground.phase }, { on := 4, ground := Ground.phase }, { on := 5, ground := Ground.phase }, { on := 6, ground := Ground.phase }], guard := none }) rfl (fun K hK => ?_) AllReadyIn.nil)
              go_simp
              refine hK _ _ ?_
              clear hK K
              refine wpAnyIn_done (by kernel_rfl) ?_ _
              refine ⟨rfl, ⟨_, _, _, _, _, _, _, _, _, rfl⟩, _, hS3, hqv3, ?_⟩
              exact KF.out _ _ hK3
            · go_simp
              refine ((callsIn_wide (n := 4)).2 HP.out).mono ?_
              rintro e w3 ⟨qv', rfl, -, hbt3, hph, hS3, hqv3, hK3⟩
              obtain ⟨aa, nn, cc, rfl⟩ := qv_form hqv3
              have y1 := blk_cell hph 1
              have y2 := blk_frozen hph 1
              have y5 := blk_cell hbt3 0
              simp only [List.getElem?_toArray, List.getElem?_cons_succ, List.getElem?_cons_zero] at y1 y5
              dsimp only
              refine hK _ _ ?_
              clear hK K
              refine wpAnyIn_ready (rs := [0]) (by kernel_rfl) (by simp) (AllReadyIn.cons (o := { dst := some 6, op := Op.load 24 (Operand.tmp 1), type := 24, pos := "ranges.go:159", after := #[], guard := none }) rfl (fun K hK => ?_) AllReadyIn.nil)
              go_simp
              refine hK _ _ ?_
              clear hK K
              refine wpAnyIn_take (i := 7) (oi := { dst := some 13, op := Op.nilCheck (Operand.tmp 6), type := 0, pos := "ranges.go:159", after := #[{ on := 0, ground := Ground.data }, { on := 0, ground := Ground.phase }, { on := 1, ground := Ground.phase }, { on := 2, ground := Ground.phase }, { on := 3, ground := Ground.phase }, { on := 4, ground := Ground.phase }, { on := 5, ground := Ground.phase }, { on := 6, ground := Ground.phase }], guard := none }) (v := ?_) rfl rfl (by kernel_rfl) (by kernel_rfl) (by kernel_rfl) (fun _ _ _ h => by cases h.1) ⟨Or.inl ⟨by rfl, ?_⟩, fun _ => rfl⟩ ?_
              rotate_left
              · (intro w; go_simp; try with_reducible rfl)
              simp only [Act.put, List.setIfInBounds_toArray, List.set_cons_zero, List.set_cons_succ]
              refine wpAnyIn_take (i := 8) (oi := { dst := some 14, op := Op.fieldAddr 48 (Operand.tmp 13) 1, type := 0, pos := "ranges.go:159", after := #[{ on := 7, ground := Ground.data }, { on := 0, ground := Ground.phase }, { on := 1, ground := Ground.phase }, { on := 2, ground := Ground.phase }, { on := 3, ground := Ground.phase }, { on := 4, ground := Ground.phase }, { on := 5, ground := Ground.phase }, { on := 6, ground := Ground.phase }], guard := none }) (v := ?_) rfl rfl (by kernel_rfl) (by kernel_rfl) (by kernel_rfl) (fun _ _ _ h => by cases h.1) ⟨Or.inl ⟨by rfl, ?_⟩, fun _ => rfl⟩ ?_
              rotate_left
              · (intro w; go_simp; try with_reducible rfl)
              simp only [Act.put, List.setIfInBounds_toArray, List.set_cons_zero, List.set_cons_succ]
              refine wpAnyIn_ready (rs := [9]) (by kernel_rfl) (by simp) (AllReadyIn.cons (o := { dst := none, op := Op.store 26 (Operand.tmp 14) (Operand.tmp 12), type := 0, pos := "ranges.go:159", after := #[{ on := 8, ground := Ground.data }, { on := 6, ground := Ground.data }, { on := 6, ground := Ground.chain }, { on := 0, ground := Ground.phase }, { on := 1, ground := Ground.phase }, { on := 2, ground := Ground.phase }, { on := 3, ground := Ground.phase }, { on := 4, ground := Ground.phase }, { on := 5, ground := Ground.phase }, { on := 6, ground := Ground.phase }], guard := none }) rfl (fun K hK => ?_) AllReadyIn.nil)
              go_simp
              refine hK _ _ ?_
              clear hK K
              refine wpAnyIn_done (by kernel_rfl) ?_ _
              refine ⟨rfl, ⟨_, _, _, _, _, _, _, _, _, rfl⟩, _, hS3, hqv3, ?_⟩
              exact KF.out _ _ hK3
      · rintro a' W3 ⟨⟨v6, v7, v8, v9, v10, v11, v12, v13, v14, rfl⟩, qv', hS3, hq3, hK3⟩
        simp only [List.setIfInBounds_toArray, List.set_cons_zero, List.set_cons_succ]
        have hrr := HRR.out
        obtain ⟨d1, d2, d3⟩ := delF_ok Q1 T1 o1 hI.out.2.1 hI.out.2.2.2.1 hI.out.2.2.1
        have d4 := delF_len Q1 T1 o1
        rw [hrr] at d1 d2 d3 d4
        have HD := Lib.hid (And.intro d1 (And.intro d2 (And.intro d3 d4)))
        have c2 : W3.cell? ⟨ba, 0, none⟩ = some (.bool (decide (r.2.length < Q1.length))) := blk_cell hS3.ca 0
        have H3 := Lib.hid (And.intro hS3 (And.intro hq3 hK3))
        clear hS3 hq3 hK3 hrr d1 d2 d3 d4 b0 b4 hbt
        generalize hdd : decide (r.2.length < Q1.length) = bb at c2 H3
        have HDD := Lib.hid hdd
        clear hdd
        go_wp2
        have hall := delF_all Q1 T1 o1 hI.out.2.1 hI.out.2.2.2.1 hI.out.2.2.1
        have hle := delF_le T1 o1 Q1
        have hsc := hI.out.2.2.2.2.2.1
        simp only [if_true] at hsc
        unfold scanF at hsc
        rw [HRR.out] at hall hle hsc
        have hm := HM.out
        obtain ⟨G3, hTG3, -⟩ := H3.out.1.tg
        have e1 : (W3.alloc (.cells #[.bool bb] 4)).cell? ⟨p, 1, none⟩ = some qv' := blk_cell (blk_alloc hTG3.hdr _) 1
        have e2 : mAg (W3.alloc (.cells #[.bool bb] 4)) (.pointer (some ⟨W3.heap.size, 0, none⟩)) = mBool (some (.bool bb)) := by
          show mBool ((W3.alloc (.cells #[.bool bb] 4)).cell? ⟨W3.heap.size, 0, none⟩) = _
          rw [blk_cell (blk_new W3 (.cells #[.bool bb] 4)) 0]; rfl
        refine ⟨⟨W3.heap.size, bb, qv', r.1.1, r.2, r.1.2, rfl, Lib.hid (H3.out.1.newag bb), Lib.hid ⟨H3.out.2.1, HD.out.1, ?_, HD.out.2.2.1, ?_, ?_, H3.out.2.2.size⟩, Lib.hid (H3.out.2.2.alloc _)⟩, ?_⟩
        · have := hI.out.2.2.1; omega
        · have := HD.out.2.2.2; have := hI.out.2.2.2.2.1; omega
        · cases bb
          · rw [if_neg (of_decide_eq_false HDD.out)] at hsc
            exact hsc
          · rw [if_pos (of_decide_eq_true HDD.out)] at hsc
            rw [if_pos rfl, ← hsc]
            exact (scanF_fuel r.2.length Q1.length r.1.1 r.1.2 r.2 (Nat.le_refl _) (of_decide_eq_true HDD.out)).symm
        · rw [e1, e2, hm, qv_len H3.out.2.1]
          cases bb
          · show 2 * r.2.length + 0 < 2 * Q1.length + 1
            omega
          · have := of_decide_eq_true HDD.out
            show 2 * r.2.length + 1 < 2 * Q1.length + 1
            omega
end
section
set_option linter.unusedVariables false
set_option linter.unusedSimpArgs false
open Go.RowKit Go.Maps Go.Sort Go.Lib Go.Shelf Go.Proofs.YtoolflmaaooplaaGreatW.PrintWords Go.Proofs.YtoolflmaaooplaaGreatW.PrintLast Go.Proofs.YtoolflmaaooplaaGreatW.PrintMore FLib
attribute [local go_sem] below_alloc_T below_drew_T below_drewN_T

def chkI (T : Tb) (x : Lk) : Int := if okL x.own x.st x.len then (if (tConf T x).isEmpty then 0 else 2) else 34
set_option maxRecDepth 100000 in
theorem check_any (p mb : Nat) (qv : Value) (G : List Ent) (T : Tb) (Q : List Lk) (hT : TOk T) (hG : plainG G = T) (x : Lk) (w : World) (h : TG w p mb qv G Q) :
    Calls Tryz.prog 39 #[.pointer (some ⟨p, 0, none⟩), .int .i64 x.own, .int .i64 x.st, .int .i64 x.len, .bool x.ex] w fun e w' => e = .returned (.int .i64 (chkI T x)) ∧ Below w.heap.size w w' := by
  subst hG
  have HV := Lib.hid (fun w => valid_any x.own x.st x.len w)
  unfold chkI
  cases hv : okL x.own x.st x.len
  · rw [hv] at HV
    clear h hT hv
    go_enter Tryz.func39, Tryz.ntmps39
    go_wp2_with fail
    refine (HV.out _).mono ?_
    rintro e w1 ⟨rfl, rfl⟩
    go_wp2
    go_ret
    exact ⟨rfl, Below.refl _ _⟩
  · have HF := Lib.hid (free_any p mb qv G Q hT.gsort hT.gok x (okL_sum hv) w h)
    rw [hv] at HV
    rw [plain_conf] at HF
    clear h hT hv
    simp only [lkV] at HF
    cases hc : (tConf (plainG G) x).isEmpty
    · rw [hc] at HF
      clear hc
      go_enter Tryz.func39, Tryz.ntmps39
      go_wp2_with fail
      refine (HV.out _).mono ?_
      rintro e w1 ⟨rfl, rfl⟩
      go_wp2_with fail
      refine HF.out.mono ?_
      rintro e w2 ⟨rfl, hb⟩
      have HB := Lib.hid hb
      clear hb
      go_wp2
      go_ret
      exact ⟨rfl, HB.out⟩
    · rw [hc] at HF
      clear hc
      go_enter Tryz.func39, Tryz.ntmps39
      go_wp2_with fail
      refine (HV.out _).mono ?_
      rintro e w1 ⟨rfl, rfl⟩
      go_wp2_with fail
      refine HF.out.mono ?_
      rintro e w2 ⟨rfl, hb⟩
      have HB := Lib.hid hb
      clear hb
      go_wp2
      go_ret
      exact ⟨rfl, HB.out⟩
set_option maxRecDepth 100000 in
theorem waiting_any (p mb : Nat) (qv : Value) (G : List Ent) (Q : List Lk) (hq : Q.length ≤ 10000) (w : World) (h : TG w p mb qv G Q) :
    Calls Tryz.prog 10 #[.pointer (some ⟨p, 0, none⟩)] w fun e w' => ∃ u, e = .returned u ∧ w'.ownsRow w.heap.size 29 4 u Q.length (lflat Q) ∧ Below w.heap.size w w' := by
  obtain ⟨i0, hi0, hz0, hz1, hz2⟩ := info_parts info23
  have HI := Lib.hid (And.intro hi0 (And.intro hz0 (And.intro hz1 hz2)))
  have hrow := h.queue
  have c1 : w.cell? ⟨p, 1, none⟩ = some qv := blk_cell h.hdr 1
  rcases row_form hrow with ⟨rfl, hz⟩ | ⟨g, c, rfl⟩
  · obtain rfl : Q = [] := List.eq_nil_of_length_eq_zero hz
    clear h hrow hq hz hi0 hz0 hz1 hz2
    go_enter Tryz.func10, Tryz.ntmps10
    go_wp2
    go_ret
    exact ⟨_, rfl, World.ownsRow_nil _ _ _ _, Below.refl _ _⟩
  · have HC := Lib.hid (fun (j : Nat) (u : Value) (hj : (lflat Q)[j]? = some u) => hrow.cells (g := g) rfl j u hj)
    have HO := Lib.hid (fun u (hu : u ∈ lflat Q) => show u.oneCell' = true by
      unfold lflat at hu
      obtain ⟨x, hx, hu⟩ := List.mem_flatMap.1 hu
      simp [Lk.cells] at hu
      rcases hu with rfl | rfl | rfl | rfl <;> rfl)
    have HL := Lib.hid (And.intro hq (lflat_len Q))
    clear h hrow hq hi0 hz0 hz1 hz2
    obtain ⟨n, hn⟩ : ∃ n, Q.length = n := ⟨_, rfl⟩
    rw [hn] at HL c1 ⊢
    clear hn
    go_enter Tryz.func10, Tryz.ntmps10
    go_wp2_with (at_builtin; refine wpList_append_own w rfl (.const (.slice none 0 0)) (.tmp 8) 26 rfl w.heap.size 29 i0 (.agg #[.int .i64 0, .int .i64 0, .int .i64 0, .bool false]) 4 32 Tryz.underlying26 HI.out.1 HI.out.2.1 HI.out.2.2.1 HI.out.2.2.2 rfl (by decide) (.slice none 0 0) 0 [] rfl (World.ownsRow_nil _ _ _ _) ⟨g, 0, none⟩ n c (lflat Q) rfl HL.out.2 HC.out HO.out (by have := HL.out; unfold maxLen; omega) (by have := HL.out; omega) (Nat.le_refl _) ?_; intro v' w3 hown' hg3 hnil3)
    go_ret
    exact ⟨v', rfl, by simpa using hown', (Below.refl _ _).grown hg3 (Nat.le_refl _) (fun j hj => by cases hj)⟩
end
section
set_option linter.unusedVariables false
set_option linter.unusedSimpArgs false
open Go.RowKit Go.Maps Go.Sort Go.Lib Go.Shelf Go.Proofs.YtoolflmaaooplaaGreatW.PrintWords Go.Proofs.YtoolflmaaooplaaGreatW.PrintLast Go.Proofs.YtoolflmaaooplaaGreatW.PrintMore FLib
attribute [local go_sem] below_alloc_T below_drew_T below_drewN_T

theorem lflat_append (A B : List Lk) : lflat (A ++ B) = lflat A ++ lflat B := by unfold lflat; rw [List.flatMap_append]
theorem lflat_drop (L : List Lk) (i : Nat) (h : i ≤ L.length) : (lflat L).drop (i * 4) = lflat (L.drop i) := by
  conv => lhs; rw [← List.take_append_drop i L]
  rw [lflat_append]
  have e : (lflat (L.take i)).length = i * 4 := by rw [lflat_len, List.length_take, Nat.min_eq_left h]
  rw [← e, List.drop_left]
theorem step_fits {P : Program} {ops : Array Oper} {o : Oper} {a : Act} {w w' : World} {K : Act → World → Prop} {Q : Exit → Act → World → Prop} {E : Prop} {v : Value} (hgd : o.guard = none) (s x : Operand) (t : TypeId)
    (ho : o.op = .call { callee := .builtin .append, args := #[s, x], argTypes := #[t, t] }) (u y : Value) (hs : a.eval s = u) (hx : a.eval x = y) (hr : (Builtin.append_ #[t, t] o.type #[u, y]).run P w = .ok v w') (h : K (a.put o.dst v) w') :
    if Region.wanted o (yielded ops a.tmps) = true then Oper.wp P o a w K Q else E := by
  have hw : Region.wanted o (yielded ops a.tmps) = true := by simp [Region.wanted, hgd]
  rw [if_pos hw]
  unfold Oper.wp
  simp [execOp, ho, resolve, invoke, builtin, hs, hx, hr, Result.andThen, Oper.upon]
  exact h
theorem putAt_far {α : Type} (vs : List α) : ∀ (xs : List α) (o : Nat), xs.length ≤ o → putAt xs o vs = xs := by
  induction vs with
  | nil => intro xs o h; rfl
  | cons v vs ih => intro xs o h; rw [putAt, List.set_eq_of_length_le h, ih _ _ (by omega)]
theorem own_there {w : World} {base e sz g c n : Nat} {xs : List Value} (h : w.ownsRow base e sz (.slice (some ⟨g, 0, none⟩) n c) n xs) {i : Nat} (hi : i < c * sz) : (w.cell? ⟨g, i, none⟩).isSome = true ∧ w.frozen? ⟨g, i, none⟩ = false := by
  refine ⟨?_, own_frozen h i⟩
  rcases h.2 with ⟨h2, -⟩ | ⟨g', c', cur, h1, hb, h3, h4, h5, h6, h7⟩
  · cases h2
  · cases h1
    rw [blk_cell h3, Array.getElem?_eq_getElem (by omega)]; rfl
set_option maxRecDepth 100000 in
set_option maxHeartbeats 1000000 in
theorem delete_any (g c n : Nat) (Q : List Lk) (hn : Q.length = n + 1) (hnl : n ≤ 10000) (hc : n + 1 ≤ c) (k : Nat) (hk : k < n + 1) (w : World) (h : w.ownsRow 0 29 4 (.slice (some ⟨g, 0, none⟩) (n + 1) c) (n + 1) (lflat Q)) :
    Calls Tryz.prog 59 #[.slice (some ⟨g, 0, none⟩) (n + 1) c, .int .i64 k, .int .i64 ((k : Int) + 1)] w fun e w' => e = .returned (.slice (some ⟨g, 0, none⟩) n c) ∧ w'.ownsRow 0 29 4 (.slice (some ⟨g, 0, none⟩) n c) n (lflat (Q.eraseIdx k)) ∧ Keeps w w' (fun b => b = g) := by
  obtain ⟨i0, hi0, hz0, hz1, hz2⟩ := info_parts info23
  have hcut := own_cut h (Nat.le_of_lt hk)
  rw [lflat_take _ _ (by omega)] at hcut
  have hcells := h.cells (g := g) rfl
  obtain ⟨ad, had⟩ : ∃ ad : Addr, (if c = k + 1 then some (⟨g, 0, none⟩ : Addr) else some ⟨g, (k + 1) * 4, none⟩) = some ad := by split <;> exact ⟨_, rfl⟩
  obtain ⟨w1, hr1, hown1, hg1⟩ := run_append_fits (P := Tryz.prog) (w := w.drew) 0 26 26 29 i0 4 Tryz.underlying26 hi0 hz1 g k c (lflat (Q.take k)) (own_move hcut (fun _ _ => rfl)) ad (n + 1 - (k + 1)) (c - (k + 1)) (lflat (Q.drop (k + 1))) (by rw [lflat_len, List.length_drop]; omega)
    (fun j u hj => by
      have hlt := (List.getElem?_eq_some_iff.1 hj).1
      rw [lflat_len, List.length_drop] at hlt
      rw [if_neg (by omega)] at had
      obtain rfl : (⟨g, (k + 1) * 4, none⟩ : Addr) = ad := by injection had
      have h1 : (lflat Q)[(k + 1) * 4 + j]? = some u := by rw [← lflat_drop _ _ (by omega), List.getElem?_drop] at hj; exact hj
      have h2 := hcells _ _ h1
      rw [addmk, Nat.zero_add] at h2
      rw [addmk]
      exact h2)
    (fun u hu => by
      unfold lflat at hu
      obtain ⟨x, hx, hu⟩ := List.mem_flatMap.1 hu
      simp [Lk.cells] at hu
      rcases hu with rfl | rfl | rfl | rfl <;> rfl) (by omega)
  rw [show k + (n + 1 - (k + 1)) = n by omega] at hr1 hown1
  rw [show n + 1 - (k + 1) = n - k by omega] at hr1
  rw [← lflat_append] at hown1
  have he : Q.eraseIdx k = Q.take k ++ Q.drop (k + 1) := List.eraseIdx_eq_take_drop_succ Q k
  rw [← he] at hown1
  have HO := Lib.hid (And.intro hown1 hg1)
  have HC := Lib.hid (fun (Y : Nat) => run_clear23 0 g (n * 4) 0 Y w1 (fun j hj => own_there hown1 (by omega)))
  have hk0 : (0 : Int) ≤ (k : Int) := by omega
  have hk1 : (k : Int) < (n : Int) + 1 := by omega
  have hk2 : (k : Int) ≤ (k : Int) + 1 := by omega
  have hk3 : (k : Int) + 1 ≤ (n : Int) + 1 := by omega
  have hk4 : (n : Int) + 1 ≤ (c : Int) := by omega
  have hk5 : (k : Int) ≤ (c : Int) := by omega
  have hk6 : (0 : Int) ≤ (k : Int) + 1 := by omega
  have hk7 : ((k : Int) == (k : Int) + 1) = false := by simp; omega
  have hk8 : (0 : Int) ≤ (n : Int) := by omega
  have hk9 : (n : Int) ≤ (n : Int) + 1 := by omega
  clear h hcut hcells hown1 hg1 he hi0 hz0 hz1 hz2 hn hnl
  go_enter Tryz.func59, Tryz.ntmps59
  go_wp2
  refine region_p (fun a a' w' => (∃ v20 v21 v22 v23 v24 v25 v26 : Value, a' = { tmps := (((((((a.tmps.setIfInBounds 20 v20).setIfInBounds 21 v21).setIfInBounds 22 v22).setIfInBounds 23 v23).setIfInBounds 24 v24).setIfInBounds 25 v25).setIfInBounds 26 v26).setIfInBounds 0 (.slice (some ⟨g, 0, none⟩) n c), defers := a.defers }) ∧ w' = w1) ?_ ?_
  · go_region_held3 (fun _ => True) (exact True.intro) (refine step_fits (by rfl) (.tmp 22) (.tmp 25) 26 (by rfl) _ _ (by rfl) (by rfl) hr1 ?_)
    all_goals exact ⟨rfl, ⟨_, _, _, _, _, _, _, rfl⟩, rfl⟩
  · rintro a' W2 ⟨⟨v20, v21, v22, v23, v24, v25, v26, rfl⟩, rfl⟩
    simp only [List.setIfInBounds_toArray, List.set_cons_zero, List.set_cons_succ]
    have hcl := HC.out (c - n)
    simp only [Nat.zero_add] at hcl
    clear hr1
    go_wp2
    go_ret
    refine ⟨rfl, ?_, ((Keeps.refl w (fun b => b = g)).drew.grown HO.out.2 (fun j hj => .inl (by injection hj with hj; exact hj.symm))).trans (keeps_sets _ g _ _) (fun i hi => .inl hi)⟩
    have h2 := own_sets (lflat (List.replicate 1 ⟨0, 0, 0, false⟩)) _ _ (n * 4) HO.out.1
    rw [putAt_far _ _ _ (Nat.le_of_eq HO.out.1.1)] at h2
    exact h2
end
section
set_option linter.unusedVariables false
set_option linter.unusedSimpArgs false
open Go.RowKit Go.Maps Go.Sort Go.Lib Go.Shelf Go.Proofs.YtoolflmaaooplaaGreatW.PrintWords Go.Proofs.YtoolflmaaooplaaGreatW.PrintLast Go.Proofs.YtoolflmaaooplaaGreatW.PrintMore FLib
attribute [local go_sem] below_alloc_T below_drew_T below_drewN_T

/-- The queue without an owner's lock. -/
def fdI (Q : List Lk) (o : Int) : Nat := Q.findIdx (fun l => l.own == o)
def cancQ (Q : List Lk) (o : Int) : List Lk := if fdI Q o < Q.length then Q.eraseIdx (fdI Q o) else Q
def cancI (Q : List Lk) (o : Int) : Int := if fdI Q o < Q.length then 0 else 22
theorem waitI_eq (Q : List Lk) (o : Int) : waitI Q o = if fdI Q o < Q.length then (fdI Q o : Int) else -1 := rfl
/-- The queue's row turned, then its cell. -/
theorem TG.requeue {W W2 : World} {p mb g m c : Nat} {G : List Ent} {Q Q' : List Lk} {qv' : Value} (h : TG W p mb (.slice (some ⟨g, 0, none⟩) m c) G Q) (hk : Keeps W W2 (fun b => b = g)) (hr : W2.ownsRow 0 29 4 qv' Q'.length (lflat Q')) (hq : qv'.ownBlock = some g) :
    TG (W2.setCell ⟨p, 1, none⟩ qv') p mb qv' G Q' := by
  obtain ⟨D, hD, hL⟩ := h.map
  have s1 : p ≠ g := fun e => h.sepq.1 (by rw [e]; rfl)
  have s2 : mb ≠ g := fun e => h.sepq.2 (by rw [e]; rfl)
  have s3 : ∀ e ∈ G, e.g ≠ g := fun e he e2 => (h.sepr e he).2.2 (by rw [e2]; rfl)
  have hpm : mb ≠ p := fun e => by
    obtain ⟨es, clock, ho, -⟩ := hD
    have := h.hdr; rw [← e, ho] at this; cases this
  have hb : ∀ k, k < W.heap.size → k ≠ g → k ≠ p → (W2.setCell ⟨p, 1, none⟩ qv').heap[k]? = W.heap[k]? := fun k h1 h2 h3 => (Below.heap_setCell _ _ _ _ h3).trans (hk.block k h1 h2)
  refine ⟨blk_put ((hk.block p (blk_lt h.hdr) s1).trans h.hdr) 1 qv' rfl, ⟨D, ?_, hL⟩, fun e he => own_move (h.row e he) (fun k hk' => hb k (row_lt (h.row e he) hk') ?_ ?_), fun e he => ⟨(h.sepr e he).1, (h.sepr e he).2.1, by rw [hq]; exact fun e2 => s3 e he (by injection e2 with e2; exact e2.symm)⟩,
    own_move hr (fun k hk' => Below.heap_setCell _ _ _ _ (fun e => s1 (by rw [hq] at hk'; injection hk' with hk'; exact (hk'.trans e).symm))), ⟨by rw [hq]; exact fun e => s1 (by injection e with e; exact e.symm), by rw [hq]; exact fun e => s2 (by injection e with e; exact e.symm)⟩, h.len⟩
  · obtain ⟨es, clock, ho, F', hs, e⟩ := hD
    exact ⟨es, clock, (hb _ (blk_lt ho) s2 hpm).trans ho, F', hs, e⟩
  · have e1 : e.g = k := by simpa [entV, Value.ownBlock] using hk'
    subst e1; exact s3 e he
  · have e1 : e.g = k := by simpa [entV, Value.ownBlock] using hk'
    subst e1; exact (h.sepr e he).1
/-- What the program's table may turn. -/
def PF (p mb : Nat) (qv : Value) (k : Nat) : Prop := k = p ∨ k = mb ∨ qv.ownBlock = some k
set_option maxRecDepth 100000 in
set_option maxHeartbeats 1000000 in
theorem cancel_any (p mb : Nat) (qv : Value) (G : List Ent) (Q : List Lk) (hq : Q.length ≤ 1000) (o : Int) (w : World) (h : TG w p mb qv G Q) :
    Calls Tryz.prog 33 #[.pointer (some ⟨p, 0, none⟩), .int .i64 o] w fun e w' => ∃ qv', e = .returned (.int .i64 (cancI Q o)) ∧ TG w' p mb qv' G (cancQ Q o) ∧ qv'.ownBlock = qv.ownBlock ∧ Keeps w w' (PF p mb qv) := by
  have HW := Lib.hid (waits_any p mb qv G Q (by omega) o w h)
  have HT := Lib.hid h
  have HL := Lib.hid hq
  unfold cancI cancQ
  rw [waitI_eq] at HW
  by_cases hf : fdI Q o < Q.length
  · rw [if_pos hf] at HW
    rw [if_pos hf, if_pos hf]
    obtain ⟨n, hn⟩ : ∃ n, Q.length = n + 1 := ⟨Q.length - 1, by omega⟩
    obtain ⟨k, hk⟩ : ∃ k, fdI Q o = k := ⟨_, rfl⟩
    rw [hk] at HW hf ⊢
    have hkn : k < n + 1 := by omega
    rcases row_form h.queue with ⟨-, hz⟩ | ⟨g, c, rfl⟩
    · omega
    have hc : n + 1 ≤ c := by
      rcases h.queue.2 with ⟨h2, -⟩ | ⟨g', c', cur, h1, -, -, h4, -⟩
      · cases h2
      · cases h1; omega
    have HN := Lib.hid (And.intro hn (And.intro hkn hc))
    rw [hn] at HT
    have hneg : ¬ (k : Int) < 0 := by omega
    have hd : decide ((k : Int) < 0) = false := decide_eq_false hneg
    have hwr : IntKind.i64.wrap ((k : Int) + 1) = (k : Int) + 1 := IntWalk.i64_in _ (by omega)
    clear h hq hf hk hkn hc hn hneg
    go_enter Tryz.func33, Tryz.ntmps33
    go_wp2_with fail
    refine HW.out.mono ?_
    rintro e w1 ⟨rfl, hb1⟩
    have hT1 := HT.out.below hb1
    have y1 : w1.cell? ⟨p, 1, none⟩ = some (.slice (some ⟨g, 0, none⟩) (n + 1) c) := blk_cell hT1.hdr 1
    have HDL := Lib.hid (delete_any g c n Q HN.out.1 (by have := HN.out; have := HL.out; omega) HN.out.2.2 k HN.out.2.1 w1 (by have := hT1.queue; rw [HN.out.1] at this; exact this))
    have H1 := Lib.hid (And.intro hT1 hb1)
    clear hT1 hb1
    go_wp2_with fail
    refine HDL.out.mono ?_
    rintro e w2 ⟨rfl, hr2, hk2⟩
    have hne : p ≠ g := fun e => H1.out.1.sepq.1 (by rw [e]; rfl)
    have hp2 : w2.heap[p]? = some (.cells #[.map (some mb), .slice (some ⟨g, 0, none⟩) (n + 1) c] 48 (0, 0)) := (hk2.block p (blk_lt H1.out.1.hdr) hne).trans H1.out.1.hdr
    have y2 : w2.cell? ⟨p, 1, none⟩ = some (.slice (some ⟨g, 0, none⟩) (n + 1) c) := blk_cell hp2 1
    have y3 : w2.frozen? ⟨p, 1, none⟩ = false := blk_frozen hp2 1
    have H2 := Lib.hid (And.intro hr2 hk2)
    clear hr2 hk2 hp2 hne y1
    go_wp2
    go_ret
    have hl : (Q.eraseIdx k).length = n := by rw [List.length_eraseIdx, if_pos (by have := HN.out; omega)]; have := HN.out; omega
    refine ⟨.slice (some ⟨g, 0, none⟩) n c, rfl, H1.out.1.requeue H2.out.2 (by rw [hl]; exact H2.out.1) rfl, rfl, ((Keeps.of_below H1.out.2 (PF p mb (.slice (some ⟨g, 0, none⟩) Q.length c))).trans H2.out.2 (fun i hi => .inl (.inr (.inr (by rw [hi]; rfl))))).set _ _ (.inl (.inl rfl))⟩
  · rw [if_neg hf] at HW
    rw [if_neg hf, if_neg hf]
    clear h hf hq
    go_enter Tryz.func33, Tryz.ntmps33
    go_wp2_with fail
    refine HW.out.mono ?_
    rintro e w1 ⟨rfl, hb1⟩
    have H1 := Lib.hid hb1
    clear hb1
    go_wp2
    go_ret
    exact ⟨qv, rfl, HT.out.below H1.out, rfl, Keeps.of_below H1.out _⟩

/-- What Drop leaves. -/
def dropF (T : Tb) (Q : List Lk) (o : Int) : (Tb × List Int) × List Lk := scanF ((cancQ Q o).length + 1) (tDel T o) [] (cancQ Q o)
theorem cancQ_ok {Q : List Lk} (h : QOk Q) (o : Int) : QOk (cancQ Q o) ∧ (cancQ Q o).length ≤ Q.length := by
  unfold cancQ
  split
  · exact ⟨fun x hx => h x (List.mem_of_mem_eraseIdx hx), List.length_eraseIdx_le _ _⟩
  · exact ⟨h, Nat.le_refl _⟩
theorem tAll_tDel (T : Tb) (o : Int) : tAll (tDel T o) = tCnt T o := rfl
theorem PF_eq {p mb : Nat} {qv qv' : Value} (h : qv'.ownBlock = qv.ownBlock) : PF p mb qv' = PF p mb qv := by funext k; unfold PF; rw [h]
set_option maxRecDepth 100000 in
set_option maxHeartbeats 1000000 in
theorem drop_any (p mb : Nat) (qv : Value) (G : List Ent) (T : Tb) (Q : List Lk) (hT : TOk T) (hTl : tAll T + 2 * Q.length ≤ 900) (hQ : QOk Q) (hG : plainG G = T) (o : Int) (hwf : (Lit.int .i64 o).wf = true) (w : World) (h : TG w p mb qv G Q) :
    Calls Tryz.prog 35 #[.pointer (some ⟨p, 0, none⟩), .int .i64 o] w fun e w' => ∃ (u qv' : Value) (G' : List Ent), e = .returned u ∧ TG w' p mb qv' G' (dropF T Q o).2 ∧ plainG G' = (dropF T Q o).1.1 ∧
      w'.ownsRow w.heap.size 3 1 u (dropF T Q o).1.2.length ((dropF T Q o).1.2.map encZ) ∧ QvOk qv.ownBlock qv' (dropF T Q o).2 ∧ Keeps w w' (PF p mb qv) := by
  subst hG
  have HC := Lib.hid (cancel_any p mb qv G Q (by omega) o w h)
  have HD := Lib.hid (fun qv Q w h => put_del p mb qv G Q hT.gsort o hwf none 0 w h)
  have HS := Lib.hid (fun qv w h => scan_any p mb qv (tDel (plainG G) o) (cancQ Q o) (hT.del o) (by have h1 := tAll_del hT.sort o; have := (cancQ_ok hQ o).2; rw [tAll_tDel]; omega) (cancQ_ok hQ o).1 w (gDel G o) h (plain_del G o))
  obtain ⟨R, hR⟩ : ∃ R, dropF (plainG G) Q o = R := ⟨_, rfl⟩
  have hR2 : scanF ((cancQ Q o).length + 1) (tDel (plainG G) o) [] (cancQ Q o) = R := hR
  rw [hR]
  rw [hR2] at HS
  have HT := Lib.hid h
  clear h hT hTl hQ hwf hR hR2
  go_enter Tryz.func35, Tryz.ntmps35
  go_wp2_with fail
  refine HC.out.mono ?_
  rintro e w1 ⟨qv1, rfl, hT1, ho1, hk1⟩
  have HD1 := Lib.hid (HD.out qv1 (cancQ Q o) w1 hT1)
  have H1 := Lib.hid (And.intro ho1 hk1)
  clear hT1 ho1 hk1 HC
  go_wp2_with fail
  refine HD1.out.mono ?_
  rintro e w2 ⟨rfl, hT2, hg2⟩
  have HS2 := Lib.hid (HS.out qv1 w2 hT2)
  have H2 := Lib.hid (show Keeps w w2 (PF p mb qv) from H1.out.2.grown hg2 (fun k hk => .inl (.inr (.inl (by injection hk with hk; exact hk.symm)))))
  clear hT2 hg2 HD1 HD
  go_wp2_with fail
  refine HS2.out.mono ?_
  rintro e w3 ⟨u, qv3, G3, rfl, hT3, hG3, hu3, hq3, hk3⟩
  have H3 := Lib.hid (And.intro hT3 (And.intro hG3 (And.intro hu3 (And.intro hq3 hk3))))
  clear hT3 hG3 hu3 hq3 hk3
  go_wp2
  go_ret
  obtain ⟨hT3, hG3, hu3, hq3, hk3⟩ := H3.out
  rw [H1.out.1] at hq3 hk3
  exact ⟨u, qv3, G3, rfl, hT3, hG3, own_base hu3 H2.out.size, hq3, H2.out.trans hk3 (fun i hi => .inl hi)⟩
end
section
set_option linter.unusedVariables false
set_option linter.unusedSimpArgs false
open Go.RowKit Go.Maps Go.Sort Go.Lib Go.Shelf Go.Proofs.YtoolflmaaooplaaGreatW.PrintWords Go.Proofs.YtoolflmaaooplaaGreatW.PrintLast Go.Proofs.YtoolflmaaooplaaGreatW.PrintMore FLib
attribute [local go_sem] below_alloc_T below_drew_T below_drewN_T

theorem sort_nil (p : Option Addr) (c : Nat) (fv : Value) (w : World) : Calls Tryz.prog 65 #[.slice p 0 c, fv] w fun e w' => e = .returned (.tuple #[]) ∧ w' = w := AnyF.slices_SortFunc_none laySpans p c fv w
set_option maxRecDepth 100000 in
theorem canon_nil (w : World) : Calls Tryz.prog 45 #[.slice none 0 0] w fun e w' => e = .returned (.slice none 0 0) ∧ w = w' := by
  have HS := Lib.hid (fun fv w => (sort_nil none 0 fv w).mono (fun e w' h => (⟨h.1, h.2.symm⟩ : e = .returned (.tuple #[]) ∧ w = w')))
  go_enter Tryz.func45, Tryz.ntmps45
  go_wp2_with fail
  refine (HS.out _ _).mono ?_
  rintro e w1 ⟨rfl, rfl⟩
  go_wp2
  refine wp_loop_rounds 1 ?_
  rw [rounds_succ]
  go_wp2
  go_ret
  exact ⟨rfl, rfl⟩
theorem canon_v (base : Nat) (v : Value) (l : List Sp) (hl : l.length ≤ 10000) (w : World) (h : w.ownsRow base 50 3 v l.length (sflat l)) :
    Calls Tryz.prog 45 #[v] w fun e w' => ∃ u, e = .returned u ∧ ∃ l' : List Sp, l'.Perm l ∧ l'.Pairwise (fun a b => ¬ b.lo < a.lo) ∧ w'.ownsRow w.heap.size 50 3 u (joinP l').length (sflat (joinP l')) ∧ Keeps w w' (fun b => v.ownBlock = some b) := by
  rcases row_form h with ⟨rfl, hz⟩ | ⟨g, c, rfl⟩
  · obtain rfl : l = [] := List.eq_nil_of_length_eq_zero hz
    refine (canon_nil w).mono ?_
    rintro e w' ⟨rfl, rfl⟩
    exact ⟨_, rfl, [], List.Perm.refl _, List.Pairwise.nil, World.ownsRow_nil _ _ _ _, Keeps.refl _ _⟩
  · refine (canon_any base g c l hl w h).mono ?_
    rintro e w' ⟨u, rfl, l', hp, hs, hu, hk⟩
    exact ⟨u, rfl, l', hp, hs, hu, hk.mono (fun b hb => by rw [hb]; rfl)⟩
end
end Go.Proofs.YtoolflmaaooplaaGreat
