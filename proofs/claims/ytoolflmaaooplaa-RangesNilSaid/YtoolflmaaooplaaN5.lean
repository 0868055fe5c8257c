/- Ranges: the example that each law asks first. -/
import Derived.Test.YtoolflmaaooplaaN4
namespace Go.Proofs.Ytoolflmaaooplaa
set_option linter.unusedVariables false
set_option linter.unusedSimpArgs false
open Go.RowKit Go.Maps Go.Sort Go.Lib Go.Shelf Go.Proofs.YtoolflmaaooplaaW.PrintWords Go.Proofs.YtoolflmaaooplaaW.PrintLast Go.Proofs.YtoolflmaaooplaaW.PrintMore FLib
attribute [local go_sem] below_alloc_T below_drew_T below_drewN_T

theorem GSort.nil : GSort [] := List.Pairwise.nil
theorem GOk.nil : GOk [] := ⟨by simp, by simp, by simp⟩
theorem cellOf_own {w : World} {base g c : Nat} {L : List Lk} {x : Lk} (h : w.ownsRow base 23 4 (.slice (some ⟨g, 0, none⟩) L.length c) L.length (lflat L)) (hx : L[0]? = some x) :
    w.cell? ⟨g, 0, none⟩ = some (.int .i64 x.own) ∧ w.cell? ⟨g, 1, none⟩ = some (.int .i64 x.st) ∧ w.cell? ⟨g, 2, none⟩ = some (.int .i64 x.len) ∧ w.cell? ⟨g, 3, none⟩ = some (.bool x.ex) := by
  obtain ⟨p0, p1, p2, p3⟩ := row_lk h hx
  simp only [Nat.zero_mul, Nat.zero_add] at p0 p1 p2 p3
  exact ⟨p0, p1, p2, p3⟩
set_option maxRecDepth 100000 in
set_option maxHeartbeats 1000000 in
theorem awake_any (w : World) : Calls Try.prog 11 #[] w fun e w' => e = .returned (.bool true) ∧ Below w.heap.size w w' := by
  have HN := Lib.hid (newT_any w)
  have HF := Lib.hid (fun p mb w h => set_free p mb [] GSort.nil GOk.nil (by simp) ⟨1, 0, 10, true⟩ rfl rfl rfl (fun l' hp _ => by
    have e : l' = [(⟨0, 10, true⟩ : Sp)] := List.perm_singleton.1 hp
    subst e; decide) w h)
  have HG := Lib.hid (fun p mb g c (l' : List Sp) (hp : l'.Perm (cutP (spansOf [] (1 : Int)) (spanI ⟨1, 0, 10, true⟩).lo (spanI ⟨1, 0, 10, true⟩).hi ++ [spanI ⟨1, 0, 10, true⟩])) w (h : TG w p mb (.slice none 0 0) (gPut [] ⟨1, g, c, joinP l'⟩) []) => show TG w p mb (.slice none 0 0) [⟨1, g, c, [⟨0, 10, true⟩]⟩] [] by
    have e : l' = [(⟨0, 10, true⟩ : Sp)] := List.perm_singleton.1 hp
    subst e; exact h)
  have hs1 : ∀ g c, GSort [⟨1, g, c, [⟨0, 10, true⟩]⟩] := fun g c => List.pairwise_singleton _ _
  have ho1 : ∀ g c, GOk [⟨1, g, c, [⟨0, 10, true⟩]⟩] := fun g c => ⟨fun e he => by rw [List.mem_singleton] at he; subst he; rfl, fun e he => by rw [List.mem_singleton] at he; subst he; simp, fun e he s hs => by
    rw [List.mem_singleton] at he; subst he
    rw [List.mem_singleton] at hs; subst hs; decide⟩
  have HC := Lib.hid (fun p mb g c w h => set_conf p mb [⟨1, g, c, [⟨0, 10, true⟩]⟩] (hs1 g c) (ho1 g c) ⟨2, 9, 0, false⟩ rfl rfl w h)
  have HGR := Lib.hid (fun p mb g c w h => granted_any p mb (.slice none 0 0) [⟨1, g, c, [⟨0, 10, true⟩]⟩] [] (hs1 g c) (ho1 g c) w h)
  clear hs1 ho1
  simp only [lkV] at HF HC
  go_enter Try.func11, Try.ntmps11
  go_wp2_with fail
  refine HN.out.mono ?_
  rintro e w1 ⟨rfl, hT1, hb1⟩
  have H1 := Lib.hid (And.intro hT1 hb1)
  clear hT1 hb1
  go_wp2_with fail
  refine (HF.out _ _ _ H1.out.1).mono ?_
  rintro e w2 ⟨rfl, g, c, l', hp, -, hT2, hk2⟩
  have H2 := Lib.hid (And.intro (HG.out _ _ g c l' hp w2 hT2) (H1.out.2.trans (hk2.below H1.out.2.size (fun i hi => by omega))))
  clear hp hT2 hk2 l'
  go_wp2_with fail
  refine (HC.out _ _ g c _ H2.out.1).mono ?_
  rintro e w3 ⟨rfl, hT3, hb3⟩
  have H3 := Lib.hid (And.intro hT3 (H2.out.2.trans (hb3.mono H2.out.2.size)))
  clear hT3 hb3
  go_wp2_with fail
  refine (HGR.out _ _ g c _ H3.out.1).mono ?_
  rintro e w4 ⟨u, rfl, hu, hb4⟩
  have hb := H3.out.2.trans (hb4.mono H3.out.2.size)
  have hgl : grantL [⟨1, g, c, [⟨0, 10, true⟩]⟩] = [⟨1, 0, 10, true⟩] := rfl
  rw [hgl] at hu
  obtain ⟨g4, c4, rfl⟩ := row_some (n := 0) hu
  obtain ⟨r0, r1, r2, r3⟩ := cellOf_own hu rfl
  have HB := Lib.hid hb
  clear hu hb hb4 hgl
  go_wp2
  go_ret
  exact ⟨rfl, HB.out⟩
end Go.Proofs.Ytoolflmaaooplaa
