/- Ranges: Granted. -/
import Derived.Test.YtoolflmaaooplaaN3
namespace Go.Proofs.Ytoolflmaaooplaa
set_option linter.unusedVariables false
set_option linter.unusedSimpArgs false
open Go.RowKit Go.Maps Go.Sort Go.Lib Go.Shelf Go.Proofs.YtoolflmaaooplaaW.PrintWords Go.Proofs.YtoolflmaaooplaaW.PrintLast Go.Proofs.YtoolflmaaooplaaW.PrintMore FLib
attribute [local go_sem] below_alloc_T below_drew_T below_drewN_T

/-- The granted locks, in the order of their owners. -/
def grantL (G : List Ent) : List Lk := G.flatMap (fun e => e.l.map (fun s => lockI s e.own))
def granP (G : List Ent) (i : Nat) (e : Ent) (j : Nat) : List Lk := grantL (G.take i) ++ (e.l.take j).map (fun s => lockI s e.own)
theorem granP_zero (G : List Ent) (i : Nat) (e : Ent) : granP G i e 0 = grantL (G.take i) := by simp [granP]
theorem granP_all {G : List Ent} {i : Nat} {e : Ent} (h : G[i]? = some e) : granP G i e e.l.length = grantL (G.take (i + 1)) := by
  unfold granP grantL
  rw [List.take_add_one, h, List.flatMap_append, List.take_length]
  simp
theorem granP_step {e : Ent} {j : Nat} {s : Sp} (hs : e.l[j]? = some s) (G : List Ent) (i : Nat) : granP G i e (j + 1) = granP G i e j ++ [lockI s e.own] := by
  unfold granP
  rw [List.take_add_one, hs, List.map_append, List.append_assoc]
  rfl
theorem lflat_snoc (L : List Lk) (x : Lk) : lflat (L ++ [x]) = lflat L ++ x.cells := by unfold lflat; simp
theorem grantL_len (G : List Ent) (h : ∀ e ∈ G, e.l.length ≤ 1000) : (grantL G).length ≤ 1000 * G.length := by
  induction G with
  | nil => simp [grantL]
  | cons e G ih =>
    unfold grantL at ih ⊢
    rw [List.flatMap_cons, List.length_append, List.length_map, List.length_cons]
    have := ih (fun x hx => h x (List.mem_cons_of_mem _ hx))
    have := h e (List.mem_cons_self ..)
    omega
set_option maxRecDepth 100000 in
set_option maxHeartbeats 2000000 in
theorem granted_any (p mb : Nat) (qv : Value) (G : List Ent) (Q : List Lk) (hs : GSort G) (hok : GOk G) (w : World) (h : TG w p mb qv G Q) :
    Calls Try.prog 15 #[.pointer (some ⟨p, 0, none⟩)] w fun e w' => ∃ u, e = .returned u ∧ w'.ownsRow w.heap.size 23 4 u (grantL G).length (lflat (grantL G)) ∧ Below w.heap.size w w' := by
  have HO := Lib.hid (owners_any p mb qv G Q hs w h)
  have HT := Lib.hid h
  have HS := Lib.hid hs
  have HOK := Lib.hid hok
  have HGL := Lib.hid h.len
  obtain ⟨i0, hi0, hz0, hz1, hz2⟩ := info_parts info23
  have HI := Lib.hid (And.intro hi0 (And.intro hz0 (And.intro hz1 hz2)))
  clear h hs hok hi0 hz0 hz1 hz2
  go_enter Try.func15, Try.ntmps15
  go_wp2_with fail
  refine HO.out.mono ?_
  rintro e w4 ⟨⟨u, rfl, hrow⟩, hb4⟩
  unfold IRow at hrow
  rw [List.length_map] at hrow
  have H4 := Lib.hid (And.intro hrow (And.intro hb4 (HT.out.below hb4)))
  rcases row_form hrow with ⟨rfl, hz⟩ | ⟨gb, cb, rfl⟩
  · have hG : G = [] := List.eq_nil_of_length_eq_zero hz
    subst hG
    clear hrow hb4 hz
    go_wp2
    refine wp_loop_rounds 1 ?_
    rw [rounds_succ]
    go_wp2
    go_ret
    exact ⟨_, rfl, World.ownsRow_nil _ _ _ _, H4.out.2.1⟩
  · clear hrow hb4
    go_wp2
    go_loopw [13, 3] (fun i u wr => ∃ k : Nat, k ≤ G.length ∧ i = .int .i64 k ∧ Hid (Below w4.heap.size w4 wr) ∧ Hid (wr.ownsRow w4.heap.size 23 4 u (grantL (G.take k)).length (lflat (grantL (G.take k))))) (fun i _ _ => G.length - (RowKit.intOf i).toNat)
    case atStart => exact ⟨0, Nat.zero_le _, rfl, Lib.hid (Below.refl _ _), Lib.hid (World.ownsRow_nil _ _ _ _)⟩
    case round =>
      obtain ⟨k, hk, rfl, hB, hown⟩ := hrel
      have hlr : (G.length : Int) ≤ 1000 := by have := HGL.out; omega
      by_cases hlt : k < G.length
      · obtain ⟨en, hen⟩ : ∃ en, G[k]? = some en := ⟨_, List.getElem?_eq_getElem hlt⟩
        have hmem := List.mem_of_getElem? hen
        have hT := H4.out.2.2.below hB.out
        have a1 : wr.cell? ⟨p, 0, none⟩ = some (.map (some mb)) := blk_cell hT.hdr 0
        have a2 : wr.cell? ⟨gb, k, none⟩ = some (.int .i64 en.own) := by
          have h1 := H4.out.1.cells (g := gb) rfl k (.int .i64 en.own) (by simp [hen, encZ])
          rw [addmk, Nat.zero_add] at h1
          exact pw_cell_below hB.out h1
        have a3 := hT.run_look (HOK.out.own en hmem)
        rw [gAt_at HS.out hen] at a3
        simp only [entV] at a3
        have hk0 : (0 : Int) ≤ (k : Int) := by omega
        have hk1 : (k : Int) < (G.length : Int) := by omega
        have HEN := Lib.hid hen
        have HM := Lib.hid hmem
        have HLT := Lib.hid hlt
        have hll : (en.l.length : Int) ≤ 1000 := by have := HOK.out.len en hmem; omega
        have HGN := Lib.hid (fun j => show (granP G k en j).length ≤ 1000000 + 1000 by
          have h1 := grantL_len (G.take k) (fun e he => HOK.out.len e (List.mem_of_mem_take he))
          have h2 := HOK.out.len en hmem
          have h3 := HGL.out
          unfold granP
          rw [List.length_append, List.length_map, List.length_take]
          rw [List.length_take] at h1
          have h4 : 1000 * min k G.length ≤ 1000 * 1000 := Nat.mul_le_mul_left _ (by omega)
          omega)
        clear hen hmem hT hlt
        go_wp2
        go_loopw [24, 3] (fun i u wr => ∃ j : Nat, j ≤ en.l.length ∧ i = .int .i64 j ∧ Hid (Below w4.heap.size w4 wr) ∧ Hid (wr.ownsRow w4.heap.size 23 4 u (granP G k en j).length (lflat (granP G k en j)))) (fun i _ _ => en.l.length - (RowKit.intOf i).toNat)
        case atStart => exact ⟨0, Nat.zero_le _, rfl, hB, by rw [granP_zero]; exact hown⟩
        case round =>
          clear hB hown a1 a2 a3 hk0 hk1
          obtain ⟨j, hj, rfl, hB, hown⟩ := hrel
          by_cases hlt2 : j < en.l.length
          · obtain ⟨s, hs⟩ : ∃ s, en.l[j]? = some s := ⟨_, List.getElem?_eq_getElem hlt2⟩
            have hT := H4.out.2.2.below hB.out
            obtain ⟨p0, p1, p2⟩ := row_sp (hT.row en HM.out) hs
            have hk0 : (0 : Int) ≤ (j : Int) := by omega
            have hk1 : (j : Int) < (en.l.length : Int) := by omega
            have hsm := HOK.out.sp en HM.out s (List.mem_of_getElem? hs)
            have HST := Lib.hid (granP_step hs G k)
            have HLT2 := Lib.hid hlt2
            have HLK := Lib.hid (fun w => lock_any s en.own hsm w)
            have hgn := HGN.out j
            generalize lockI s en.own = K at HLK HST
            obtain ⟨s0, s1, s2⟩ := s
            obtain ⟨k0, k1, k2, k3⟩ := K
            simp only [spV, lkV] at HLK p0 p1 p2
            generalize granP G k en j = X at hown HST hgn
            obtain ⟨n, hn⟩ : ∃ n, X.length = n := ⟨_, rfl⟩
            rw [hn] at hown hgn
            have HN := Lib.hid (And.intro hn hgn)
            clear hs hlt2 hT hsm hn hgn
            go_wp2_with fail
            refine (HLK.out _).mono ?_
            rintro e w5 ⟨rfl, hb5⟩
            have hB5 := below_step (below_alloc hB.out _) hb5
            have HR5 := Lib.hid (And.intro hB5 (pw_own_below hown.out ((below_alloc (Below.refl wr.heap.size wr) _).trans (hb5.mono (by simp)))))
            clear hb5 hB5 p0 p1 p2
            go_wp2_with (at_builtin; refine wpList_append_own (w5.alloc (.cells #[.int .i64 k0, .int .i64 k1, .int .i64 k2, .bool k3] 23)) rfl (.tmp 28) (.tmp 32) 37 rfl w4.heap.size 23 i0 (.agg #[.int .i64 0, .int .i64 0, .int .i64 0, .bool false]) 4 32 Try.underlying37 HI.out.1 HI.out.2.1 HI.out.2.2.1 HI.out.2.2.2 rfl (by decide) _ n (lflat X) rfl (World.ownsRow.alloc HR5.out.2 _) ⟨w5.heap.size, 0, none⟩ 1 1 [.int .i64 k0, .int .i64 k1, .int .i64 k2, .bool k3] rfl rfl (fun j z h => cells_new j z h) (by simp [Value.oneCell']) (by have := HN.out.2; unfold maxLen; omega) (by have := HN.out.2; omega) (by have := HR5.out.1.size; simp; omega) ?_; intro v' w6 hown' hg6 hnil6)
            have HN6 := Lib.hid (show w6.ownsRow w4.heap.size 23 4 v' (granP G k en (j + 1)).length (lflat (granP G k en (j + 1))) by
              rw [HST.out, lflat_snoc, List.length_append, HN.out.1]
              exact hown')
            have HB6 := Lib.hid (show Below w4.heap.size w4 w6 from (below_alloc HR5.out.1 _).grown hg6 (by have := HR5.out.1.size; simp; omega) (fun i hi => (HR5.out.2.lt i hi).1))
            clear hown' hg6 hnil6
            go_roundw
            case rel => exact ⟨j + 1, by have := HLT2.out; omega, by go_num, HB6, HN6⟩
            case measure => simp [RowKit.intOf]; have := HLT2.out; omega
          · obtain rfl : j = en.l.length := by omega
            have HN := Lib.hid (show wr.ownsRow w4.heap.size 23 4 _ (grantL (G.take (k + 1))).length (lflat (grantL (G.take (k + 1)))) by rw [← granP_all HEN.out]; exact hown.out)
            go_wp2
            go_roundw
            case rel => exact ⟨k + 1, by have := HLT.out; omega, by go_num, hB, HN⟩
            case measure => simp [RowKit.intOf]; have := HLT.out; omega
      · obtain rfl : k = G.length := by omega
        rw [List.take_length] at hown
        go_wp2
        go_ret
        exact ⟨_, rfl, own_base hown.out H4.out.2.1.size, H4.out.2.1.trans (hB.out.mono H4.out.2.1.size)⟩
end Go.Proofs.Ytoolflmaaooplaa
