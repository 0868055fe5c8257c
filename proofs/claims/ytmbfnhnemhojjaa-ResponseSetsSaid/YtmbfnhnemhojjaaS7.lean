/- The insertion sort of the library at this program's numbers; slices.SortStableFunc at 12 numbers or fewer. -/
import Derived.Shelf.SlSortCmp.Insertion
import Derived.Shelf.SlGeneric
import Derived.Test.YtmbfnhnemhojjaaS5
import Derived.Sort.LotA
namespace Go.Proofs.Ytmbfnhnemhojjaa
set_option linter.unusedVariables false
set_option linter.unusedSimpArgs false
open Go.Sort

/-- j stands ahead of i. -/
def ahead (key : Nat → Int) (j i : Nat) : Bool := decide (key j < key i) || (decide (key j = key i) && decide (j < i))
theorem ahead_iff (key : Nat → Int) (j i : Nat) : ahead key j i = true ↔ key j < key i ∨ (key j = key i ∧ j < i) := by
  unfold ahead; simp
/-- How many of the first n stand ahead of i. -/
def rank (key : Nat → Int) (n i : Nat) : Nat := (List.range n).countP (fun j => ahead key j i)

def lexF {m : Nat} (key : Nat → Int) (x y : Fin (m + 1)) : Bool := ahead key x.val y.val
def ltF {m : Nat} (key : Nat → Int) (x y : Fin (m + 1)) : Bool := decide (key x.val < key y.val)

theorem lexF_swo {m : Nat} (key : Nat → Int) : SWO (lexF (m := m) key) := by
  have hf : ∀ x y : Fin (m + 1), lexF key x y = false ↔ ¬ (key x.val < key y.val ∨ (key x.val = key y.val ∧ x.val < y.val)) := fun x y => by
    rw [← ahead_iff]; unfold lexF; simp
  have ht : ∀ x y : Fin (m + 1), lexF key x y = true ↔ (key x.val < key y.val ∨ (key x.val = key y.val ∧ x.val < y.val)) := fun x y => by
    rw [← ahead_iff]; unfold lexF; rfl
  refine ⟨fun x => (hf x x).2 (by omega), fun x y z h1 h2 => (ht x z).2 ?_, fun x y z h1 h2 => (hf x z).2 ?_⟩
  · have := (ht x y).1 h1; have := (ht y z).1 h2; omega
  · have := (hf x y).1 h1; have := (hf y z).1 h2; omega

theorem inner_lex {m : Nat} (key : Nat → Int) : ∀ (j : Nat) (d : Array (Fin (m + 1))), j < d.size → (∀ p, p < j → (d[p]!).val < (d[j]!).val) →
    insInner (ltF key) 0 j d = insInner (lexF key) 0 j d
  | 0, d, _, _ => by unfold insInner; rfl
  | j + 1, d, hj, h => by
    have hp := h j (by omega)
    have e : lexF key d[j + 1]! d[j]! = ltF key d[j + 1]! d[j]! := by
      unfold lexF ahead ltF
      have : decide ((d[j + 1]!).val < (d[j]!).val) = false := decide_eq_false (by omega)
      rw [this, Bool.and_false, Bool.or_false]
    unfold insInner
    rw [e]
    split
    · refine inner_lex key j _ (by rw [size_swp]; omega) fun p hpj => ?_
      rw [swp_other d (j + 1) j p (by omega) (by omega), swp_right d (j + 1) j (by omega)]
      exact h p (by omega)
    · rfl

theorem outer_lex {m : Nat} (key : Nat → Int) (n : Nat) : ∀ (k i : Nat) (d : Array (Fin (m + 1))), n - i = k → 0 < i → i ≤ n → d.size = n → (∀ p, p < i → (d[p]!).val < i) → (∀ p, i ≤ p → p < n → (d[p]!).val = p) → SortedIn (lexF key) 0 i d →
    insOuter (ltF key) 0 n i d = insOuter (lexF key) 0 n i d
  | 0, i, d, hk, _, hi, _, _, _, _ => by
    rw [insOuter, if_neg (by omega), insOuter, if_neg (by omega)]
  | k + 1, i, d, hk, h0, hi, hs, h1, h2, h3 => by
    have hlt : i < n := by omega
    have step : ∀ lt : Fin (m + 1) → Fin (m + 1) → Bool, insOuter lt 0 n i d = insOuter lt 0 n (i + 1) (insInner lt 0 i d) := fun lt => by rw [insOuter, if_pos hlt]
    rw [step, step]
    have hin : insInner (ltF key) 0 i d = insInner (lexF key) 0 i d := inner_lex key i d (by omega) fun p hp => by
      have := h1 p hp; have := h2 i (Nat.le_refl _) hlt; omega
    rw [hin]
    have sp := insInner_spec (lexF_swo (m := m) key) swp_permIn permIn_refl permIn_trans 0 (i + 1) i (by omega) i d (by omega) (Nat.le_refl _) (by omega) ⟨fun p q hap hpq hqi _ hq => h3 p q hap hpq (by omega), fun q h1 h2 => by omega⟩
    refine outer_lex key n k (i + 1) _ (by omega) (by omega) (by omega) (sp.1.1.trans hs) (fun p hp => ?_) (fun p hp hpn => ?_) sp.2
    · refine permIn_all d _ 0 (i + 1) (fun x => x.val < i + 1) (by omega) sp.1 (fun q _ hq => ?_) p (Nat.zero_le _) hp
      show (d[q]!).val < i + 1
      by_cases hqi : q < i
      · have := h1 q hqi; omega
      · have := h2 q (by omega) (by omega); omega
    · rw [sp.1.2.1 p (Or.inr hp)]
      exact h2 p (by omega) hpn

theorem countP_sorted {α : Type} (R : α → α → Bool) (L : List α) (hirr : ∀ x, R x x = false) (has : ∀ x y, R x y = true → R y x = false) (hL : ∀ a b (ha : a < L.length) (hb : b < L.length), a < b → R L[a] L[b] = true) (p : Nat) (hp : p < L.length) :
    L.countP (fun x => R x L[p]) = p := by
  have e := List.take_append_drop p L
  have h1 : (L.take p).countP (fun x => R x L[p]) = p := by
    have : (L.take p).countP (fun x => R x L[p]) = (L.take p).length := by
      rw [List.countP_eq_length]
      intro x hx
      obtain ⟨a, ha, rfl⟩ := List.getElem_of_mem hx
      rw [List.length_take] at ha
      rw [List.getElem_take]
      exact hL a p (by omega) hp (by omega)
    rw [this, List.length_take]; omega
  have h2 : (L.drop p).countP (fun x => R x L[p]) = 0 := by
    rw [List.countP_eq_zero]
    intro x hx
    obtain ⟨a, ha, rfl⟩ := List.getElem_of_mem hx
    rw [List.length_drop] at ha
    rw [List.getElem_drop]
    by_cases h : a = 0
    · subst h
      simp only [Nat.add_zero, hirr]
      simp
    · have := has _ _ (hL p (p + a) hp (by omega) (by omega))
      rw [this]; simp
  calc L.countP (fun x => R x L[p]) = (L.take p ++ L.drop p).countP (fun x => R x L[p]) := by rw [e]
    _ = p := by rw [List.countP_append, h1, h2]; rfl

/-- The numbers below m + 1, by keys, those of one key in their own order. -/
def sortedF (key : Nat → Int) (m : Nat) : Array (Fin (m + 1)) := insertionSort (ltF key) (Array.ofFn (fun i : Fin (m + 1) => i)) 0 (m + 1)

theorem ofFn_get {m p : Nat} (hp : p < m + 1) : ((Array.ofFn (fun i : Fin (m + 1) => i))[p]!).val = p := by
  rw [getElem!_pos _ p (by simpa using hp)]
  simp

theorem sortedF_spec (key : Nat → Int) (m : Nat) : PermIn 0 (m + 1) (Array.ofFn (fun i : Fin (m + 1) => i)) (sortedF key m) ∧ SortedIn (lexF key) 0 (m + 1) (sortedF key m) := by
  have e : sortedF key m = insertionSort (lexF key) (Array.ofFn (fun i : Fin (m + 1) => i)) 0 (m + 1) := by
    unfold sortedF insertionSort
    refine outer_lex key (m + 1) _ (0 + 1) _ rfl (by omega) (by omega) (by simp) (fun p hp => ?_) (fun p _ hp => ofFn_get hp) (fun i j h1 h2 h3 => by omega)
    rw [ofFn_get (by omega)]; omega
  rw [e]
  exact insertionSort_holds (lexF_swo key) _ 0 (m + 1) (Nat.zero_le _) (by simp)

theorem sortedF_size (key : Nat → Int) (m : Nat) : (sortedF key m).size = m + 1 := by
  have := (sortedF_spec key m).1.1
  simpa using this

theorem sortedF_perm (key : Nat → Int) (m : Nat) : ((sortedF key m).toList.map Fin.val).Perm (List.range (m + 1)) := by
  have h := (sortedF_spec key m).1.2.2
  have hs := sortedF_size key m
  have e1 : (sortedF key m).extract 0 (m + 1) = sortedF key m := by
    have : (sortedF key m).extract 0 (sortedF key m).size = sortedF key m := by simp
    rw [hs] at this
    exact this
  have e2 : (Array.ofFn (fun i : Fin (m + 1) => i)).extract 0 (m + 1) = Array.ofFn (fun i : Fin (m + 1) => i) := by
    apply Array.ext
    · simp
    · intro i h1 h2; simp
  rw [e1, e2] at h
  have h2 := h.map Fin.val
  refine h2.trans ?_
  have : ((Array.ofFn (fun i : Fin (m + 1) => i)).toList.map Fin.val) = List.range (m + 1) := by
    apply List.ext_getElem
    · simp
    · intro i h1 h2
      rw [List.getElem_map, Array.getElem_toList, Array.getElem_ofFn, List.getElem_range]
  rw [this]

theorem sortedF_rank (key : Nat → Int) (m p : Nat) (hp : p < m + 1) : rank key (m + 1) ((sortedF key m)[p]!).val = p := by
  have hs := sortedF_size key m
  have hlt : ∀ a b, a < b → b < m + 1 → ((sortedF key m)[a]!).val ≠ ((sortedF key m)[b]!).val := by
    intro a b hab hb he
    have hnd : ((sortedF key m).toList.map Fin.val).Nodup := (sortedF_perm key m).nodup_iff.2 List.nodup_range
    have hlen : ((sortedF key m).toList.map Fin.val).length = m + 1 := by simp [hs]
    refine List.pairwise_iff_getElem.1 hnd a b (by omega) (by omega) hab ?_
    simp only [List.getElem_map, Array.getElem_toList]
    rw [getElem!_pos _ a (by omega), getElem!_pos _ b (by omega)] at he
    exact he
  unfold rank
  rw [← (sortedF_perm key m).countP_eq]
  have hlen : ((sortedF key m).toList.map Fin.val).length = m + 1 := by simp [hs]
  have key' : ∀ q (hq : q < ((sortedF key m).toList.map Fin.val).length), ((sortedF key m).toList.map Fin.val)[q] = ((sortedF key m)[q]!).val := fun q hq => by
    rw [getElem!_pos _ q (by omega)]; simp
  have := countP_sorted (fun x y => ahead key x y) ((sortedF key m).toList.map Fin.val) (fun x => by unfold ahead; simp) (fun x y h => by
      have := (ahead_iff key x y).1 h
      cases h' : ahead key y x with
      | false => rfl
      | true => have := (ahead_iff key y x).1 h'; omega) (fun a b ha hb hab => by
      rw [key' a ha, key' b hb]
      have h1 := (sortedF_spec key m).2 a b (Nat.zero_le _) hab (by omega)
      have h2 := hlt a b hab (by omega)
      unfold lexF at h1
      rw [ahead_iff]
      have h3 : ¬ (_ ∨ _) := fun h => by rw [(ahead_iff key _ _).2 h] at h1; cases h1
      omega) p (by omega)
  rw [key' p (by omega)] at this
  exact this

theorem sortedF_all (key : Nat → Int) (m i : Nat) (hi : i < m + 1) : ∃ p, p < m + 1 ∧ ((sortedF key m)[p]!).val = i := by
  have hs := sortedF_size key m
  have : i ∈ (sortedF key m).toList.map Fin.val := (sortedF_perm key m).mem_iff.2 (List.mem_range.2 hi)
  obtain ⟨x, hx, rfl⟩ := List.mem_map.1 this
  obtain ⟨p, hp, rfl⟩ := List.getElem_of_mem hx
  have hp' : p < (sortedF key m).size := by simpa using hp
  refine ⟨p, by omega, ?_⟩
  rw [getElem!_pos _ p hp']; simp

theorem sortedF_iff (key : Nat → Int) (m p i : Nat) (hp : p < m + 1) (hi : i < m + 1) : rank key (m + 1) i = p ↔ ((sortedF key m)[p]!).val = i := by
  constructor
  · intro h
    obtain ⟨q, hq, rfl⟩ := sortedF_all key m i hi
    rw [sortedF_rank key m q hq] at h
    rw [h]
  · intro h
    rw [← h]; exact sortedF_rank key m p hp

open Go.Shelf Go.RowKit Go.Lib Go.Sort

def insRen : Go.Shelf.Ren := ⟨fun | 20 => 62 | n => n, fun | 24 => 3 | 22 => 88 | 3 => 3 | 25 => 91 | 4 => 4 | 0 => 0 | n => n, fun | n => n⟩
theorem insLays : Go.Proofs.SlLaysF.n20 Try.prog insRen := {
  mixed := by kernel_rfl
  f20 := ⟨Try.f62.name, by decide, Try.func62.trans (congrArg some (by kernel_rfl))⟩
  t0 := Try.underlying0
  a0 := Try.isAgg0
  z0 := Try.sizeOf0
  v0 := Try.zeroValue0
  t3 := Try.underlying3
  a3 := Try.isAgg3
  z3 := Try.sizeOf3
  v3 := Try.zeroValue3
  t4 := Try.underlying4
  a4 := Try.isAgg4
  z4 := Try.sizeOf4
  v4 := Try.zeroValue4
  t22 := Try.underlying88
  a22 := Try.isAgg88
  z22 := Try.sizeOf88
  v22 := Try.zeroValue88
  a24 := Try.isAgg3
  z24 := Try.sizeOf3
  t25 := Try.underlying91
  a25 := Try.isAgg91
  z25 := Try.sizeOf91
  v25 := Try.zeroValue91 }

/-- A number below m + 1 as an int. -/
def encF {m : Nat} (x : Fin (m + 1)) : Value := .int .i64 (x.val : Int)
theorem encF_one (m : Nat) : OneCell (encF (m := m)) := fun _ => rfl

theorem enter51 : ∀ args w, (callFunc 51 args).run Try.prog w = .ok (.enter 51 args) w := enters_of Try.func51 (by kernel_rfl) rfl

theorem below_putRow {α : Type} [Inhabited α] {B : Nat} (enc : α → Value) (w : World) (blk off : Nat) (d : Array α) (hb : B ≤ blk) : Below B w (putRow enc w blk off d) := by
  refine ⟨rfl, rfl, rfl, by rw [size_putRow]; exact Nat.le_refl _, fun k hk => ?_⟩
  show (w.heap.modify blk (onCells _))[k]? = _
  rw [Array.getElem?_modify, if_neg (by omega)]
theorem below_sortWorld {α : Type} [Inhabited α] {B : Nat} (enc : α → Value) (w : World) (blk off m : Nat) (d : Array α) (os : Array Obj) (hb : B ≤ blk) (hB : B ≤ w.heap.size) : Below B w (sortWorld enc w blk off m d os) := by
  refine ⟨rfl, rfl, rfl, ?_, fun k hk => ?_⟩
  · show _ ≤ ((w.heap.modify blk (onCells _)) ++ os).size
    rw [Array.size_append, Array.size_modify]; omega
  · show ((w.heap.modify blk (onCells _)) ++ os)[k]? = _
    rw [Array.getElem?_append_left (by rw [Array.size_modify]; omega), Array.getElem?_modify, if_neg (by omega)]

theorem walk59 (n : Nat) (hn : n ≤ 12) (cb : Array Value) (A : Option Addr) (cap : Nat) (w W2 : World) (h : Calls Try.prog 62 #[.slice A n cap, .int .i64 0, .int .i64 (n : Int), .func (.func 51) #[] cb] w fun e w' => e = .returned (.tuple #[]) ∧ ∃ q, w' = W2.drewN q) :
    Calls Try.prog 59 #[.slice A n cap, .int .i64 (n : Int), .func (.func 51) #[] cb] w fun e w' => e = .returned (.tuple #[]) ∧ ∃ q, w' = W2.drewN q := by
  have HC := Lib.hid h
  have h20 : ¬ (20 : Int) ≤ (n : Int) := by omega
  have h21 : ¬ (20 : Int) < (n : Int) := by omega
  clear h hn
  go_enter Try.func59, Try.ntmps59
  go_wp2
  refine wp_loop_rounds 1 ?_
  rw [rounds_succ]
  go_wp2_with (go_at_call 62; refine HC.out.mono ?_; rintro e w' ⟨rfl, q, rfl⟩)
  refine wp_loop_rounds 1 ?_
  rw [rounds_succ]
  go_wp2
  go_end0
  exact ⟨rfl, q, rfl⟩

theorem walk50 (n : Nat) (hn : n ≤ 12) (cb : Array Value) (A : Option Addr) (cap : Nat) (w W2 : World) (h : Calls Try.prog 62 #[.slice A n cap, .int .i64 0, .int .i64 (n : Int), .func (.func 51) #[] cb] w fun e w' => e = .returned (.tuple #[]) ∧ ∃ q, w' = W2.drewN q) :
    Calls Try.prog 50 #[.slice A n cap, .func (.func 51) #[] cb] w fun e w' => e = .returned (.tuple #[]) ∧ ∃ q, w' = W2.drewN q := by
  have HC := Lib.hid (walk59 n hn cb A cap w W2 h)
  clear h hn
  go_enter Try.func50, Try.ntmps50
  go_wp2_with (go_at_call 59; refine HC.out.mono ?_; rintro e w' ⟨rfl, q, rfl⟩)
  go_end0
  exact ⟨rfl, q, rfl⟩

theorem stable50 (m : Nat) (hm : m + 1 ≤ 12) (cf : Fin (m + 1) → Fin (m + 1) → Int) (cb : Array Value) (blk cap : Nat) (d : Array (Fin (m + 1))) (hd : d.size = m + 1) (w : World) (hcmp : CmpReads Try.prog 51 cb encF cf blk 0 d.size w) (hH : Holds encF w blk 0 d) :
    Calls Try.prog 50 #[.slice (some ⟨blk, 0, none⟩) (m + 1) cap, .func (.func 51) #[] cb] w fun e w' => e = .returned (.tuple #[]) ∧ ∃ q, w' = (putRow encF w blk 0 (Sort.insertionSort (ltOf cf) d 0 (m + 1))).drewN q := by
  have hcon := Any.insertionSortCmpFunc_one insLays encF (encF_one m) cf 51 cb blk 0 cap 0 (m + 1) d w enter51 hcmp hH (Nat.zero_le _) (by omega) (by omega)
  rw [hd] at hcon
  exact walk50 (m + 1) hm cb _ cap w _ hcon
end Go.Proofs.Ytmbfnhnemhojjaa
