/- A ring of some capacity and the list of all that was put into it: what the ring keeps is the list's end (plain lists, no program). -/
import Derived.Test.YtepceelkfbjamaaA3
namespace Go.Proofs.Ytepceelkfbjamaa
open PTraceFilters

structure Sync (cap : Nat) (s : RS) (L : List S47) : Prop where
  ok : s.Ok cap
  len : s.kept.length = min L.length cap
  lost : s.lost = L.length - cap
  all : s.kept.drop s.pos ++ s.kept.take s.pos = L.drop (L.length - cap)

theorem Sync.new (cap : Nat) (h1 : 1 ≤ cap) (h2 : cap ≤ 10000) : Sync cap ⟨[], 0, 0⟩ [] :=
  ⟨⟨h1, h2, Nat.zero_le _, fun _ => rfl, fun h => by simp at h; omega⟩, by simp, by simp, by simp⟩

theorem set_take_drop {α : Type} (l : List α) (i : Nat) (x : α) (h : i < l.length) : l.set i x = l.take i ++ x :: l.drop (i + 1) := by
  rw [List.set_eq_take_append_cons_drop, if_pos h]

theorem Sync.put {cap : Nat} {s : RS} {L : List S47} (h : Sync cap s L) (x : S47) : Sync cap (s.put cap x) (L ++ [x]) := by
  obtain ⟨ok, hlen, hlost, hall⟩ := h
  have ok' := RS.put_ok ok x
  obtain ⟨h1, h2, h3, h4, h5⟩ := ok
  unfold RS.put at *
  by_cases hlt : s.kept.length < cap
  · rw [if_pos hlt] at *
    have hp := h4 hlt
    have hL : L.length < cap := by omega
    have e0 : L.length - cap = 0 := by omega
    rw [hp, e0] at hall
    simp at hall
    refine ⟨ok', by simp; omega, by simp; omega, ?_⟩
    have e1 : (L ++ [x]).length - cap = 0 := by simp; omega
    rw [e1]
    simp [hp, hall]
  · rw [if_neg hlt] at *
    have hk : s.kept.length = cap := by omega
    have hp := h5 hk
    have hL : cap ≤ L.length := by omega
    have e1 : (L ++ [x]).length - cap = (L.length - cap) + 1 := by simp; omega
    refine ⟨ok', by simp; omega, by simp; omega, ?_⟩
    rw [e1]
    have hr : (L ++ [x]).drop (L.length - cap + 1) = (L.drop (L.length - cap)).drop 1 ++ [x] := by
      rw [List.drop_append_of_le_length (by omega), List.drop_drop]
    rw [hr, ← hall]
    have hd : s.kept.drop s.pos = s.kept[s.pos] :: s.kept.drop (s.pos + 1) := List.drop_eq_getElem_cons (by omega)
    rw [hd, List.cons_append, List.drop_succ_cons, List.drop_zero]
    rw [set_take_drop _ _ _ (by omega)]
    have ht : (s.kept.take s.pos).length = s.pos := by rw [List.length_take]; omega
    simp only [hk]
    by_cases hc : s.pos + 1 < cap
    · rw [Nat.mod_eq_of_lt hc]
      have e2 : s.kept.take s.pos ++ x :: s.kept.drop (s.pos + 1) = (s.kept.take s.pos ++ [x]) ++ s.kept.drop (s.pos + 1) := by simp
      have hl : (s.kept.take s.pos ++ [x]).length = s.pos + 1 := by simp [ht]
      rw [e2, ← hl, List.drop_left, List.take_left, hl]
      simp
    · have hc' : s.pos + 1 = cap := by omega
      rw [hc', Nat.mod_self]
      have e3 : s.kept.drop cap = [] := List.drop_eq_nil_of_le (by omega)
      simp [e3]

theorem Sync.puts {cap : Nat} (l : List S47) : ∀ {s : RS} {L : List S47}, Sync cap s L → Sync cap (l.foldl (RS.put cap) s) (L ++ l) := by
  induction l with
  | nil => intro s L h; simpa using h
  | cons x l ih =>
    intro s L h
    have := ih (h.put x)
    simpa using this
end Go.Proofs.Ytepceelkfbjamaa
