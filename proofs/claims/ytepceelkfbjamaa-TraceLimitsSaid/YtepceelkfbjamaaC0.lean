/- Numbers as bytes, the least significant first (plain lists, no program). -/
import Derived.Test.YtepceelkfbjamaaA3
import Derived.Laws.CopyOwn
namespace Go.Proofs.Ytepceelkfbjamaa
open PTraceFilters

def byteAt (v : Int) (i : Nat) : Int := v / 256 ^ i % 256
def le (n : Nat) (v : Int) : List Int := (List.range n).map (byteAt v)
theorem le_length (n : Nat) (v : Int) : (le n v).length = n := by simp [le]
theorem le_succ (n : Nat) (v : Int) : le (n + 1) v = le n v ++ [byteAt v n] := by simp [le, List.range_succ]
theorem byteAt_range (v : Int) (i : Nat) : 0 ≤ byteAt v i ∧ byteAt v i < 256 := by unfold byteAt; omega
def u8s (bs : List Int) : List Value := bs.map (Value.int .u8)
theorem u8s_length (bs : List Int) : (u8s bs).length = bs.length := by simp [u8s]
theorem u8s_splice (bs : List Int) (o : Nat) (cs : List Int) : splice (u8s bs) o (u8s cs) = u8s (splice bs o cs) := by
  simp [u8s, splice]
theorem splice_len {α : Type} (L : List α) (o : Nat) (cs : List α) (h : o + cs.length ≤ L.length) : (splice L o cs).length = L.length := length_splice L o cs h
theorem splice_nil {α : Type} (L : List α) (o : Nat) : splice L o [] = L := by simp [splice]
theorem splice_set {α : Type} (L : List α) (o : Nat) (cs : List α) (x : α) (h : o + cs.length < L.length) : (splice L o cs).set (o + cs.length) x = splice L o (cs ++ [x]) := by
  apply List.ext_getElem?
  intro i
  have hl : (L.take o).length = o := by rw [List.length_take]; omega
  simp only [splice, List.getElem?_set, List.length_append, List.getElem?_append, hl, List.length_drop, List.length_singleton, List.getElem?_drop, List.getElem?_take]
  by_cases h1 : o + cs.length = i
  · subst h1
    rw [if_pos rfl, if_pos (by omega), if_neg (by omega), if_pos (by omega), if_neg (by omega)]
    simp
  · rw [if_neg h1]
    by_cases h2 : i < o
    · simp [h2]
    · rw [if_neg h2, if_neg h2]
      by_cases h3 : i - o < cs.length
      · simp only [h3, if_true]
        rw [if_pos (by omega)]
      · rw [if_neg h3, if_neg (by omega)]
        congr 1
        omega
theorem shr_byte (v : Int) (k : Nat) : v / 2 ^ (8 * k) % 256 = byteAt v k := by
  unfold byteAt
  rw [Int.pow_mul]
  rfl
/-- the six parts of a record -/
def enc40 (x : S47) : List Int := le 8 (x.f0 % 18446744073709551616) ++ (le 8 (x.f1 % 18446744073709551616) ++ (le 4 (x.f2 % 4294967296) ++ (le 4 (x.f3 % 4294967296) ++ (le 8 (x.f4 % 18446744073709551616) ++ le 8 (x.f5 % 18446744073709551616)))))
theorem enc40_length (x : S47) : (enc40 x).length = 40 := by simp [enc40, le_length]
theorem le4_mod (v : Int) : le 4 (v % 18446744073709551616) = le 4 (v % 4294967296) := by
  simp only [le, List.range, List.range.loop, List.map, byteAt]
  have e0 : v % 18446744073709551616 / 256 ^ 0 % 256 = v % 4294967296 / 256 ^ 0 % 256 := by simp
  have e1 : v % 18446744073709551616 / 256 ^ 1 % 256 = v % 4294967296 / 256 ^ 1 % 256 := by simp; omega
  have e2 : v % 18446744073709551616 / 256 ^ 2 % 256 = v % 4294967296 / 256 ^ 2 % 256 := by simp; omega
  have e3 : v % 18446744073709551616 / 256 ^ 3 % 256 = v % 4294967296 / 256 ^ 3 % 256 := by simp; omega
  rw [e0, e1, e2, e3]
/-- may an event be recorded? -/
def fitB (n : Int) : Bool := decide (-2147483648 ≤ n) && decide (n ≤ 2147483647)
def recB (x : S47) : Bool := decide (0 ≤ x.f1) && decide (x.f1 < 9) && (fitB x.f2 && fitB x.f3)
end Go.Proofs.Ytepceelkfbjamaa
