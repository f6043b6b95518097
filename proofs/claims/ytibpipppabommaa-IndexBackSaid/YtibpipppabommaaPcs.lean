/- The pieces of bytes from o up to e, in blocks of 56: the plain law. -/
import Derived.Test.YtibpipppabommaaIdx
set_option linter.unusedVariables false
set_option linter.unusedSimpArgs false
namespace Go.Proofs.Ytibpipppabommaa.Cl
open Go Go.Proofs Go.RowKit

structure Pc where
  k : Nat
  f : Nat
  t : Nat
def Pc.cells (p : Pc) : List Value := [.int .i64 p.k, .int .i64 p.f, .int .i64 p.t]
def pc1 (o e k : Nat) : Pc := ⟨k, if k = o / 56 then o % 56 else 0, if k = (e - 1) / 56 then (e - 1) % 56 + 1 else 56⟩
def pcN (o e : Nat) : Nat := if o < e then (e - 1) / 56 + 1 - o / 56 else 0
def pcs (o e : Nat) : List Pc := (List.range (pcN o e)).map fun i => pc1 o e (o / 56 + i)
theorem pcs_length (o e : Nat) : (pcs o e).length = pcN o e := by simp [pcs]
theorem pcN_le {o e : Nat} (h : e ≤ 1120) : pcN o e ≤ 20 := by unfold pcN; split <;> omega
theorem pcs_self (o : Nat) : pcs o o = [] := by simp [pcs, pcN]
def pcCells (l : List Pc) : List Value := l.flatMap Pc.cells
theorem pcCells_snoc (l : List Pc) (p : Pc) : pcCells (l ++ [p]) = pcCells l ++ p.cells := by simp [pcCells]
theorem pcCells_length (l : List Pc) : (pcCells l).length = l.length * 3 := by
  induction l with
  | nil => rfl
  | cons p l ih =>
    unfold pcCells at *
    rw [List.flatMap_cons, List.length_append, ih, List.length_cons]
    simp [Pc.cells]
    omega
theorem pcCells_get (l : List Pc) (i : Nat) (hi : i < l.length) (j : Nat) (hj : j < 3) : (pcCells l)[i * 3 + j]? = l[i].cells[j]? := by
  induction l generalizing i with
  | nil => simp at hi
  | cons p l ih =>
    unfold pcCells at *
    rw [List.flatMap_cons]
    cases i with
    | zero => rw [Nat.zero_mul, Nat.zero_add, List.getElem?_append_left (by simp [Pc.cells]; omega)]; rfl
    | succ i =>
      rw [List.getElem?_append_right (by simp [Pc.cells]; omega), show (i + 1) * 3 + j - p.cells.length = i * 3 + j by simp [Pc.cells]; omega, ih i (by simpa using hi)]
      rfl
/-- one byte more, in a new block -/
theorem pcs_new {o e : Nat} (ho : o ≤ e) (h : e = o ∨ e / 56 ≠ (e - 1) / 56) : pcs o (e + 1) = pcs o e ++ [⟨e / 56, e % 56, e % 56 + 1⟩] := by
  have hn : pcN o (e + 1) = pcN o e + 1 := by
    unfold pcN
    rw [if_pos (by omega)]
    split <;> omega
  unfold pcs
  rw [hn, List.range_succ, List.map_append]
  congr 1
  · apply List.map_congr_left
    intro i hi
    have hi : i < pcN o e := List.mem_range.1 hi
    unfold pcN at hi
    split at hi
    · unfold pc1
      congr 1
      by_cases h1 : o / 56 + i = (e - 1) / 56
      · rw [if_pos h1, if_neg (by omega)]
        omega
      · rw [if_neg h1, if_neg (by omega)]
    · omega
  · rw [List.map_singleton]
    congr 1
    unfold pcN pc1
    split
    · simp only [Pc.mk.injEq]
      refine ⟨by omega, ?_, ?_⟩
      · rw [if_neg (by omega)]; omega
      · rw [if_pos (by omega)]; omega
    · obtain rfl : o = e := by omega
      simp only [Pc.mk.injEq]
      refine ⟨by omega, ?_, ?_⟩
      · rw [if_pos (by omega)]
      · rw [if_pos (by omega)]; omega
/-- one byte more, in the last block -/
theorem pcs_more {o e : Nat} (ho : o < e) (h : e / 56 = (e - 1) / 56) :
    ∃ init f, pcs o e = init ++ [⟨e / 56, f, e % 56⟩] ∧ pcs o (e + 1) = init ++ [⟨e / 56, f, e % 56 + 1⟩] := by
  have h0 : pcN o e = pcN o e - 1 + 1 := by unfold pcN; rw [if_pos ho]; omega
  have h1 : pcN o (e + 1) = pcN o e - 1 + 1 := by
    rw [← h0]
    unfold pcN
    rw [if_pos ho, if_pos (by omega)]
    omega
  have hm : o / 56 + (pcN o e - 1) = e / 56 := by unfold pcN; rw [if_pos ho]; omega
  refine ⟨(List.range (pcN o e - 1)).map fun i => pc1 o e (o / 56 + i), if e / 56 = o / 56 then o % 56 else 0, ?_, ?_⟩
  · unfold pcs
    rw [h0, List.range_succ, List.map_append, List.map_singleton, Nat.add_sub_cancel, hm]
    congr 2
    unfold pc1
    simp only [Pc.mk.injEq, true_and]
    rw [if_pos h]
    omega
  · unfold pcs
    rw [h1, List.range_succ, List.map_append, List.map_singleton, hm]
    congr 1
    · apply List.map_congr_left
      intro i hi
      have hi : i < pcN o e - 1 := List.mem_range.1 hi
      unfold pc1
      rw [if_neg (show ¬ o / 56 + i = (e - 1) / 56 by omega), if_neg (show ¬ o / 56 + i = (e + 1 - 1) / 56 by rw [Nat.add_sub_cancel]; omega)]
    · congr 1
      unfold pc1
      simp only [Pc.mk.injEq, true_and]
      rw [if_pos (by rw [Nat.add_sub_cancel]), Nat.add_sub_cancel]
/-- a whole block's part more -/
theorem pcs_part {o x e : Nat} (ho : o ≤ x) (hx : x = o ∨ x % 56 = 0) (hxe : x < e) (he : e ≤ (x / 56 + 1) * 56) : pcs o e = pcs o x ++ [⟨x / 56, x - x / 56 * 56, e - x / 56 * 56⟩] := by
  have hn : pcN o e = pcN o x + 1 := by
    unfold pcN
    rw [if_pos (by omega)]
    split <;> omega
  unfold pcs
  rw [hn, List.range_succ, List.map_append]
  congr 1
  · apply List.map_congr_left
    intro i hi
    have hi : i < pcN o x := List.mem_range.1 hi
    unfold pcN at hi
    split at hi
    · unfold pc1
      congr 1
      by_cases h1 : o / 56 + i = (x - 1) / 56
      · rw [if_pos h1, if_neg (by omega)]
        omega
      · rw [if_neg h1, if_neg (by omega)]
    · omega
  · rw [List.map_singleton]
    congr 1
    unfold pcN pc1
    split
    · simp only [Pc.mk.injEq]
      refine ⟨by omega, ?_, ?_⟩
      · rw [if_neg (by omega)]; omega
      · rw [if_pos (by omega)]; omega
    · obtain rfl : o = x := by omega
      simp only [Pc.mk.injEq]
      refine ⟨by omega, ?_, ?_⟩
      · rw [if_pos (by omega)]; omega
      · rw [if_pos (by omega)]; omega
end Go.Proofs.Ytibpipppabommaa.Cl
