/- Arguments opened: a slice of texts. -/
import Derived.Test.YtgeiafijibgdhaaOpen4
set_option linter.unusedVariables false
set_option linter.unusedSimpArgs false
namespace Go.Proofs.Ytgeiafijibgdhaa.Cl
open Go Go.Proofs Go.RowKit Fl Go.ChangeShapes Go.WideShapes Go.Deep

theorem trod_bytes1 {H : Type} {enc : TypeId × Value → H} {W : World} {base fuel : Nat} {held : Bool} {cs : List Value} {x : DataW H × List MemPlace}
    (hf : DataW.trod enc Try.prog W base (fun _ => true) held fuel 37 cs = some x) : ∃ c, cs = [c] ∧ ∃ l : List UInt8, Rd W c (bs l) := by
  rcases ChangeShapes.open_ints Try.underlying37 Try.underlying5 cellsU8 hf with ⟨hcs, _⟩ | ⟨x, l, c, zs, hcs, _, hl, hm, hz, _, hcell, hwz⟩
  · exact ⟨_, hcs, [], Rd.nil W⟩
  · obtain ⟨l', _, h⟩ := rd_of_row (w := W) (.inr ⟨x, rfl, hl, hm, by simpa using hz, hcell, hwz⟩)
    exact ⟨_, hcs, l', h⟩
set_option maxRecDepth 100000 in
/-- a slice of texts that came in -/
theorem open_texts {H : Type} {enc : TypeId × Value → H} {W : World} {v : Value} {d : DataW H} {ps : List MemPlace} {b0 : Nat}
    (hval : Value.okWide Try.prog W .any b0 54 v) (hd : DataW.Trod enc Try.prog W 0 (fun _ => true) true 54 v d ps) :
    ∃ L : List (List UInt8), RdL W v L := by
  obtain ⟨a, len, cap, rfl⟩ := WideShapes.okWide_slice Try.underlying54 hval
  obtain ⟨fuel, hf⟩ := hd
  have hC : Try.prog.cellsOf 37 = 1 := by kernel_rfl
  rcases open_slice Try.underlying54 hf with ⟨hcs, _⟩ | ⟨x, len', cap', m, n, D, Pl, hcs, _, hl, hm, hmm, _, hi⟩
  · simp [Value.cells] at hcs
    obtain ⟨rfl, rfl, rfl⟩ := hcs
    exact ⟨[], [], Rd.nil _, rfl, fun j h => by simp at h⟩
  · simp [Value.cells] at hcs
    obtain ⟨rfl, rfl, rfl⟩ := hcs
    have each : ∀ i, i < len → ∃ y : Value × List UInt8, W.cell? (x.add i) = some y.1 ∧ Rd W y.1 (bs y.2) := fun i h => by
      obtain ⟨cs', h1, h2⟩ := hi i (by rw [hmm]; split <;> omega)
      rw [hC] at h1
      obtain ⟨_, hlen, hcell⟩ := World.cells?_some h1
      obtain ⟨c, rfl, l, hl1⟩ := trod_bytes1 h2
      refine ⟨(c, l), ?_, hl1⟩
      have := hcell 0 (by simp)
      rwa [Addr.add_zero', Nat.mul_one] at this
    obtain ⟨q, hq⟩ := choose_lt each
    have hql : ((List.range len).map fun i => (q i).1).length = len := by simp
    refine ⟨(List.range len).map fun i => (q i).2, (List.range len).map fun i => (q i).1, ?_, by simp, fun j hj hj' => ?_⟩
    · have := rd_of_cells (w := W) (x := x) (cap := cap) ((List.range len).map fun i => (q i).1) (fun j hj => by
        rw [hql] at hj
        rw [List.getElem_map, List.getElem_range]
        exact (hq j hj).1) (by rw [hql]; exact hl) (by unfold maxLen at hm; omega)
      rwa [hql] at this
    · rw [hql] at hj
      rw [List.getElem_map, List.getElem_map, List.getElem_range]
      exact (hq j hj).2
end Go.Proofs.Ytgeiafijibgdhaa.Cl
