/- Arguments opened: a slice of slices of writes. -/
import Derived.Test.YtgeiafijibgdhaaOpen3
import Derived.Test.YtgeiafijibgdhaaRecW
set_option linter.unusedVariables false
set_option linter.unusedSimpArgs false
namespace Go.Proofs.Ytgeiafijibgdhaa.Cl
open Go Go.Proofs Go.RowKit Fl Go.ChangeShapes Go.WideShapes Go.Deep

theorem trod_writes {H : Type} {enc : TypeId × Value → H} {W : World} {base fuel : Nat} {spare : Nat → Bool} {held : Bool} {cs : List Value} {x : DataW H × List MemPlace} (hlen1 : cs.length = 1)
    (hf : DataW.trod enc Try.prog W base spare held fuel 53 cs = some x) : ∃ c, cs = [c] ∧ ∃ l : List Wr, RdW W c l ∧ ∀ x ∈ l, WrOk x := by
  have hC : Try.prog.cellsOf 71 = 58 := by kernel_rfl
  rcases open_slice Try.underlying53 hf with ⟨hcs, _⟩ | ⟨x, len', cap', m, n, D, Pl, hcs, _, hl, hm, hmm, _, hi⟩
  · subst hcs
    exact ⟨_, rfl, [], ⟨none, 0, rfl, Nat.le_refl _, by decide, fun j h => by simp at h, fun _ => rfl⟩, fun x hx => by cases hx⟩
  · subst hcs
    have each : ∀ i, i < len' → ∃ y : Wr, WrOk y ∧ ∀ j u, (wrC y)[j]? = some u → W.cell? ((x.add (i * 58)).add j) = some u := fun i h => by
      obtain ⟨cs', h1, h2⟩ := hi i (by rw [hmm]; split <;> omega)
      rw [hC] at h1
      obtain ⟨_, hlen, hcell⟩ := World.cells?_some h1
      obtain ⟨y, hy, rfl, _⟩ := wr_cells h2
      refine ⟨y, hy, fun j u hu => ?_⟩
      have hj := (List.getElem?_eq_some_iff.1 hu).1
      rw [hcell j (by omega)]
      exact hu
    obtain ⟨q, hq⟩ := choose_lt each
    have hql : ((List.range len').map q).length = len' := by simp
    refine ⟨_, rfl, (List.range len').map q, ⟨some x, cap', by rw [hql], by rw [hql]; exact hl, by unfold maxLen at hm; omega, fun j hj => ⟨x, rfl, fun i u hu => ?_⟩, fun e => by cases e⟩, fun y hy => ?_⟩
    · rw [hql] at hj
      rw [List.getElem_map, List.getElem_range] at hu
      exact (hq j hj).2 i u hu
    · obtain ⟨i, hi', rfl⟩ := List.mem_map.1 hy
      exact (hq i (List.mem_range.1 hi')).1
theorem rd_of_cells {w : World} {x : Addr} {cap : Nat} (sl : List Value) (h : ∀ j (hj : j < sl.length), w.cell? (x.add j) = some sl[j]) (h1 : sl.length ≤ cap) (h2 : cap ≤ 9223372036854775807) : Rd w (.slice (some x) sl.length cap) sl :=
  ⟨some x, cap, rfl, h1, h2, fun j hj => ⟨x, rfl, h j hj⟩, fun e => by cases e⟩
set_option maxRecDepth 100000 in
/-- a slice of slices of writes that came in -/
theorem open_writess {H : Type} {enc : TypeId × Value → H} {W : World} {v : Value} {d : DataW H} {ps : List MemPlace} {b0 : Nat}
    (hval : Value.okWide Try.prog W .any b0 72 v) (hd : DataW.Trod enc Try.prog W 0 (fun _ => true) true 72 v d ps) :
    ∃ ls : List (List Wr), RdWs W v ls ∧ ∀ l ∈ ls, ∀ x ∈ l, WrOk x := by
  obtain ⟨a, len, cap, rfl⟩ := WideShapes.okWide_slice Try.underlying72 hval
  obtain ⟨fuel, hf⟩ := hd
  have hC : Try.prog.cellsOf 53 = 1 := by kernel_rfl
  rcases open_slice Try.underlying72 hf with ⟨hcs, _⟩ | ⟨x, len', cap', m, n, D, Pl, hcs, _, hl, hm, hmm, _, hi⟩
  · simp [Value.cells] at hcs
    obtain ⟨rfl, rfl, rfl⟩ := hcs
    exact ⟨[], ⟨[], Rd.nil _, rfl, fun j h => by simp at h⟩, fun x hx => by cases hx⟩
  · simp [Value.cells] at hcs
    obtain ⟨rfl, rfl, rfl⟩ := hcs
    have each : ∀ i, i < len → ∃ y : Value × List Wr, W.cell? (x.add i) = some y.1 ∧ RdW W y.1 y.2 ∧ ∀ z ∈ y.2, WrOk z := fun i h => by
      obtain ⟨cs', h1, h2⟩ := hi i (by rw [hmm]; split <;> omega)
      rw [hC] at h1
      obtain ⟨_, hlen, hcell⟩ := World.cells?_some h1
      obtain ⟨c, rfl, l, hl1, hl2⟩ := trod_writes hlen h2
      refine ⟨(c, l), ?_, hl1, hl2⟩
      have := hcell 0 (by simp)
      rwa [Addr.add_zero', Nat.mul_one] at this
    obtain ⟨q, hq⟩ := choose_lt each
    have hql : ((List.range len).map fun i => (q i).1).length = len := by simp
    refine ⟨(List.range len).map fun i => (q i).2, ⟨(List.range len).map fun i => (q i).1, ?_, by simp, fun j hj hj' => ?_⟩, fun l hl' => ?_⟩
    · have := rd_of_cells (w := W) (x := x) (cap := cap) ((List.range len).map fun i => (q i).1) (fun j hj => by
        rw [hql] at hj
        rw [List.getElem_map, List.getElem_range]
        exact (hq j hj).1) (by rw [hql]; exact hl) (by unfold maxLen at hm; omega)
      rwa [hql] at this
    · rw [hql] at hj
      rw [List.getElem_map, List.getElem_map, List.getElem_range]
      exact (hq j hj).2.1
    · obtain ⟨i, hi', rfl⟩ := List.mem_map.1 hl'
      exact (hq i (List.mem_range.1 hi')).2.2
end Go.Proofs.Ytgeiafijibgdhaa.Cl
