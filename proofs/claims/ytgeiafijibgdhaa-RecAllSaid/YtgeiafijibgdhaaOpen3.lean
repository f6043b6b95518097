/- Arguments opened: a slice of writes. -/
import Derived.Test.YtgeiafijibgdhaaWr
import Derived.Test.YtgeiafijibgdhaaOpen2
import Derived.Deep.Slices
import Derived.Deep.SlicePairs
set_option linter.unusedVariables false
set_option linter.unusedSimpArgs false
namespace Go.Proofs.Ytgeiafijibgdhaa.Cl
open Go Go.Proofs Go.RowKit Fl Go.ChangeShapes Go.WideShapes Go.Deep

section
variable {H : Type} {enc : TypeId × Value → H} {W : World} {base : Nat} {spare : Nat → Bool} {held : Bool}
set_option maxRecDepth 100000 in
theorem blk_cells {fuel : Nat} {cs : List Value} {x : DataW H × List MemPlace} (hf : DataW.trod enc Try.prog W base spare held fuel 28 cs = some x) :
    ∃ (k : Int) (b : List UInt8), b.length = 56 ∧ cs = bc k b ∧ (-9223372036854775808 ≤ k ∧ k ≤ 9223372036854775807) := by
  obtain ⟨y0, y1, n, _, hl, h0, h1⟩ := trod_struct2 Try.underlying28 hf
  have hC : Try.prog.cellsOf 28 = 57 := by kernel_rfl
  have hI : Try.prog.cellsOf 3 = 1 := by kernel_rfl
  rw [hC] at hl
  rw [hI] at h0
  rw [cells56] at h1
  obtain ⟨a, ha, _, wa⟩ := DataW.trod_int Try.underlying3 h0
  obtain ⟨xs, m, _, _, hl2, hxl, hall⟩ := DataW.trod_array Try.underlying26 h1
  obtain ⟨c, cs, rfl⟩ : ∃ c cs', cs = c :: cs' := by
    cases cs with
    | nil => simp at hl
    | cons c cs => exact ⟨c, cs, rfl⟩
  simp only [List.drop_zero, List.take_succ_cons, List.take_zero, List.cons.injEq, and_true] at ha
  subst ha
  have hcs : cs.length = 56 := by simpa using hl
  simp only [List.drop_succ_cons, List.drop_zero] at hall
  rw [List.take_of_length_le (by omega), cellsU8] at hall
  obtain ⟨l, rfl⟩ := u8_listB cs (fun i hi => by
    have h := hall i (by omega)
    rw [Nat.mul_one] at h
    have hx : xs[i]? = some xs[i] := by simp [show i < xs.length by omega]
    rw [hx] at h
    obtain ⟨z, hz, _, wz⟩ := DataW.trod_int Try.underlying5 h
    have h0 : ((cs.drop i).take 1)[0]? = some cs[i] := by simp [hi]
    rw [hz] at h0
    simp at h0
    obtain ⟨b, rfl⟩ := wf_u8 wz
    exact ⟨b, h0.symm⟩)
  exact ⟨a, l, by simpa using hcs, rfl, wf_i64 wa⟩
theorem wr_cells {fuel : Nat} {cs : List Value} {x : DataW H × List MemPlace} (hf : DataW.trod enc Try.prog W base spare held fuel 71 cs = some x) :
    ∃ y : Wr, WrOk y ∧ cs = wrC y ∧ (-9223372036854775808 ≤ y.1 ∧ y.1 ≤ 9223372036854775807) ∧ (-9223372036854775808 ≤ y.2.1 ∧ y.2.1 ≤ 9223372036854775807) := by
  obtain ⟨y0, y1, n, _, hl, h0, h1⟩ := trod_struct2 Try.underlying71 hf
  have hC : Try.prog.cellsOf 71 = 58 := by kernel_rfl
  have hB : Try.prog.cellsOf 28 = 57 := by kernel_rfl
  have hI : Try.prog.cellsOf 3 = 1 := by kernel_rfl
  rw [hC] at hl
  rw [hI] at h0
  rw [hB] at h1
  obtain ⟨a, ha, _, wa⟩ := DataW.trod_int Try.underlying3 h0
  obtain ⟨c, cs, rfl⟩ : ∃ c cs', cs = c :: cs' := by
    cases cs with
    | nil => simp at hl
    | cons c cs => exact ⟨c, cs, rfl⟩
  simp only [List.drop_zero, List.take_succ_cons, List.take_zero, List.cons.injEq, and_true] at ha
  subst ha
  have hcs : cs.length = 57 := by simpa using hl
  simp only [List.drop_succ_cons, List.drop_zero] at h1
  rw [List.take_of_length_le (by omega)] at h1
  obtain ⟨k, b, hb, rfl, wk⟩ := blk_cells h1
  exact ⟨(a, k, b), hb, rfl, wf_i64 wa, wk⟩
end
set_option maxRecDepth 100000 in
/-- a slice of writes that came in -/
theorem open_writes {H : Type} {enc : TypeId × Value → H} {W : World} {v : Value} {d : DataW H} {ps : List MemPlace} {b0 : Nat}
    (hval : Value.okWide Try.prog W .any b0 53 v) (hd : DataW.Trod enc Try.prog W 0 (fun _ => true) true 53 v d ps) :
    ∃ l : List Wr, RdW W v l ∧ ∀ x ∈ l, WrOk x := by
  obtain ⟨a, len, cap, rfl⟩ := WideShapes.okWide_slice Try.underlying53 hval
  obtain ⟨fuel, hf⟩ := hd
  have hC : Try.prog.cellsOf 71 = 58 := by kernel_rfl
  rcases open_slice Try.underlying53 hf with ⟨hcs, _⟩ | ⟨x, len', cap', m, n, D, Pl, hcs, _, hl, hm, hmm, _, hi⟩
  · simp [Value.cells] at hcs
    obtain ⟨rfl, rfl, rfl⟩ := hcs
    exact ⟨[], ⟨none, 0, rfl, Nat.le_refl _, by decide, fun j h => by simp at h, fun _ => rfl⟩, fun x hx => by cases hx⟩
  · simp [Value.cells] at hcs
    obtain ⟨rfl, rfl, rfl⟩ := hcs
    have each : ∀ i, i < len → ∃ y : Wr, WrOk y ∧ ∀ j u, (wrC y)[j]? = some u → W.cell? ((x.add (i * 58)).add j) = some u := fun i h => by
      obtain ⟨cs', h1, h2⟩ := hi i (by rw [hmm]; split <;> omega)
      rw [hC] at h1
      obtain ⟨_, hlen, hcell⟩ := World.cells?_some h1
      obtain ⟨y, hy, rfl, _⟩ := wr_cells h2
      refine ⟨y, hy, fun j u hu => ?_⟩
      have hj := (List.getElem?_eq_some_iff.1 hu).1
      rw [hcell j (by omega)]
      exact hu
    obtain ⟨q, hq⟩ := choose_lt each
    have hql : ((List.range len).map q).length = len := by simp
    refine ⟨(List.range len).map q, ⟨some x, cap, by rw [hql], by rw [hql]; exact hl, by unfold maxLen at hm; omega, fun j hj => ⟨x, rfl, fun i u hu => ?_⟩, fun e => by cases e⟩, fun y hy => ?_⟩
    · rw [hql] at hj
      rw [List.getElem_map, List.getElem_range] at hu
      exact (hq j hj).2 i u hu
    · obtain ⟨i, hi', rfl⟩ := List.mem_map.1 hy
      exact (hq i (List.mem_range.1 hi')).1
end Go.Proofs.Ytgeiafijibgdhaa.Cl
