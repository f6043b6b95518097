/- Arguments opened: a node. -/
import Derived.Test.YtgeiafijibgdhaaNodC
import Derived.Lib.SmallJoins
import Derived.Laws.IdiomArrays
import Derived.Deep.Strs
set_option linter.unusedVariables false
set_option linter.unusedSimpArgs false
namespace Go.Proofs.Ytgeiafijibgdhaa.Cl
open Go Go.Proofs Go.RowKit Fl Go.ChangeShapes Go.WideShapes

theorem okWide_structN {P : Program} {w : World} {r : Reach} {b0 : Nat} {t : TypeId} {fs : Array Field} {v : Value} (ht : P.underlying t = some (.struct fs)) (h : Value.okWide P w r b0 t v) : ∃ cs, v = .agg cs ∧ cs.size = P.cellsOf t := by
  simp only [Value.okWide, ht] at h
  obtain ⟨cs, h1, h2, _⟩ := h
  exact ⟨cs, h1, h2⟩
theorem string_listN (s : ByteArray) : Value.string s = str s.data.toList := by
  cases s
  simp [str]
theorem list9 {l : List Value} (hl : l.length = 9) : ∃ c0 c1 c2 c3 c4 c5 c6 c7 c8, l = [c0, c1, c2, c3, c4, c5, c6, c7, c8] := by
  match l, hl with
  | [a, b, c, d, e, f, g, h, i], _ => exact ⟨a, b, c, d, e, f, g, h, i, rfl⟩
theorem trod_struct6N {H : Type} {enc : TypeId × Value → H} {P : Program} {w : World} {base : Nat} {spare : Nat → Bool} {held : Bool} {t : TypeId} {f0 f1 f2 f3 f4 f5 : Field} {fuel : Nat} {cs : List Value} {x : DataW H × List MemPlace} (ht : P.underlying t = some (.struct #[f0, f1, f2, f3, f4, f5])) (h : DataW.trod enc P w base spare held fuel t cs = some x) :
    ∃ y0 y1 y2 y3 y4 y5 n, cs.length = P.cellsOf t ∧ DataW.trod enc P w base spare held n f0.type ((cs.drop f0.offset).take (P.cellsOf f0.type)) = some y0 ∧ DataW.trod enc P w base spare held n f1.type ((cs.drop f1.offset).take (P.cellsOf f1.type)) = some y1 ∧ DataW.trod enc P w base spare held n f2.type ((cs.drop f2.offset).take (P.cellsOf f2.type)) = some y2 ∧
      DataW.trod enc P w base spare held n f3.type ((cs.drop f3.offset).take (P.cellsOf f3.type)) = some y3 ∧ DataW.trod enc P w base spare held n f4.type ((cs.drop f4.offset).take (P.cellsOf f4.type)) = some y4 ∧ DataW.trod enc P w base spare held n f5.type ((cs.drop f5.offset).take (P.cellsOf f5.type)) = some y5 := by
  obtain ⟨xs, n, _, rfl, hl, hlen, hf⟩ := DataW.trod_struct ht h
  match xs, hlen with
  | [y0, y1, y2, y3, y4, y5], _ => exact ⟨y0, y1, y2, y3, y4, y5, n, hl, by simpa using hf 0 f0 rfl, by simpa using hf 1 f1 rfl, by simpa using hf 2 f2 rfl, by simpa using hf 3 f3 rfl, by simpa using hf 4 f4 rfl, by simpa using hf 5 f5 rfl⟩
theorem cellsNd : Try.prog.cellsOf 25 = 9 := by kernel_rfl
theorem cells4 : Try.prog.cellsOf 23 = 4 := by kernel_rfl
theorem cellsU32 : Try.prog.cellsOf 22 = 1 := by kernel_rfl
theorem cellsStr : Try.prog.cellsOf 9 = 1 := by kernel_rfl
set_option maxRecDepth 100000 in
set_option maxHeartbeats 2000000 in
/-- a node that came in; its string is as long as it likes -/
theorem open_node {H : Type} {enc : TypeId × Value → H} {W : World} {v : Value} {d : DataW H} {ps : List MemPlace} {b0 : Nat}
    (hval : Value.okWide Try.prog W .any b0 25 v) (hd : DataW.Trod enc Try.prog W 0 (fun _ => true) true 25 v d ps) :
    ∃ n : Nd, v = ndV n ∧ (n.s.length ≤ 1000000 → NdOk n) := by
  obtain ⟨⟨cs⟩, rfl, hsz⟩ := okWide_structN Try.underlying25 hval
  obtain ⟨fuel, hf⟩ := hd
  obtain ⟨y0, y1, y2, y3, y4, y5, m, hl, g0, g1, g2, g3, g4, g5⟩ := trod_struct6N Try.underlying25 hf
  simp only [Value.cells] at hl g0 g1 g2 g3 g4 g5
  rw [cellsNd] at hl
  obtain ⟨c0, c1, c2, c3, c4, c5, c6, c7, c8, rfl⟩ := list9 hl
  rw [cellsU32] at g0
  rw [cellsInt] at g1 g2 g4
  rw [cells4] at g3
  rw [cellsStr] at g5
  simp only [List.drop_succ_cons, List.drop_zero, List.take_succ_cons, List.take_zero] at g0 g1 g2 g3 g4 g5
  obtain ⟨z0, z1, z2, z3, q, _, k0, k1, k2, k3⟩ := Go.ChangeShapes.trod_array4 under4 cellsInt g3
  obtain ⟨g, hg, _, wg⟩ := DataW.trod_int Try.underlying22 g0
  obtain ⟨k, hk, _, wk⟩ := DataW.trod_int Try.underlying3 g1
  obtain ⟨z, hz, _, wz⟩ := DataW.trod_int Try.underlying3 g2
  obtain ⟨e0, he0, _, w0⟩ := DataW.trod_int Try.underlying3 k0
  obtain ⟨e1, he1, _, w1⟩ := DataW.trod_int Try.underlying3 k1
  obtain ⟨e2, he2, _, w2⟩ := DataW.trod_int Try.underlying3 k2
  obtain ⟨e3, he3, _, w3⟩ := DataW.trod_int Try.underlying3 k3
  obtain ⟨x, hx, _, wx⟩ := DataW.trod_int Try.underlying3 g4
  obtain ⟨s, hs, _, ws⟩ := DataW.trod_string Try.underlying9 g5
  obtain ⟨mg, rfl, hmg⟩ := wf_u32 wg
  obtain rfl := List.singleton_inj.1 hg
  obtain rfl := List.singleton_inj.1 hk
  obtain rfl := List.singleton_inj.1 hz
  obtain rfl := List.singleton_inj.1 he0
  obtain rfl := List.singleton_inj.1 he1
  obtain rfl := List.singleton_inj.1 he2
  obtain rfl := List.singleton_inj.1 he3
  obtain rfl := List.singleton_inj.1 hx
  obtain rfl := List.singleton_inj.1 hs
  refine ⟨⟨mg, k, z, e0, e1, e2, e3, x, s.data.toList⟩, ?_, fun h => ⟨by dsimp only; omega, wf_i64 wk, wf_i64 wz, wf_i64 w0, wf_i64 w1, wf_i64 w2, wf_i64 w3, wf_i64 wx, h⟩⟩
  unfold ndV ndA
  rw [← string_listN]
end Go.Proofs.Ytgeiafijibgdhaa.Cl
