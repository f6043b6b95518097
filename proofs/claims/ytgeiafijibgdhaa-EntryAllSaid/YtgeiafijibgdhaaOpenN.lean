/- Arguments opened: a name of a folder. -/
import Derived.Test.YtgeiafijibgdhaaEnt2
import Derived.Lib.SmallJoins
import Derived.Deep.Strs
set_option linter.unusedVariables false
set_option linter.unusedSimpArgs false
namespace Go.Proofs.Ytgeiafijibgdhaa.Cl
open Go Go.Proofs Go.RowKit Fl Go.ChangeShapes Go.WideShapes

theorem okWide_struct {P : Program} {w : World} {r : Reach} {b0 : Nat} {t : TypeId} {fs : Array Field} {v : Value} (ht : P.underlying t = some (.struct fs)) (h : Value.okWide P w r b0 t v) : ∃ cs, v = .agg cs ∧ cs.size = P.cellsOf t := by
  simp only [Value.okWide, ht] at h
  obtain ⟨cs, h1, h2, _⟩ := h
  exact ⟨cs, h1, h2⟩
theorem list3 {l : List Value} {x y z : Value} (hl : l.length = 3) (h0 : (l.drop 0).take 1 = [x]) (h1 : (l.drop 1).take 1 = [y]) (h2 : (l.drop 2).take 1 = [z]) : l = [x, y, z] := by
  match l, hl with
  | [a, b, c], _ => simp at h0 h1 h2; rw [h0, h1, h2]
theorem list6 {l : List Value} {x0 x1 x2 x3 x4 x5 : Value} (hl : l.length = 6) (h0 : (l.drop 0).take 3 = [x0, x1, x2]) (h1 : (l.drop 3).take 1 = [x3]) (h2 : (l.drop 4).take 1 = [x4]) (h3 : (l.drop 5).take 1 = [x5]) : l = [x0, x1, x2, x3, x4, x5] := by
  match l, hl with
  | [a, b, c, d, e, f], _ =>
    simp at h0 h1 h2 h3
    obtain ⟨rfl, rfl, rfl⟩ := h0
    rw [h1, h2, h3]
theorem string_list (s : ByteArray) : Value.string s = str s.data.toList := by
  cases s
  simp [str]
set_option maxRecDepth 100000 in
/-- a name that came in; its string is as long as it likes -/
theorem open_name {H : Type} {enc : TypeId × Value → H} {W : World} {v : Value} {d : DataW H} {ps : List MemPlace} {b0 : Nat}
    (hval : Value.okWide Try.prog W .any b0 43 v) (hd : DataW.Trod enc Try.prog W 0 (fun _ => true) true 43 v d ps) :
    ∃ n : Nm, v = nmV n ∧ (n.s.length ≤ 1000000 → NmOk n) := by
  obtain ⟨⟨cs⟩, rfl, hsz⟩ := okWide_struct Try.underlying43 hval
  obtain ⟨fuel, hf⟩ := hd
  have hC : Try.prog.cellsOf 43 = 6 := by kernel_rfl
  have hD : Try.prog.cellsOf 41 = 3 := by kernel_rfl
  have hI : Try.prog.cellsOf 3 = 1 := by kernel_rfl
  have hU : Try.prog.cellsOf 22 = 1 := by kernel_rfl
  have hS : Try.prog.cellsOf 9 = 1 := by kernel_rfl
  obtain ⟨y0, y1, y2, y3, n, _, hl, h0, h1, h2, h3⟩ := Joins.trod_struct4 Try.underlying43 hf
  simp only [Value.cells] at hl h0 h1 h2 h3
  rw [hC] at hl
  rw [hD] at h0
  rw [hS] at h1
  rw [hI] at h2
  rw [hU] at h3
  obtain ⟨z0, z1, z2, m, _, hl3, g0, g1, g2⟩ := Deep.trod_struct3 Try.underlying41 h0
  rw [hD] at hl3
  rw [hI] at g0 g1
  rw [hU] at g2
  obtain ⟨a, ha, _, wa⟩ := DataW.trod_int Try.underlying3 g0
  obtain ⟨b, hb, _, wb⟩ := DataW.trod_int Try.underlying3 g1
  obtain ⟨c, hc, _, wc⟩ := DataW.trod_int Try.underlying22 g2
  obtain ⟨s, hs, _, ws⟩ := DataW.trod_string Try.underlying9 h1
  obtain ⟨p, hp, _, wp⟩ := DataW.trod_int Try.underlying3 h2
  obtain ⟨g, hg, _, wg⟩ := DataW.trod_int Try.underlying22 h3
  have e3 := list3 hl3 ha hb hc
  have e6 := list6 hl e3 hs hp hg
  subst e6
  obtain ⟨mc, rfl, hmc⟩ := wf_u32 wc
  obtain ⟨mg, rfl, hmg⟩ := wf_u32 wg
  refine ⟨⟨a, b, mc, s.data.toList, p, mg⟩, ?_, fun h => ⟨wf_i64 wa, wf_i64 wb, by dsimp only; omega, h, wf_i64 wp, by dsimp only; omega⟩⟩
  unfold nmV nmA
  rw [← string_list]
end Go.Proofs.Ytgeiafijibgdhaa.Cl
