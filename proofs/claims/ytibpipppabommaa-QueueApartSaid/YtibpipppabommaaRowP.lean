/- Parts of a row: read and written. -/
import Derived.Laws.CopyRow
import Derived.Deep.MidRow
import Derived.Test.YtibpipppabommaaRow
set_option linter.unusedVariables false
set_option linter.unusedSimpArgs false
namespace Go.Proofs.Ytibpipppabommaa.Cl
open Go Go.Proofs Go.RowKit

def patch (cs : Array Value) (o : Nat) (vs : List Value) : Array Value := (cs.toList.take o ++ vs ++ cs.toList.drop (o + vs.length)).toArray
theorem patch_size (cs : Array Value) (o : Nat) (vs : List Value) (h : o + vs.length ≤ cs.size) : (patch cs o vs).size = cs.size := by
  simp [patch]
  omega
theorem patch_one (cs : Array Value) (o : Nat) (v : Value) (h : o < cs.size) : patch cs o [v] = cs.setIfInBounds o v := by
  apply Array.ext'
  simp only [patch, List.length_cons, List.length_nil, Nat.zero_add, Array.toList_setIfInBounds]
  rw [List.set_eq_take_append_cons_drop, if_pos (by simpa using h)]
  simp
section
variable {P : Program} {K : Act → World → Prop} {Q : Exit → Act → World → Prop} {o : Oper} {a : Act} {w : World}
theorem run_load_atP (w : World) (ad : Addr) (ty : TypeId) (cs : List Value) (d : TypeDesc) (hc : ∀ i u, cs[i]? = some u → w.cell? (ad.add i) = some u) (hu : P.underlying ty = some d) (hd : d.isRow = true) (hi : (P.info? ty).map (·.size) = some cs.length) :
    (loadVar ty ad).run P w = .ok (.agg cs.toArray) w := by
  have hl : (loadCells ad cs.length).run P w = .ok cs.toArray w := run_loadCells_list (P := P) w ad cs hc
  cases hq : P.info? ty with
  | none => simp [hq] at hi
  | some i =>
    have hs : i.size = cs.length := by simpa [hq] using hi
    have hagg : (isAgg ty).run P w = .ok true w := by
      unfold isAgg
      rw [Sem.run_bind, run_underlying hu w]
      cases d <;> simp_all
    simp [loadVar, Sem.run_bind, hagg, sizeOf, typeInfo, hq, hs, hl]
theorem wp_load_atP {ty : TypeId} {x : Operand} (cs : List Value) {d : TypeDesc} (hu : P.underlying ty = some d) (hd : d.isRow = true) (hi : (P.info? ty).map (·.size) = some cs.length)
    {ad : Addr} (hc : ∀ i u, cs[i]? = some u → w.cell? (ad.add i) = some u) (ho : o.op = .load ty x) (hx : a.eval x = .pointer (some ad)) (h : K (a.put o.dst (.agg cs.toArray)) w) : o.wp P a w K Q := by
  unfold Oper.wp execOp
  simp only [ho, hx, Instr.loadAt, Instr.sureAddr, Sem.run_bind, Sem.run_pure, Result.andThen_ok, run_load_atP w ad ty cs d hc hu hd hi]
  exact h
theorem run_rw_storeP {ty t : TypeId} {g s : Nat} {cs : Array Value} {v : Value} (hg : RowAt w g t cs) (hi : (P.info? ty).map (·.size) = some v.cells.size) (hfit : s + v.cells.size ≤ cs.size) (h1 : ∀ u ∈ v.cells.toList, u.oneCell' = true) :
    ∃ w', (Instr.storeAt ty (.pointer (some ⟨g, s, none⟩)) v).run P w = .ok () w' ∧ RowAt w' g t (patch cs s v.cells.toList) ∧ w.grownBy w' (some g) ∧ w'.heap.size = w.heap.size := by
  refine ⟨w.setRow g (patch cs s v.cells.toList), ?_, setRow_same hg, setRow_grown _ _ _, by simp [World.setRow]⟩
  have hst := run_storeCells_at P g s t v.cells.toList 0 cs w hg (by simpa using hfit) h1
  simp only [Nat.add_zero] at hst
  cases hq : P.info? ty with
  | none => simp [hq] at hi
  | some i =>
    have hs : i.size = v.cells.size := by simpa [hq] using hi
    simp [Instr.storeAt, Instr.sureAddr, storeVar, sizeOf, typeInfo, hq, hs, hst, patch]
/-- a value stored into a part of a row -/
theorem wp_rw_storeP {ty : TypeId} {x y : Operand} {g s : Nat} {t : TypeId} {cs : Array Value} {v : Value} (hg : RowAt w g t cs) (hi : (P.info? ty).map (·.size) = some v.cells.size) (hfit : s + v.cells.size ≤ cs.size) (h1 : ∀ u ∈ v.cells.toList, u.oneCell' = true)
    (hop : o.op = .store ty x y) (hx : a.eval x = .pointer (some ⟨g, s, none⟩)) (hy : a.eval y = v)
    (h : ∀ w', RowAt w' g t (patch cs s v.cells.toList) → w.grownBy w' (some g) → w'.heap.size = w.heap.size → K (a.put o.dst undef) w') : o.wp P a w K Q := by
  obtain ⟨w', h2, h3, h4, h5⟩ := run_rw_storeP (P := P) hg hi hfit h1
  unfold Oper.wp execOp
  simp only [hop, hx, hy, Sem.run_bind, h2, Result.andThen_ok, Sem.run_pure]
  exact h w' h3 h4 h5
theorem wp_rw_loadP {ty : TypeId} {x : Operand} {g s : Nat} {t : TypeId} {cs : Array Value} (vs : List Value) {d : TypeDesc} (hg : RowAt w g t cs) (hu : P.underlying ty = some d) (hd : d.isRow = true) (hi : (P.info? ty).map (·.size) = some vs.length)
    (hv : ∀ i u, vs[i]? = some u → cs[s + i]? = some u) (hop : o.op = .load ty x) (hx : a.eval x = .pointer (some ⟨g, s, none⟩)) (h : K (a.put o.dst (.agg vs.toArray)) w) : o.wp P a w K Q :=
  wp_load_atP vs hu hd hi (fun i u hj => by rw [Addr.add_lit]; exact hg.cell _ _ (hv i u hj)) hop hx h
end
end Go.Proofs.Ytibpipppabommaa.Cl
