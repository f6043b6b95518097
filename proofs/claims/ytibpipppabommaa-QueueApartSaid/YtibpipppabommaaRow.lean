/- Variables that lie in a row of their own (structs, arrays): made, boxed, read and written whole. -/
import Derived.Deep.WholeRow
import Derived.DeepKeys
import Derived.Test.YtibpipppabommaaRelyX
import Derived.Test.YtibpipppabommaaBase
set_option linter.unusedVariables false
set_option linter.unusedSimpArgs false
namespace Go.Proofs.Ytibpipppabommaa.Cl
open Go Go.Proofs Go.RowKit

/-- block g of the heap is a row of these cells -/
def RowAt (w : World) (g : Nat) (t : TypeId) (cs : Array Value) : Prop := w.heap[g]? = some (.cells cs t (0, 0))
theorem RowAt.lt {w : World} {g : Nat} {t : TypeId} {cs : Array Value} (h : RowAt w g t cs) : g < w.heap.size := (Array.getElem?_eq_some_iff.1 h).1
theorem RowAt.below {w w1 : World} {g B : Nat} {t : TypeId} {cs : Array Value} (h : RowAt w g t cs) (hb : Below B w w1) (hg : g < B) : RowAt w1 g t cs := (hb.block g hg).trans h
theorem RowAt.later {w w1 : World} {g : Nat} {t : TypeId} {cs : Array Value} (h : RowAt w g t cs) (hb : Below w.heap.size w w1) : RowAt w1 g t cs := h.below hb h.lt
theorem RowAt.grown {w w1 : World} {g g' : Nat} {t : TypeId} {cs : Array Value} (h : RowAt w g t cs) (hb : w.grownBy w1 (some g')) (hg : g ≠ g') : RowAt w1 g t cs := (hb.block g h.lt (fun e => hg (Option.some.inj e))).trans h
theorem RowAt.drew {w : World} {g : Nat} {t : TypeId} {cs : Array Value} (h : RowAt w g t cs) : RowAt w.drew g t cs := h
theorem RowAt.cell {w : World} {g : Nat} {t : TypeId} {cs : Array Value} (h : RowAt w g t cs) (i : Nat) (v : Value) (hv : cs[i]? = some v) : w.cell? ⟨g, i, none⟩ = some v := by rw [cell_of_row w g i _ _ _ h, hv]
/-- a cell at each later world -/
theorem RowAt.at_ {w : World} {g : Nat} {t : TypeId} {cs : Array Value} (h : RowAt w g t cs) (i : Nat) (v : Value) (hv : cs[i]? = some v) (x : Rely.Lat w) : x.1.cell? ⟨g, i, none⟩ = some v := cell_later x.2 (h.cell i v hv)
theorem RowAt.frozen {w : World} {g i : Nat} {t : TypeId} {cs : Array Value} (h : RowAt w g t cs) : w.frozen? ⟨g, i, none⟩ = false := by
  have : w.heap[g]? = some (.cells cs t (0, 0)) := h
  simp [World.frozen?, this]
theorem RowAt.new (w : World) (t : TypeId) (cs : Array Value) : RowAt (w.alloc (.cells cs t)) w.heap.size t cs := heap_alloc_last w _
theorem setRow_same {w : World} {g : Nat} {cur cells : Array Value} {t : TypeId} {fr : Nat × Nat} (h : w.heap[g]? = some (.cells cur t fr)) : (w.setRow g cells).heap[g]? = some (.cells cells t fr) := by
  simp only [World.setRow, Array.getElem?_modify, if_true, h]
  rfl
theorem setRow_grown (w : World) (g : Nat) (cells : Array Value) : w.grownBy (w.setRow g cells) (some g) :=
  ⟨rfl, rfl, rfl, by simp [World.setRow], fun i _ hi => by
    simp only [World.setRow, Array.getElem?_modify]
    rw [if_neg (fun e => hi (by rw [e]))]⟩
theorem RowAt.set {w : World} {g : Nat} {t : TypeId} {cs : Array Value} (h : RowAt w g t cs) (i : Nat) (v : Value) : RowAt (w.setCell ⟨g, i, none⟩ v) g t (cs.setIfInBounds i v) ∧ w.grownBy (w.setCell ⟨g, i, none⟩ v) (some g) ∧ (w.setCell ⟨g, i, none⟩ v).heap.size = w.heap.size := by
  rw [setCell_eq_setRow w g i _ _ _ _ h]
  exact ⟨setRow_same h, setRow_grown _ _ _, by simp [World.setRow]⟩
/-- a write into a block of the call's own -/
theorem below_row {w w1 w2 : World} {B g : Nat} (h : Below B w w1) (hg : w1.grownBy w2 (some g)) (hB : B ≤ w1.heap.size) (hB2 : B ≤ g) : Below B w w2 :=
  h.grown hg hB (fun k hk => by cases hk; exact hB2)

section
variable {P : Program} {K : Act → World → Prop} {Q : Exit → Act → World → Prop} {o : Oper} {a : Act} {w : World}
theorem wp_rw_alloc {t : TypeId} (z : Value) (hinfo : (P.info? t).map (·.zero) = some (some z)) (hop : o.op = .alloc t)
    (h : ∀ w', RowAt w' w.heap.size t z.cells → Below w.heap.size w w' → w.heap.size < w'.heap.size → K (a.put o.dst (.pointer (some ⟨w.heap.size, 0, none⟩))) w') : o.wp P a w K Q := by
  obtain ⟨i, hi, hz⟩ := Option.map_eq_some_iff.1 hinfo
  unfold Oper.wp execOp
  simp only [hop, Instr.alloc, zeroValue, Sem.run_bind, run_typeInfo w hi, Result.andThen_ok, hz, newVar, newRow, run_newObj_alloc, Sem.run_pure]
  exact h _ (RowAt.new _ _ _) (below_new _ _) (by simp)
theorem wp_rw_box {t : TypeId} {x : Operand} (cs : Array Value) (hop : o.op = .box t x) (hx : a.eval x = .agg cs)
    (h : ∀ w', RowAt w' w.heap.size t cs → Below w.heap.size w w' → w.heap.size < w'.heap.size → K (a.put o.dst (.pointer (some ⟨w.heap.size, 0, none⟩))) w') : o.wp P a w K Q := by
  unfold Oper.wp execOp
  simp only [hop, hx, Value.cells, Sem.run_bind, Instr.box, newVar, newRow, run_newObj_alloc, Sem.run_pure, Result.andThen_ok]
  exact h _ (RowAt.new _ _ _) (below_new _ _) (by simp)
theorem wp_rw_store {ty : TypeId} {x y : Operand} {g : Nat} {t : TypeId} {old cs : Array Value} (hg : RowAt w g t old) (hi : (P.info? ty).map (·.size) = some cs.size) (hold : old.size = cs.size) (h1 : cs.all (·.oneCell') = true)
    (hop : o.op = .store ty x y) (hx : a.eval x = .pointer (some ⟨g, 0, none⟩)) (hy : a.eval y = .agg cs)
    (h : ∀ w', RowAt w' g t cs → w.grownBy w' (some g) → w'.heap.size = w.heap.size → K (a.put o.dst undef) w') : o.wp P a w K Q :=
  wp_store_row ty x y hop g cs hx hy t old hg hi hold h1 (h _ (setRow_same hg) (setRow_grown _ _ _) (by simp [World.setRow]))
theorem wp_rw_load {ty : TypeId} {x : Operand} {g : Nat} {t : TypeId} {cs : Array Value} {d : TypeDesc} (hg : RowAt w g t cs) (hu : P.underlying ty = some d) (hd : (match d with | .struct _ | .array _ _ => true | _ => false) = true) (hi : (P.info? ty).map (·.size) = some cs.size)
    (hop : o.op = .load ty x) (hx : a.eval x = .pointer (some ⟨g, 0, none⟩)) (h : K (a.put o.dst (.agg cs)) w) : o.wp P a w K Q :=
  wp_load_row ty x hop g hx t cs _ d hg hu hd hi h
theorem run_rw_load {ty t : TypeId} {g : Nat} {cs : Array Value} {d : TypeDesc} (hg : RowAt w g t cs) (hu : P.underlying ty = some d) (hd : (match d with | .struct _ | .array _ _ => true | _ => false) = true) (hi : (P.info? ty).map (·.size) = some cs.size) :
    (loadVar ty ⟨g, 0, none⟩).run P w = .ok (.agg cs) w := run_loadVar_row w g t ty cs _ d hg hu hd hi
end
end Go.Proofs.Ytibpipppabommaa.Cl
