/- Blocks (a kind and 56 bytes, 57 cells), as rows of whatever bytes: made, built, read, written whole and byte by byte, compared, handed back. -/
import Derived.Deep.MidRow
import Derived.Deep.WholeRow
import Derived.DeepKeys
import Derived.Great.Ranges
import Derived.Test.YtgeiafijibgdhaaNum
set_option linter.unusedVariables false
set_option linter.unusedSimpArgs false
namespace Go.Proofs.Ytgeiafijibgdhaa.Cl
open Go Go.Proofs Go.RowKit Fl

abbrev bc (k : Int) (b : List UInt8) : List Value := .int .i64 k :: bs b
def blkV (k : Int) (b : List UInt8) : Value := .agg (bc k b).toArray
def Z56 : List UInt8 := List.replicate 56 0
theorem Z56_length : Z56.length = 56 := by simp [Z56]
/-- block g of the heap holds this block -/
def BlkAt (w : World) (g : Nat) (k : Int) (b : List UInt8) : Prop := b.length = 56 ∧ w.heap[g]? = some (.cells (bc k b).toArray 28 (0, 0))

theorem infoBlk : (Try.prog.info? 28).map (fun i => (i.zero, i.size, i.bytes)) = some (some (blkV 0 Z56), 57, 64) := by kernel_rfl
theorem infoBlk_size : (Try.prog.info? 28).map (·.size) = some 57 := by kernel_rfl
theorem bc_size {k : Int} {b : List UInt8} (h : b.length = 56) : (bc k b).toArray.size = 57 := by simp [h]
theorem bc_one {k : Int} {b : List UInt8} : (bc k b).toArray.all (·.oneCell') = true := by
  rw [Array.all_eq_true_iff_forall_mem]
  intro v hv
  simp at hv
  rcases hv with rfl | ⟨x, _, rfl⟩ <;> rfl
theorem infoBlk_of {k : Int} {b : List UInt8} (h : b.length = 56) : (Try.prog.info? 28).map (·.size) = some (bc k b).toArray.size := by rw [bc_size h]; exact infoBlk_size

theorem BlkAt.lt {w : World} {g : Nat} {k : Int} {b : List UInt8} (h : BlkAt w g k b) : g < w.heap.size := (Array.getElem?_eq_some_iff.1 h.2).1
theorem BlkAt.below {w w1 : World} {g B : Nat} {k : Int} {b : List UInt8} (h : BlkAt w g k b) (hb : Below B w w1) (hg : g < B) : BlkAt w1 g k b := ⟨h.1, (hb.block g hg).trans h.2⟩
theorem BlkAt.later {w w1 : World} {g : Nat} {k : Int} {b : List UInt8} (h : BlkAt w g k b) (hb : Below w.heap.size w w1) : BlkAt w1 g k b := h.below hb h.lt
theorem BlkAt.grown {w w1 : World} {g g' : Nat} {k : Int} {b : List UInt8} (h : BlkAt w g k b) (hb : w.grownBy w1 (some g')) (hg : g ≠ g') : BlkAt w1 g k b := ⟨h.1, (hb.block g h.lt (fun e => hg (Option.some.inj e))).trans h.2⟩
theorem BlkAt.kind {w : World} {g : Nat} {k : Int} {b : List UInt8} (h : BlkAt w g k b) : w.cell? ⟨g, 0, none⟩ = some (.int .i64 k) := by rw [cell_of_row w g 0 _ _ _ h.2]; rfl
theorem BlkAt.byte {w : World} {g i : Nat} {k : Int} {b : List UInt8} (h : BlkAt w g k b) (hi : i < b.length) : w.cell? ⟨g, 1 + i, none⟩ = some (u8 b[i]) := by
  rw [cell_of_row w g (1 + i) _ _ _ h.2, Nat.add_comm 1 i]
  simp [hi]
theorem BlkAt.frozen {w : World} {g i : Nat} {k : Int} {b : List UInt8} (h : BlkAt w g k b) : w.frozen? ⟨g, i, none⟩ = false := by simp [World.frozen?, h.2]

/-! ### the operations -/
theorem cellsU8 : Try.prog.cellsOf 5 = 1 := by kernel_rfl
theorem blk_new (w : World) (k : Int) (b : List UInt8) (hb : b.length = 56) : BlkAt (w.alloc (.cells (bc k b).toArray 28)) w.heap.size k b := ⟨hb, heap_alloc_last w _⟩
theorem wp_blk_alloc {K : Act → World → Prop} {Q : Exit → Act → World → Prop} {o : Oper} {a : Act} {w : World} (hop : o.op = .alloc 28)
    (h : ∀ w', BlkAt w' w.heap.size 0 Z56 → Below w.heap.size w w' → w.heap.size < w'.heap.size → K (a.put o.dst (.pointer (some ⟨w.heap.size, 0, none⟩))) w') : o.wp Try.prog a w K Q := by
  obtain ⟨i, hi, hz, hs, hbt⟩ := info_parts infoBlk
  unfold Oper.wp execOp
  simp only [hop, Instr.alloc, zeroValue, Sem.run_bind, run_typeInfo w hi, Result.andThen_ok, hz, blkV, Value.cells, newVar, newRow, run_newObj_alloc, Sem.run_pure]
  exact h _ (blk_new w 0 Z56 Z56_length) (below_new _ _) (by simp)
theorem wp_blk_box {K : Act → World → Prop} {Q : Exit → Act → World → Prop} {o : Oper} {a : Act} {w : World} {x : Operand} {k : Int} {b : List UInt8} (hop : o.op = .box 28 x) (hx : a.eval x = blkV k b) (hb : b.length = 56)
    (h : ∀ w', BlkAt w' w.heap.size k b → Below w.heap.size w w' → w.heap.size < w'.heap.size → K (a.put o.dst (.pointer (some ⟨w.heap.size, 0, none⟩))) w') : o.wp Try.prog a w K Q := by
  unfold Oper.wp execOp
  simp only [hop, hx, blkV, Value.cells, Sem.run_bind, Instr.box, newVar, newRow, run_newObj_alloc, Sem.run_pure, Result.andThen_ok]
  exact h _ (blk_new w k b hb) (below_new _ _) (by simp)
theorem built_blk (k : Int) : Try.prog.built 28 [(0, .int .i64 k)] = some (bc k Z56).toArray := by kernel_rfl
theorem built_blk0 : Try.prog.built 28 [] = some (bc 0 Z56).toArray := by kernel_rfl
theorem wp_blk_build {K : Act → World → Prop} {Q : Exit → Act → World → Prop} {o : Oper} {a : Act} {w : World} {x : Operand} {k : Int} (hop : o.op = .build 28 #[(0, x)]) (hx : a.eval x = .int .i64 k)
    (h : K (a.put o.dst (blkV k Z56)) w) : o.wp Try.prog a w K Q := by
  have e : (#[(0, x)].map fun (p : Nat × Operand) => (p.1, a.eval p.2)).toList = [(0, .int .i64 k)] := by simp [hx]
  refine wp_build _ _ hop (by rw [e, built_blk]; rfl) ?_
  rw [e, built_blk]
  exact h
theorem wp_blk_build0 {K : Act → World → Prop} {Q : Exit → Act → World → Prop} {o : Oper} {a : Act} {w : World} (hop : o.op = .build 28 #[])
    (h : K (a.put o.dst (blkV 0 Z56)) w) : o.wp Try.prog a w K Q := by
  have e : ((#[] : Array (Nat × Operand)).map fun (p : Nat × Operand) => (p.1, a.eval p.2)).toList = [] := by simp
  refine wp_build _ _ hop (by rw [e, built_blk0]; rfl) ?_
  rw [e, built_blk0]
  exact h
theorem wp_blk_load {K : Act → World → Prop} {Q : Exit → Act → World → Prop} {o : Oper} {a : Act} {w : World} {x : Operand} {g : Nat} {k : Int} {b : List UInt8} (hop : o.op = .load 28 x) (hx : a.eval x = .pointer (some ⟨g, 0, none⟩)) (hB : BlkAt w g k b)
    (h : K (a.put o.dst (blkV k b)) w) : o.wp Try.prog a w K Q :=
  wp_load_row _ _ hop g hx _ _ _ _ hB.2 Try.underlying28 rfl (infoBlk_of hB.1) h
theorem heap_setRow_same {w : World} {g : Nat} {cur cells : Array Value} {t : TypeId} {fr : Nat × Nat} (h : w.heap[g]? = some (.cells cur t fr)) : (w.setRow g cells).heap[g]? = some (.cells cells t fr) := by
  simp only [World.setRow, Array.getElem?_modify, if_true, h]
  rfl
theorem grown_setRow (w : World) (g : Nat) (cells : Array Value) : w.grownBy (w.setRow g cells) (some g) :=
  ⟨rfl, rfl, rfl, by simp [World.setRow], fun i _ hi => by
    simp only [World.setRow, Array.getElem?_modify]
    rw [if_neg (fun e => hi (by rw [e]))]⟩
theorem wp_blk_store {K : Act → World → Prop} {Q : Exit → Act → World → Prop} {o : Oper} {a : Act} {w : World} {x y : Operand} {g : Nat} {k k0 : Int} {b b0 : List UInt8} (hop : o.op = .store 28 x y) (hx : a.eval x = .pointer (some ⟨g, 0, none⟩)) (hy : a.eval y = blkV k b) (hb : b.length = 56) (hB : BlkAt w g k0 b0)
    (h : ∀ w', BlkAt w' g k b → w.grownBy w' (some g) → w'.heap.size = w.heap.size → K (a.put o.dst undef) w') : o.wp Try.prog a w K Q :=
  wp_store_row _ _ _ hop g _ hx hy _ _ hB.2 (infoBlk_of hb) (by rw [bc_size hb, bc_size hB.1]) bc_one (h _ ⟨hb, heap_setRow_same hB.2⟩ (grown_setRow _ _ _) (by simp [World.setRow]))
theorem bc_set {k : Int} {b : List UInt8} {i : Nat} {c : UInt8} : (bc k b).toArray.setIfInBounds (1 + i) (u8 c) = (bc k (b.set i c)).toArray := by
  apply Array.ext'
  rw [Array.toList_setIfInBounds, Nat.add_comm 1 i]
  show List.set (.int .i64 k :: bs b) (i + 1) (u8 c) = .int .i64 k :: bs (b.set i c)
  rw [List.set_cons_succ, bs_set]
theorem wp_blk_byte {K : Act → World → Prop} {Q : Exit → Act → World → Prop} {o : Oper} {a : Act} {w : World} {x y : Operand} {g i off : Nat} {k : Int} {c : UInt8} {b : List UInt8} (hop : o.op = .store 5 x y) (hx : a.eval x = .pointer (some ⟨g, off, none⟩)) (hoff : off = 1 + i) (hi : i < 56) (hy : a.eval y = u8 c) (hB : BlkAt w g k b)
    (h : ∀ w', BlkAt w' g k (b.set i c) → w.grownBy w' (some g) → w'.heap.size = w.heap.size → K (a.put o.dst undef) w') : o.wp Try.prog a w K Q := by
  subst hoff
  have hc := hB.byte (i := i) (by rw [hB.1]; exact hi)
  have hf := hB.frozen (i := 1 + i)
  unfold Oper.wp execOp
  obtain ⟨j, hj, _, hjs, _⟩ := info_parts info5
  have hst : (storeCells ⟨g, 1 + i, none⟩ [u8 c] 0).run Try.prog w = .ok () (w.setCell ⟨g, 1 + i, none⟩ (u8 c)) := by
    have := run_storeCells_cells (P := Try.prog) g (1 + i) [u8 c] 0 w (fun j hj => by
      obtain rfl : j = 0 := by simpa using hj
      simp only [Nat.add_zero]
      rw [hc]
      rfl) (fun j hj => by
      obtain rfl : j = 0 := by simpa using hj
      simpa using hf) (fun v hv => by
      simp at hv
      subst hv
      rfl)
    simpa [World.setCells] using this
  have hsv : (storeVar 5 ⟨g, 1 + i, none⟩ (u8 c)).run Try.prog w = .ok () (w.setCell ⟨g, 1 + i, none⟩ (u8 c)) := by
    unfold storeVar
    rw [Sem.run_bind, run_sizeOf w hj, Result.andThen_ok, cellsU8]
    rw [if_neg (show ¬ (u8 c).cells.size ≠ 1 from by simp [Value.cells])]
    exact hst
  simp only [hop, hx, hy, Instr.storeAt, Instr.sureAddr, hsv, Sem.run_bind, Sem.run_pure, Result.andThen_ok]
  refine h _ ⟨by rw [List.length_set]; exact hB.1, ?_⟩ ?_ ?_
  · rw [setCell_eq_setRow w g (1 + i) _ _ _ _ hB.2, bc_set]
    exact heap_setRow_same hB.2
  · rw [setCell_eq_setRow w g (1 + i) _ _ _ _ hB.2]
    exact grown_setRow _ _ _
  · rw [setCell_eq_setRow w g (1 + i) _ _ _ _ hB.2]
    simp [World.setRow]

theorem BlkAt.setByte {w : World} {g : Nat} {k : Int} {b : List UInt8} (h : BlkAt w g k b) (i : Nat) (c : UInt8) (v : Value) (hv : v = u8 c) : BlkAt (w.setCell ⟨g, 1 + i, none⟩ v) g k (b.set i c) ∧ w.grownBy (w.setCell ⟨g, 1 + i, none⟩ v) (some g) ∧ (w.setCell ⟨g, 1 + i, none⟩ v).heap.size = w.heap.size := by
  subst hv
  rw [setCell_eq_setRow w g (1 + i) _ _ _ _ h.2, bc_set]
  exact ⟨⟨by rw [List.length_set]; exact h.1, heap_setRow_same h.2⟩, grown_setRow _ _ _, by simp [World.setRow]⟩

/-! ### two blocks, compared -/
theorem eqItems_bytes {P : Program} {e : TypeId} (hu : P.underlying e = some (.int .u8)) (hc : P.cellsOf e = 1) (d : Nat) (w : World) (x y : List UInt8) : ∀ (is : List Nat), (∀ i ∈ is, i < x.length ∧ i < y.length) →
    (Op.eqItems (d + 1) e (P.cellsOf e) (bs x).toArray (bs y).toArray is).run P w = .ok (is.all fun i => x[i]? == y[i]?) w
  | [], _ => by simp [Op.eqItems]
  | i :: is, h => by
    obtain ⟨h1, h2⟩ := h i (by simp)
    have hp : ∀ (z : List UInt8) (hz : i < z.length), (part e (bs z).toArray (i * 1)).run P w = .ok (u8 z[i]) w := by
      intro z hz
      have hagg : (isAgg e).run P w = .ok false w := by
        unfold isAgg
        rw [Sem.run_bind, run_underlying hu w]
        rfl
      unfold part
      simp [Sem.run_bind, hagg, Result.andThen, hz]
    have he := run_equalIn_int (P := P) w d e .u8 .u8 (x[i].toNat : Int) (y[i].toNat : Int) hu
    have ih := eqItems_bytes hu hc d w x y is (fun j hj => h j (by simp [hj]))
    rw [hc] at ih ⊢
    simp only [Op.eqItems, Sem.run_bind, hp x h1, hp y h2, he, Result.andThen_ok]
    have eb : ((x[i].toNat : Int) == (y[i].toNat : Int)) = (x[i]? == y[i]?) := by
      rw [List.getElem?_eq_getElem h1, List.getElem?_eq_getElem h2]
      by_cases hxy : x[i] = y[i]
      · rw [hxy]; simp
      · have : ¬ (x[i].toNat : Int) = (y[i].toNat : Int) := fun h => hxy (UInt8.toNat_inj.1 (by omega))
        rw [beq_eq_false_iff_ne.2 this]
        simp [hxy]
    rw [eb, List.all_cons]
    cases hq : (x[i]? == y[i]?)
    · simp
    · simp [ih]
theorem all_get {x y : List UInt8} (h : x.length = y.length) : ((List.range x.length).all fun i => x[i]? == y[i]?) = decide (x = y) := by
  rw [Bool.eq_iff_iff, List.all_eq_true, decide_eq_true_iff]
  constructor
  · intro ha
    apply List.ext_getElem?
    intro i
    by_cases hi : i < x.length
    · simpa using ha i (by simpa using hi)
    · rw [List.getElem?_eq_none (by omega), List.getElem?_eq_none (by omega)]
  · rintro rfl i _
    simp
theorem bc_body {z : Int} {y : List UInt8} (hy : y.length = 56) : (bc z y).toArray.extract 1 (1 + 56) = (bs y).toArray := by
  apply Array.ext'
  rw [Array.toList_extract]
  show List.take (1 + 56 - 1) (List.drop 1 (Value.int .i64 z :: bs y)) = bs y
  rw [List.drop_succ_cons, List.drop_zero, List.take_of_length_le (by rw [bs_length]; omega)]
theorem fieldsBlk : (Try.prog.fieldsOf 28).toList.map (fun f => (f.name != "_", f.type, f.offset)) = [(true, 3, 0), (true, 26, 1)] := by kernel_rfl
theorem stoodBlk : Try.prog.stoodInHeld 28 = false := by kernel_rfl
theorem underBlk : Try.prog.underlying 28 = some (.struct (Try.prog.fieldsOf 28)) := by kernel_rfl
theorem guardBlk : Try.prog.eqGuardType Try.prog.depth 28 = false := by kernel_rfl
theorem size56 : (Try.prog.info? 26).map (·.size) = some 56 := by kernel_rfl
theorem cells56 : Try.prog.cellsOf 26 = 56 := by kernel_rfl
theorem isAgg_of {P : Program} {t : TypeId} {d : TypeDesc} (hu : P.underlying t = some d) (w : World) : (isAgg t).run P w = .ok (match d with | .struct _ | .array _ _ => true | _ => false) w := by
  unfold isAgg
  rw [Sem.run_bind, run_underlying hu w]
  cases d <;> rfl
theorem part_cell {P : Program} {t : TypeId} {d : TypeDesc} (hu : P.underlying t = some d) (hd : (match d with | .struct _ | .array _ _ => true | _ => false) = false) (w : World) (cs : Array Value) (off : Nat) (v : Value) (hv : cs[off]? = some v) : (part t cs off).run P w = .ok v w := by
  unfold part
  rw [Sem.run_bind, isAgg_of hu w, hd]
  simp [Result.andThen, hv]
theorem part_row {P : Program} {t : TypeId} {d : TypeDesc} (hu : P.underlying t = some d) (hd : (match d with | .struct _ | .array _ _ => true | _ => false) = true) (n : Nat) (hn : ∀ w, (sizeOf t).run P w = .ok n w) (w : World) (cs : Array Value) (off : Nat) : (part t cs off).run P w = .ok (.agg (cs.extract off (off + n))) w := by
  unfold part
  rw [Sem.run_bind, isAgg_of hu w, hd]
  simp [Result.andThen, hn]
theorem sizeOf_56 (w : World) : (sizeOf 26).run Try.prog w = .ok 56 w := by
  obtain ⟨i, hi, hs⟩ := Option.map_eq_some_iff.1 size56
  rw [run_sizeOf w hi, cells56]
theorem eqFields_two {P : Program} (d : Nat) (w : World) (xs ys : Array Value) (f1 f2 : Field) (n1 : ¬ f1.name = "_") (n2 : ¬ f2.name = "_") (k k' : Int) (u u' : Value) (r : Bool)
    (p1 : (part f1.type xs f1.offset).run P w = .ok (.int .i64 k) w) (p2 : (part f1.type ys f1.offset).run P w = .ok (.int .i64 k') w) (p3 : (part f2.type xs f2.offset).run P w = .ok u w) (p4 : (part f2.type ys f2.offset).run P w = .ok u' w)
    (hI : (Op.equalIn d f1.type (.int .i64 k) (.int .i64 k')).run P w = .ok (k == k') w) (hA : (Op.equalIn d f2.type u u').run P w = .ok r w) :
    (Op.eqFields d xs ys [f1, f2]).run P w = .ok (decide (k = k') && r) w := by
  by_cases hk : k = k'
  · have e1 : (k == k') = true := beq_iff_eq.2 hk
    simp only [Op.eqFields, n1, n2, ne_eq, not_false_eq_true, if_true, Sem.run_bind, p1, p2, p3, p4, hA, hI, e1, Result.andThen_ok, Bool.not_true, Bool.false_eq_true, if_false]
    cases r <;> simp [hk]
  · have e1 : (k == k') = false := beq_eq_false_iff_ne.2 hk
    simp only [Op.eqFields, n1, n2, ne_eq, not_false_eq_true, if_true, Sem.run_bind, p1, p2, hI, e1, Result.andThen_ok, Bool.not_false, Sem.run_pure, hk, Bool.false_and, decide_false]
theorem run_eql_row (d : Nat) (w : World) (b b' : List UInt8) (hb : b.length = 56) (hb' : b'.length = 56) :
    (Op.equalIn (d + 1 + 1) 26 (.agg (bs b).toArray) (.agg (bs b').toArray)).run Try.prog w = .ok (decide (b = b')) w := by
  obtain ⟨j, hj, _, hjs, _⟩ := info_parts info5
  have hA := run_equalIn_array (P := Try.prog) w (d + 1) (bs b).toArray (bs b').toArray Try.underlying26 hj
  have hB := eqItems_bytes (P := Try.prog) Try.underlying5 cellsU8 d w b b' (List.range 56) (fun i hi => by simp at hi; omega)
  rw [hA, hB]
  have e : List.range 56 = List.range b.length := by rw [hb]
  rw [e, all_get (by omega)]
theorem run_eql_blk_d (d : Nat) (w : World) (k k' : Int) (b b' : List UInt8) (hb : b.length = 56) (hb' : b'.length = 56) :
    (Op.equalIn (d + 1 + 1 + 1) 28 (.agg (bc k b).toArray) (.agg (bc k' b').toArray)).run Try.prog w = .ok (decide (k = k') && decide (b = b')) w := by
  rw [run_equalIn_agg (P := Try.prog) w (d + 1 + 1) 28 _ _ underBlk stoodBlk]
  have hf := fieldsBlk
  generalize (Try.prog.fieldsOf 28).toList = fs at hf ⊢
  obtain _ | ⟨f1, _ | ⟨f2, _ | ⟨f3, fs⟩⟩⟩ := fs <;> simp only [List.map_nil, List.map_cons, List.cons.injEq, Prod.mk.injEq, reduceCtorEq, and_false, false_and, and_true, bne_iff_ne, ne_eq] at hf
  obtain ⟨⟨n1, t1, o1⟩, ⟨n2, t2, o2⟩⟩ := hf
  refine eqFields_two (d + 1 + 1) w _ _ f1 f2 n1 n2 k k' (.agg (bs b).toArray) (.agg (bs b').toArray) (decide (b = b')) ?_ ?_ ?_ ?_ ?_ ?_
  · rw [t1, o1]; exact part_cell Try.underlying3 rfl w _ 0 _ rfl
  · rw [t1, o1]; exact part_cell Try.underlying3 rfl w _ 0 _ rfl
  · rw [t2, o2, part_row Try.underlying26 rfl 56 sizeOf_56 w _ 1, bc_body hb]
  · rw [t2, o2, part_row Try.underlying26 rfl 56 sizeOf_56 w _ 1, bc_body hb']
  · rw [t1]; exact run_equalIn_int w (d + 1) _ _ _ _ _ Try.underlying3
  · rw [t2]; exact run_eql_row d w b b' hb hb'
theorem run_eql_blk (w : World) (k k' : Int) (b b' : List UInt8) (hb : b.length = 56) (hb' : b'.length = 56) :
    (Op.equalIn 10000 28 (blkV k b) (blkV k' b')).run Try.prog w = .ok (decide (k = k' ∧ b = b')) w := by
  unfold blkV
  rw [Bool.decide_and]
  exact run_eql_blk_d 9997 w k k' b b' hb hb'
theorem wp_blk_neq {K : Act → World → Prop} {Q : Exit → Act → World → Prop} {o : Oper} {a : Act} {w : World} {x y : Operand} {t : TypeId} {k k' : Int} {b b' : List UInt8} (hop : o.op = .binOp .neq 28 x y t) (hx : a.eval x = blkV k b) (hy : a.eval y = blkV k' b') (hb : b.length = 56) (hb' : b'.length = 56)
    (h : K (a.put o.dst (.bool (!decide (k = k' ∧ b = b')))) w) : o.wp Try.prog a w K Q := by
  have e := run_eql_blk w k k' b b' hb hb'
  unfold Oper.wp execOp
  unfold blkV at *
  simp only [hop, hx, hy, Sem.run_bind, run_eqGuard_agg (P := Try.prog) w .neq 28 x y _ _ guardBlk, run_neq_struct, e, Result.andThen_ok, Sem.run_pure]
  exact h
theorem wp_blk_eql {K : Act → World → Prop} {Q : Exit → Act → World → Prop} {o : Oper} {a : Act} {w : World} {x y : Operand} {t : TypeId} {k k' : Int} {b b' : List UInt8} (hop : o.op = .binOp .eql 28 x y t) (hx : a.eval x = blkV k b) (hy : a.eval y = blkV k' b') (hb : b.length = 56) (hb' : b'.length = 56)
    (h : K (a.put o.dst (.bool (decide (k = k' ∧ b = b')))) w) : o.wp Try.prog a w K Q := by
  have e := run_eql_blk w k k' b b' hb hb'
  unfold Oper.wp execOp
  unfold blkV at *
  simp only [hop, hx, hy, Sem.run_bind, run_eqGuard_agg (P := Try.prog) w .eql 28 x y _ _ guardBlk, run_eql_struct, e, Result.andThen_ok, Sem.run_pure]
  exact h

theorem wp_blk_neqR (r : Bool) {k k' : Int} {b b' : List UInt8} (hr : decide (k = k' ∧ b = b') = r) {K : Act → World → Prop} {Q : Exit → Act → World → Prop} {o : Oper} {a : Act} {w : World} {x y : Operand} {t : TypeId} (hop : o.op = .binOp .neq 28 x y t) (hx : a.eval x = blkV k b) (hy : a.eval y = blkV k' b') (hb : b.length = 56) (hb' : b'.length = 56)
    (h : K (a.put o.dst (.bool (!r))) w) : o.wp Try.prog a w K Q := by
  subst hr
  exact wp_blk_neq hop hx hy hb hb' h
theorem wp_blk_eqlR (r : Bool) {k k' : Int} {b b' : List UInt8} (hr : decide (k = k' ∧ b = b') = r) {K : Act → World → Prop} {Q : Exit → Act → World → Prop} {o : Oper} {a : Act} {w : World} {x y : Operand} {t : TypeId} (hop : o.op = .binOp .eql 28 x y t) (hx : a.eval x = blkV k b) (hy : a.eval y = blkV k' b') (hb : b.length = 56) (hb' : b'.length = 56)
    (h : K (a.put o.dst (.bool r)) w) : o.wp Try.prog a w K Q := by
  subst hr
  exact wp_blk_eql hop hx hy hb hb' h

/-! ### handed back -/
theorem run_blk_load {w : World} {g : Nat} {k : Int} {b : List UInt8} (hB : BlkAt w g k b) : (loadVar 28 ⟨g, 0, none⟩).run Try.prog w = .ok (blkV k b) w :=
  run_loadVar_row w g _ _ _ _ _ hB.2 Try.underlying28 rfl (infoBlk_of hB.1)
theorem results_blk {fn : Func} {p : Tmp} (h : fn.results = #[.cell p 28]) {tmps : Array Value} {w : World} {g : Nat} {k : Int} {b : List UInt8} (hp : tmps.getD p undef = .pointer (some ⟨g, 0, none⟩)) (hB : BlkAt w g k b) :
    (results fn tmps).run Try.prog w = .ok (blkV k b) w := by
  have hp' : tmps[p]?.getD undef = .pointer (some ⟨g, 0, none⟩) := by simpa using hp
  simp [results, h, hp', asAddr, run_blk_load hB]
theorem results_blk2 {fn : Func} {p q : Tmp} (h : fn.results = #[.cell p 28, .tmp q]) {tmps : Array Value} {w : World} {g : Nat} {k : Int} {b : List UInt8} {v : Value} (hp : tmps.getD p undef = .pointer (some ⟨g, 0, none⟩)) (hq : tmps.getD q undef = v) (hB : BlkAt w g k b) :
    (results fn tmps).run Try.prog w = .ok (.tuple #[blkV k b, v]) w := by
  have hp' : tmps[p]?.getD undef = .pointer (some ⟨g, 0, none⟩) := by simpa using hp
  have hq' : tmps[q]?.getD undef = v := by simpa using hq
  simp [results, h, hp', hq', asAddr, run_blk_load hB]
end Go.Proofs.Ytgeiafijibgdhaa.Cl
