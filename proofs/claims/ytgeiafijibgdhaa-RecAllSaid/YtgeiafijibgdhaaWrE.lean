/- api.Write: compared, built; an own slice of bytes with a byte stored. -/
import Derived.Test.YtgeiafijibgdhaaRec4
set_option linter.unusedVariables false
set_option linter.unusedSimpArgs false
namespace Go.Proofs.Ytgeiafijibgdhaa.Cl
open Go Go.Proofs Go.RowKit Fl Rely

theorem fieldsWr : (Try.prog.fieldsOf 71).toList.map (fun f => (f.name != "_", f.type, f.offset)) = [(true, 3, 0), (true, 28, 1)] := by kernel_rfl
theorem stoodWr : Try.prog.stoodInHeld 71 = false := by kernel_rfl
theorem underWr : Try.prog.underlying 71 = some (.struct (Try.prog.fieldsOf 71)) := by kernel_rfl
theorem guardWr : Try.prog.eqGuardType Try.prog.depth 71 = false := by kernel_rfl
theorem size57 : (Try.prog.info? 28).map (·.size) = some 57 := by kernel_rfl
theorem cells57 : Try.prog.cellsOf 28 = 57 := by kernel_rfl
theorem sizeOf_57 (w : World) : (sizeOf 28).run Try.prog w = .ok 57 w := by
  obtain ⟨i, hi, hs⟩ := Option.map_eq_some_iff.1 size57
  rw [run_sizeOf w hi, cells57]
theorem wr_block {x : Wr} (h : WrOk x) : (wrC x).toArray.extract 1 (1 + 57) = (bc x.2.1 x.2.2).toArray := by
  apply Array.ext'
  rw [Array.toList_extract]
  show List.take (1 + 57 - 1) (List.drop 1 (Value.int .i64 x.1 :: bc x.2.1 x.2.2)) = bc x.2.1 x.2.2
  have hl : (bc x.2.1 x.2.2).length = 57 := by
    have := wrC_length h
    simp only [wrC, List.length_cons] at this
    simpa using this
  rw [List.drop_succ_cons, List.drop_zero]
  exact List.take_of_length_le (by rw [hl]; decide)
theorem run_eql_wr_d (d : Nat) (w : World) (x y : Wr) (hx : WrOk x) (hy : WrOk y) :
    (Op.equalIn (d + 1 + 1 + 1 + 1) 71 (.agg (wrC x).toArray) (.agg (wrC y).toArray)).run Try.prog w = .ok (decide (x.1 = y.1) && (decide (x.2.1 = y.2.1) && decide (x.2.2 = y.2.2))) w := by
  rw [run_equalIn_agg (P := Try.prog) w (d + 1 + 1 + 1) 71 _ _ underWr stoodWr]
  have hf := fieldsWr
  generalize (Try.prog.fieldsOf 71).toList = fs at hf ⊢
  obtain _ | ⟨f1, _ | ⟨f2, _ | ⟨f3, fs⟩⟩⟩ := fs <;> simp only [List.map_nil, List.map_cons, List.cons.injEq, Prod.mk.injEq, reduceCtorEq, and_false, false_and, and_true, bne_iff_ne, ne_eq] at hf
  obtain ⟨⟨n1, t1, o1⟩, ⟨n2, t2, o2⟩⟩ := hf
  refine eqFields_two (d + 1 + 1 + 1) w _ _ f1 f2 n1 n2 x.1 y.1 (.agg (bc x.2.1 x.2.2).toArray) (.agg (bc y.2.1 y.2.2).toArray) (decide (x.2.1 = y.2.1) && decide (x.2.2 = y.2.2)) ?_ ?_ ?_ ?_ ?_ ?_
  · rw [t1, o1]; exact part_cell Try.underlying3 rfl w _ 0 _ rfl
  · rw [t1, o1]; exact part_cell Try.underlying3 rfl w _ 0 _ rfl
  · rw [t2, o2, part_row underBlk rfl 57 sizeOf_57 w _ 1, wr_block hx]
  · rw [t2, o2, part_row underBlk rfl 57 sizeOf_57 w _ 1, wr_block hy]
  · rw [t1]; exact run_equalIn_int w (d + 1 + 1) _ _ _ _ _ Try.underlying3
  · rw [t2]; exact run_eql_blk_d d w _ _ _ _ hx hy
theorem run_eql_wr (w : World) (x y : Wr) (hx : WrOk x) (hy : WrOk y) : (Op.equalIn 10000 71 (wrV x) (wrV y)).run Try.prog w = .ok (decide (x = y)) w := by
  have e : decide (x = y) = (decide (x.1 = y.1) && (decide (x.2.1 = y.2.1) && decide (x.2.2 = y.2.2))) := by
    rw [Bool.eq_iff_iff]
    simp only [decide_eq_true_eq, Bool.and_eq_true]
    exact ⟨fun h => by subst h; exact ⟨rfl, rfl, rfl⟩, fun ⟨a, b, c⟩ => by obtain ⟨x1, x2, x3⟩ := x; obtain ⟨y1, y2, y3⟩ := y; cases a; cases b; cases c; rfl⟩
  rw [e]
  exact run_eql_wr_d 9996 w x y hx hy
theorem eql_wr (x y : Wr) (hx : WrOk x) (hy : WrOk y) (w : World) : (binOp .eql 71 (wrV x) (wrV y)).run Try.prog w = .ok (.bool (decide (x = y))) w := by
  have e := run_eql_wr w x y hx hy
  unfold wrV at e ⊢
  rw [run_eql_struct, e]
  rfl
theorem neq_wr (x y : Wr) (hx : WrOk x) (hy : WrOk y) (w : World) : (binOp .neq 71 (wrV x) (wrV y)).run Try.prog w = .ok (.bool (!decide (x = y))) w := by
  have e := run_eql_wr w x y hx hy
  unfold wrV at e ⊢
  rw [run_neq_struct, e]
  rfl
theorem guard_wr (op : BinOp) (a b : Operand) (x y : Wr) (w : World) : (eqGuard op 71 a b (wrV x) (wrV y)).run Try.prog w = .ok () w := run_eqGuard_agg (P := Try.prog) w op _ a b _ _ guardWr
theorem load_wr {w : World} {ad : Addr} (x : Wr) (hx : WrOk x) (hc : ∀ i u, (wrC x)[i]? = some u → w.cell? (ad.add i) = some u) : (loadVar 71 ad).run Try.prog w = .ok (wrV x) w := run_load_at (P := Try.prog) w ad _ (wrC x) _ hc Try.underlying71 rfl (infoWr_of hx)
theorem built_wr (n k : Int) : Try.prog.built 71 [(0, .int .i64 n), (1, blkV k Z56)] = some (wrC (n, k, Z56)).toArray := by kernel_rfl
theorem wp_wr_build {K : Act → World → Prop} {Q : Exit → Act → World → Prop} {o : Oper} {a : Act} {w : World} {x y : Operand} {n k : Int} (hop : o.op = .build 71 #[(0, x), (1, y)]) (hx : a.eval x = .int .i64 n) (hy : a.eval y = blkV k Z56)
    (h : K (a.put o.dst (wrV (n, k, Z56))) w) : o.wp Try.prog a w K Q := by
  have e : (#[(0, x), (1, y)].map fun (p : Nat × Operand) => (p.1, a.eval p.2)).toList = [(0, .int .i64 n), (1, blkV k Z56)] := by simp [hx, hy]
  refine wp_build _ _ hop (by rw [e, built_wr]; rfl) ?_
  rw [e, built_wr]
  exact h

theorem OB.set {w : World} {B g n c : Nat} {l : List UInt8} (h : OB w B (.slice (some ⟨g, 0, none⟩) n c) l) (i : Nat) (hi : i < l.length) (x : UInt8) :
    w.cell? ⟨g, i, none⟩ = some (u8 l[i]) ∧ w.frozen? ⟨g, i, none⟩ = false ∧ OB (w.setCell ⟨g, i, none⟩ (u8 x)) B (.slice (some ⟨g, 0, none⟩) n c) (l.set i x) ∧ w.grownBy (w.setCell ⟨g, i, none⟩ (u8 x)) (some g) ∧ (w.setCell ⟨g, i, none⟩ (u8 x)).heap.size = w.heap.size := by
  obtain ⟨h1, h2⟩ := h
  rcases h2 with ⟨e, _⟩ | ⟨g', cap, cur, e, hb, hg, hnc, hcm, hcs, ht⟩
  · cases e
  · simp only [Value.slice.injEq, Option.some.injEq, Addr.mk.injEq, and_true] at e
    obtain ⟨rfl, rfl, rfl⟩ := e
    have hr : RowAt w g 5 cur := hg
    have hc : cur[i]? = some (u8 l[i]) := by
      have : (cur.toList.take (l.length * 1))[i]? = (bs l)[i]? := by rw [ht]
      rw [List.getElem?_take, if_pos (by omega)] at this
      rw [← Array.getElem?_toList, this]
      simp [bs, hi]
    obtain ⟨s1, s2, s3⟩ := RowAt.set hr i (u8 x)
    refine ⟨hr.cell i _ hc, hr.frozen, ⟨by simp [bs], Or.inr ⟨g, c, _, by rw [List.length_set], hb, s1, by rw [List.length_set]; exact hnc, hcm, by rw [Array.size_setIfInBounds]; exact hcs, ?_⟩⟩, s2, s3⟩
    rw [Array.toList_setIfInBounds, List.length_set, List.take_set, ht]
    simp [bs, List.map_set]
end Go.Proofs.Ytgeiafijibgdhaa.Cl
