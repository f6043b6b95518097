/- A block built of a kind and 56 bytes. -/
import Derived.Test.YtojebhpjllkdpaaBlkC
set_option linter.unusedVariables false
set_option linter.unusedSimpArgs false
namespace Go.Proofs.Ytojebhpjllkdpaa.Cl
open Go Go.Proofs Go.RowKit Fl

theorem fold_cells (off : Nat) : ∀ (vs : List Value) (j : Nat) (cs : List Value), off + j + vs.length ≤ cs.length →
    (vs.zipIdx j).foldl (fun (cs : Array Value) (p : Value × Nat) => cs.setIfInBounds (off + p.2) p.1) cs.toArray = (cs.take (off + j) ++ vs ++ cs.drop (off + j + vs.length)).toArray
  | [], j, cs, h => by simp
  | v :: vs, j, cs, h => by
    simp only [List.length_cons] at h
    rw [List.zipIdx_cons, List.foldl_cons]
    show List.foldl _ (cs.toArray.setIfInBounds (off + j) v) _ = _
    rw [List.setIfInBounds_toArray, fold_cells off vs (j + 1) (cs.set (off + j) v) (by rw [List.length_set]; omega)]
    congr 1
    have hj : off + j < cs.length := by omega
    rw [List.set_eq_take_append_cons_drop, if_pos hj]
    have e1 : (cs.take (off + j)).length = off + j := by simp; omega
    rw [List.take_append, List.drop_append, e1, show off + (j + 1) - (off + j) = 1 by omega, show off + (j + 1) + vs.length - (off + j) = 1 + vs.length by omega, List.take_take, Nat.min_eq_right (by omega), List.take_succ_cons, List.take_zero, Nat.add_comm 1, List.drop_succ_cons, List.drop_drop, List.drop_eq_nil_of_le (by simp; omega), List.nil_append]
    simp only [List.length_cons, List.append_assoc, List.cons_append, List.nil_append]
    congr 3
    congr 1
    omega
theorem fieldsPl : ((Try.prog.fieldsOf 62).toList.mapM fun f => (Try.prog.info? f.type).map fun i => (f.offset, i.size)) = some [(0, 1), (1, 56)] := by kernel_rfl
theorem built_blk2 (k : Int) (b : List UInt8) (hb : b.length = 56) : Try.prog.built 62 [(0, .int .i64 k), (1, .agg (bs b).toArray)] = some (bc k b).toArray := by
  have hi := infoBlk
  cases hq : Try.prog.info? 62 with
  | none => rw [hq] at hi; simp at hi
  | some i =>
    rw [hq] at hi
    simp only [Option.map_some, Option.some.injEq, Prod.mk.injEq] at hi
    have hf := fold_cells 1 (bs b) 0 (bc k Z56) (by simp [hb, Z56])
    have hz : (bc k Z56).take (1 + 0) ++ bs b ++ (bc k Z56).drop (1 + 0 + (bs b).length) = bc k b := by
      rw [bs_length, hb]
      simp [Z56]
    rw [hz] at hf
    unfold Program.built
    rw [hq, underBlk]
    simp only [hi.1, fieldsPl]
    have e0 : ((bc 0 Z56).toArray.setIfInBounds 0 (.int .i64 k)) = (bc k Z56).toArray := by
      apply Array.ext'
      simp
    have hsz : (bc 0 Z56).length = 57 := by simp [Z56]
    simp only [Instr.fill, blkV, Value.cells]
    simp [hb, Z56_length, e0]
    exact hf
theorem wp_blk_build2 {K : Act → World → Prop} {Q : Exit → Act → World → Prop} {o : Oper} {a : Act} {w : World} {x y : Operand} {k : Int} {b : List UInt8} (hop : o.op = .build 62 #[(0, x), (1, y)]) (hx : a.eval x = .int .i64 k) (hy : a.eval y = .agg (bs b).toArray) (hb : b.length = 56)
    (h : K (a.put o.dst (blkV k b)) w) : o.wp Try.prog a w K Q := by
  have e : (#[(0, x), (1, y)].map fun (p : Nat × Operand) => (p.1, a.eval p.2)).toList = [(0, .int .i64 k), (1, .agg (bs b).toArray)] := by simp [hx, hy]
  refine wp_build _ _ hop (by rw [e, built_blk2 k b hb]; rfl) ?_
  rw [e, built_blk2 k b hb]
  exact h
end Go.Proofs.Ytojebhpjllkdpaa.Cl
