/- copy into a block's body; its kind stored. -/
import Derived.Test.YtgeiafijibgdhaaBlk2
import Derived.Laws.CopyRow
import Derived.Laws.IdiomCopy
import Derived.Lib.AppendZeros
set_option linter.unusedVariables false
set_option linter.unusedSimpArgs false
namespace Go.Proofs.Ytgeiafijibgdhaa.Cl
open Go Go.Proofs Go.RowKit Fl

theorem BlkAt.setKind {w : World} {g : Nat} {k : Int} {b : List UInt8} (h : BlkAt w g k b) (k' : Int) (v : Value) (hv : v = .int .i64 k') : BlkAt (w.setCell ⟨g, 0, none⟩ v) g k' b ∧ w.grownBy (w.setCell ⟨g, 0, none⟩ v) (some g) ∧ (w.setCell ⟨g, 0, none⟩ v).heap.size = w.heap.size := by
  subst hv
  rw [setCell_eq_setRow w g 0 _ _ _ _ h.2]
  have : (bc k b).toArray.setIfInBounds 0 (.int .i64 k') = (bc k' b).toArray := by
    apply Array.ext'
    simp
  rw [this]
  exact ⟨⟨h.1, heap_setRow_same h.2⟩, grown_setRow _ _ _, by simp [World.setRow]⟩
theorem run_copy_body (ty : TypeId) (w : World) {g : Nat} {k : Int} {b : List UInt8} (hB : BlkAt w g k b) (v : Value) (l : List UInt8) (hv : Rd w v (bs l)) (hl : l.length ≤ 56) :
    ∃ w', (Builtin.copy_ #[37, 37] ty #[.slice (some ⟨g, 1, none⟩) 56 56, v]).run Try.prog w = .ok (.int .i64 (l.length : Int)) w' ∧ BlkAt w' g k (l ++ b.drop l.length) ∧ w.grownBy w' (some g) ∧ w'.heap.size = w.heap.size := by
  obtain ⟨i5, hi5, hz5, hs5, hb5⟩ := info_parts info5
  obtain ⟨a, cap, rfl, hc1, hc2, hcell, hnil⟩ := hv
  rw [bs_length] at *
  have hsz : (Try.prog.info? 5).map (·.size) = some 1 := by rw [hi5]; simp [hs5]
  have hb56 := hB.1
  cases a with
  | none =>
    have h0 : l.length = 0 := by have := hnil rfl; omega
    have hl0 : l = [] := List.eq_nil_of_length_eq_zero h0
    subst hl0
    refine ⟨w, ?_, by simpa using hB, ⟨rfl, rfl, rfl, Nat.le_refl _, fun _ _ _ => rfl⟩, rfl⟩
    have := run_copy_none (P := Try.prog) w 37 37 ty 5 (some ⟨g, 1, none⟩) none 56 56 0 cap Try.underlying37 hsz (by simp)
    simpa [goInt] using this
  | some a =>
    have hr := run_copy_row (P := Try.prog) w 37 37 ty 5 g 1 56 56 a l.length cap _ _ (bs l) Try.underlying37 hsz hB.2 (by rw [bs_length]; exact (Nat.min_eq_left hl).symm)
      (fun j v hj => by
        have hjl := (List.getElem?_eq_some_iff.1 hj).1
        obtain ⟨ad, e, hc⟩ := hcell j hjl
        obtain rfl := Option.some.inj e
        rw [hc, ← hj, List.getElem?_eq_getElem hjl]) (by rw [bc_size hb56, bs_length]; omega) (oneCell_bs _)
    rw [bs_length] at hr
    refine ⟨_, hr, ?_, grown_setRow _ _ _, by simp [World.setRow]⟩
    have e : ((bc k b).toArray.toList.take 1 ++ bs l ++ (bc k b).toArray.toList.drop (1 + l.length)).toArray = (bc k (l ++ b.drop l.length)).toArray := by
      apply Array.ext'
      simp only [Nat.add_comm 1, List.take_succ_cons, List.take_zero, List.drop_succ_cons]
      simp [bs, List.map_drop]
    rw [e]
    exact ⟨by simp; omega, heap_setRow_same hB.2⟩
theorem wpList_of_copy (w : World) {ops : Array Oper} {rest : List Oper} {o : Oper} {a : Act} {Q : Exit → Act → World → Prop} (hgd : o.guard = none) (d s : Operand) (t t' : TypeId)
    (ho : o.op = .call { callee := .builtin .copy, args := #[d, s], argTypes := #[t, t'] }) (v u : Value) (hd : a.eval d = v) (hs : a.eval s = u) {v' : Value} {w' : World}
    (hr : (Builtin.copy_ #[t, t'] o.type #[v, u]).run Try.prog w = .ok v' w') (h : wpList Try.prog ops Q rest (a.put o.dst v') w') : wpList Try.prog ops Q (o :: rest) a w := by
  refine wpList_plain hgd fun K hK => ?_
  unfold Oper.wp execOp
  simp only [ho, resolve, invoke, builtin, Sem.run_bind, Sem.run_pure, Result.andThen_ok, List.map_toArray, List.map_cons, List.map_nil, hd, hs, hr]
  exact hK _ _ h
theorem wpList_copy_body {w : World} {ops : Array Oper} {rest : List Oper} {o : Oper} {a : Act} {Q : Exit → Act → World → Prop} (g : Nat) (k : Int) (b l : List UInt8) (u v : Value) (hgd : o.guard = none) (d s : Operand)
    (ho : o.op = .call { callee := .builtin .copy, args := #[d, s], argTypes := #[37, 37] })
    (hd : a.eval d = u) (hs : a.eval s = v) (hu : u = .slice (some ⟨g, 1, none⟩) 56 56) (hB : BlkAt w g k b) (hv : Rd w v (bs l)) (hl : l.length ≤ 56)
    (h : ∀ w', BlkAt w' g k (l ++ b.drop l.length) → w.grownBy w' (some g) → w'.heap.size = w.heap.size → wpList Try.prog ops Q rest (a.put o.dst (.int .i64 (l.length : Int))) w') : wpList Try.prog ops Q (o :: rest) a w := by
  subst hu
  obtain ⟨w', hr, h1, h2, h3⟩ := run_copy_body o.type w hB v l hv hl
  exact wpList_of_copy w hgd d s _ _ ho _ _ hd hs hr (h w' h1 h2 h3)
end Go.Proofs.Ytgeiafijibgdhaa.Cl
