/- Zig: light steps that are given whole: a struct loaded, two structs compared. -/
import Derived.Test.YtgeiafijibgdhaaZig
import Derived.Test.YtgeiafijibgdhaaNum
set_option linter.unusedVariables false
set_option linter.unusedSimpArgs false
namespace Go.Proofs.Ytgeiafijibgdhaa.Zig
open Go Go.Proofs Go.RowKit Fl Rely

section
variable {P : Program} {ops : Array Oper} {S : World → Prop} {Q : Exit → Act → World → Prop} {o : Oper} {rest : List (Bool × Oper)} {a : Act} {w : World}
theorem zig_light (hn : Nonempty (Lt S)) (hw : Region.wanted o (yielded ops a.tmps) = true) (v : Value) (hr : ∀ x : Lt S, (execOp a.eval o).run P x.1 = .ok (.value v) x.1) (h : zig P ops S Q rest (a.put o.dst v) w) : zig P ops S Q ((false, o) :: rest) a w := by
  refine zig_step fun K hK => ?_
  rw [if_pos hw]
  refine ⟨v, fun x => ?_, hK _ h⟩
  rw [hr x]
  exact ⟨rfl, rfl⟩
theorem zig_load [hn : Nonempty (Lt S)] {ty : TypeId} {x : Operand} {ad : Addr} {v : Value} (hl : ∀ y : Lt S, (loadVar ty ad).run P y.1 = .ok v y.1) (hw : Region.wanted o (yielded ops a.tmps) = true) (ho : o.op = .load ty x) (hx : a.eval x = .pointer (some ad)) (h : zig P ops S Q rest (a.put o.dst v) w) : zig P ops S Q ((false, o) :: rest) a w := by
  refine zig_light hn hw v (fun y => ?_) h
  unfold execOp
  simp only [ho, hx, Instr.loadAt, Instr.sureAddr, Sem.run_bind, Sem.run_pure, Result.andThen_ok, hl y]
theorem zig_bin [hn : Nonempty (Lt S)] {op : BinOp} {t t' : TypeId} {x y : Operand} {u v r : Value} (hg : ∀ a b w, (eqGuard op t a b u v).run P w = .ok () w) (he : ∀ w, (binOp op t u v).run P w = .ok r w) (hw : Region.wanted o (yielded ops a.tmps) = true) (ho : o.op = .binOp op t x y t') (hx : a.eval x = u) (hy : a.eval y = v) (h : zig P ops S Q rest (a.put o.dst r) w) : zig P ops S Q ((false, o) :: rest) a w := by
  refine zig_light hn hw r (fun z => ?_) h
  unfold execOp
  simp only [ho, hx, hy, Sem.run_bind, hg, he, Result.andThen_ok, Sem.run_pure]
end
end Go.Proofs.Ytgeiafijibgdhaa.Zig
