/- Maps in a walk: made, written; sets of texts. -/
import Derived.Carry
import Derived.Test.YtbagicjimfhmeaaMapK
import Derived.Test.YtbagicjimfhmeaaRow
set_option linter.unusedVariables false
set_option linter.unusedSimpArgs false
namespace Go.Proofs.Ytbagicjimfhmeaa.Cl
open Go Go.Proofs Go.RowKit

section
variable {P : Program} {K : Act → World → Prop} {Q : Exit → Act → World → Prop} {o : Oper} {a : Act} {w : World}
theorem wp_kmap_new {κ : Type} (kv : κ → Value) {t : TypeId} (hop : o.op = .makeMap t none)
    (h : ∀ w', MapK kv w' w.heap.size [] → Below w.heap.size w w' → w'.heap.size = w.heap.size + 1 → K (a.put o.dst (.map (some w.heap.size))) w') : o.wp P a w K Q := by
  unfold Oper.wp execOp
  simp only [hop, Option.map_none, Sem.run_bind, run_makeMap, Result.andThen_ok, Sem.run_pure]
  exact h _ (MapK.new w) (below_new _ _) (by simp)
theorem wp_kmap_put {κ : Type} [DecidableEq κ] {kv : κ → Value} {t k e : TypeId} {x y z : Operand} (ht : P.underlying t = some (.map k e)) (hk : KeyLaw P k kv) {r : Nat} {L : List (κ × Value)} {c : κ} {u : Value} (hm : MapK kv w r L)
    (hop : o.op = .mapUpdate t x y z ∨ o.op = .insert t x y z) (hx : a.eval x = .map (some r)) (hy : a.eval y = kv c) (hz : a.eval z = u)
    (h : ∀ w', MapK kv w' r (kput c u L) → w.grownBy w' (some r) → w'.heap.size = w.heap.size → K (a.put o.dst undef) w') : o.wp P a w K Q := by
  obtain ⟨w', h1, h2, h3, h4⟩ := run_mapUpdateK (P := P) ht hk hm c u
  have h0 := h w' h2 h3 h4
  unfold Oper.wp execOp
  rcases hop with hop | hop <;> simp only [hop, hx, hy, hz, Sem.run_bind, h1, Result.andThen_ok, Sem.run_pure] <;> exact h0
end

/-! ### sets of texts: the elements that were ever written are all true -/
def kt (b : List UInt8) : Value := .string ⟨b.toArray⟩
def SSet (w : World) (r : Nat) (S : List (List UInt8)) : Prop := ∃ L : List (List UInt8 × Value), MapK kt w r L ∧ ∀ x, kfind x L = if x ∈ S then some (.bool true) else none
theorem SSet.lt {w : World} {r : Nat} {S : List (List UInt8)} (h : SSet w r S) : r < w.heap.size := h.elim fun _ h => h.1.lt
theorem SSet.heap {w w1 : World} {r : Nat} {S : List (List UInt8)} (h : SSet w r S) (e : w1.heap[r]? = w.heap[r]?) : SSet w1 r S := h.elim fun L h => ⟨L, h.1.heap e, h.2⟩
theorem SSet.later {w w1 : World} {r : Nat} {S : List (List UInt8)} (h : SSet w r S) (hb : Below w.heap.size w w1) : SSet w1 r S := h.heap (hb.block r h.lt)
theorem SSet.grown {w w1 : World} {r g : Nat} {S : List (List UInt8)} (h : SSet w r S) (hb : w.grownBy w1 (some g)) (hr : r ≠ g) : SSet w1 r S := h.elim fun L h => ⟨L, h.1.grown hb hr, h.2⟩
theorem SSet.ne_cells {w : World} {r g : Nat} {S : List (List UInt8)} {cs : Array Value} {t : TypeId} {fr : Nat × Nat} (h : SSet w r S) (hg : w.heap[g]? = some (.cells cs t fr)) : r ≠ g := h.elim fun L h => h.1.ne_cells hg
theorem SSet.new {w : World} {r : Nat} (h : MapK kt w r []) : SSet w r [] := ⟨[], h, fun x => rfl⟩
theorem run_in_sset {P : Program} {t k e : TypeId} (ht : P.underlying t = some (.map k e)) (hk : P.underlying k = some .string) (hz : ∀ w, (zeroValue e).run P w = .ok (.bool false) w) {w : World} {r : Nat} {S : List (List UInt8)} (h : SSet w r S) (x : List UInt8) :
    (Instr.lookup t (.map (some r)) (.string ⟨x.toArray⟩) false).run P w = .ok (.bool (decide (x ∈ S))) w := by
  obtain ⟨L, h, hs⟩ := h
  have := run_lookupK ht (keyLaw_str hk) hz false h x
  rw [show (Value.string ⟨x.toArray⟩) = kt x from rfl]
  refine this.trans ?_
  rw [hs x]
  by_cases hx : x ∈ S <;> simp [hx]
theorem wp_sset_put {P : Program} {K : Act → World → Prop} {Q : Exit → Act → World → Prop} {o : Oper} {a : Act} {w : World} {t k e : TypeId} {x y z : Operand} (ht : P.underlying t = some (.map k e)) (hk : P.underlying k = some .string) {r : Nat} {S : List (List UInt8)} {c : List UInt8} (hm : SSet w r S)
    (hop : o.op = .mapUpdate t x y z ∨ o.op = .insert t x y z) (hx : a.eval x = .map (some r)) (hy : a.eval y = kt c) (hz : a.eval z = .bool true)
    (h : ∀ w', SSet w' r (c :: S) → w.grownBy w' (some r) → w'.heap.size = w.heap.size → K (a.put o.dst undef) w') : o.wp P a w K Q := by
  obtain ⟨L, hm, hs⟩ := hm
  refine wp_kmap_put ht (keyLaw_str hk) hm hop hx hy hz fun w' h1 h2 h3 => h w' ⟨_, h1, fun y => ?_⟩ h2 h3
  rw [kfind_kput, hs y]
  by_cases hxy : c = y
  · subst hxy; simp
  · rw [if_neg hxy]
    by_cases hy : y ∈ S
    · rw [if_pos hy, if_pos (List.mem_cons_of_mem _ hy)]
    · rw [if_neg hy, if_neg (by simp [hy]; exact fun e => hxy e.symm)]
end Go.Proofs.Ytbagicjimfhmeaa.Cl
