/- append onto what the call owns: what it writes, where the new slice lies. -/
import Derived.Maps.AppendAt
import Derived.Test.YtibpipppabommaaNum
import Derived.Test.YtibpipppabommaaRow
set_option linter.unusedVariables false
set_option linter.unusedSimpArgs false
namespace Go.Proofs.Ytibpipppabommaa.Cl
open Go Go.Proofs Go.RowKit Fl

/-- from v in w to v' in w': nothing is written but v's own block, and v' lies there or in a new one -/
def Onto (w : World) (v : Value) (w' : World) (v' : Value) : Prop := w.grownBy w' v.ownBlock ∧ ∀ g, v'.ownBlock = some g → v.ownBlock = some g ∨ w.heap.size ≤ g
theorem Onto.refl (w : World) (v : Value) : Onto w v w v := ⟨World.grownBy.refl _ _, fun g h => .inl h⟩
theorem Onto.trans {w w1 w2 : World} {v v1 v2 : Value} (h : Onto w v w1 v1) (k : Onto w1 v1 w2 v2) : Onto w v w2 v2 := by
  obtain ⟨h1, h2⟩ := h
  obtain ⟨k1, k2⟩ := k
  refine ⟨⟨k1.os.trans h1.os, k1.tape.trans h1.tape, k1.output.trans h1.output, Nat.le_trans h1.size k1.size, fun i hi hn => ?_⟩, fun g hg => ?_⟩
  · rw [k1.block i (Nat.lt_of_lt_of_le hi h1.size) (fun e => by rcases h2 i e.symm with e | e; exact hn e.symm; omega)]
    exact h1.block i hi hn
  · rcases k2 g hg with e | e
    · exact h2 g e
    · exact .inr (Nat.le_trans h1.size e)
theorem Onto.size {w w' : World} {v v' : Value} (h : Onto w v w' v') : w.heap.size ≤ w'.heap.size := h.1.size
theorem Onto.below {w w' : World} {v v' : Value} {B : Nat} (h : Onto w v w' v') (hB : B ≤ w.heap.size) (hv : ∀ k, v.ownBlock = some k → B ≤ k) : Below B w w' := below_own (Below.refl B w) h.1 hB hv
theorem Onto.row {w w' : World} {v v' : Value} {g : Nat} {t : TypeId} {cs : Array Value} (h : Onto w v w' v') (hr : RowAt w g t cs) (hg : v.ownBlock ≠ some g) : RowAt w' g t cs := (h.1.block g hr.lt (fun e => hg e.symm)).trans hr
theorem Onto.cell {w w' : World} {v v' : Value} {g i : Nat} {u : Value} (h : Onto w v w' v') (hr : w.cell? ⟨g, i, none⟩ = some u) (hg : v.ownBlock ≠ some g) : w'.cell? ⟨g, i, none⟩ = some u := by
  have hlt := World.block_lt_of_cell? _ _ hr
  rw [← hr]
  simp only [World.cell?, h.1.block g hlt (fun e => hg e.symm)]
/-- what makes memory alone, then append -/
theorem Onto.after {w w1 w2 : World} {v v2 : Value} (hb : Below w.heap.size w w1) (k : Onto w1 v w2 v2) : Onto w v w2 v2 := by
  obtain ⟨k1, k2⟩ := k
  refine ⟨⟨k1.os.trans hb.os, k1.tape.trans hb.tape, k1.output.trans hb.output, Nat.le_trans hb.size k1.size, fun i hi hn => ?_⟩, fun g hg => ?_⟩
  · rw [k1.block i (Nat.lt_of_lt_of_le hi hb.size) hn]
    exact hb.block i hi
  · rcases k2 g hg with e | e
    · exact .inl e
    · exact .inr (Nat.le_trans hb.size e)
theorem own_lt {w : World} {base n e s : Nat} {v : Value} {xs : List Value} (h : w.ownsRow base e s v n xs) : ∀ k, v.ownBlock = some k → k < w.heap.size := fun k hk => (h.lt k hk).2
theorem own_ne {w : World} {base n e s : Nat} {v : Value} {xs : List Value} (h : w.ownsRow base e s v n xs) {g : Nat} (hg : w.heap.size ≤ g) : v.ownBlock ≠ some g := fun e => by have := own_lt h g e; omega

section
variable {P : Program}
theorem wp_append_run {w : World} {o : Oper} {a : Act} {K : Act → World → Prop} {Q : Exit → Act → World → Prop} {s x : Operand} {t t' : TypeId} (ho : o.op = .call { callee := .builtin .append, args := #[s, x], argTypes := #[t, t'] })
    {v u : Value} (hs : a.eval s = v) (hx : a.eval x = u) {v' : Value} {w' : World} (hr : (Builtin.append_ #[t, t'] o.type #[v, u]).run P w = .ok v' w') (h : K (a.put o.dst v') w') : o.wp P a w K Q := by
  unfold Oper.wp
  simp [execOp, ho, resolve, invoke, builtin, hs, hx, hr, Result.andThen]
  exact h
/-- 'append(s, x...)' of elements of so many cells, of which the new ones read as a list of cells -/
theorem wp_append_onto {w : World} {o : Oper} {a : Act} {K : Act → World → Prop} {Q : Exit → Act → World → Prop} (base : Nat) (e : TypeId) (i : TypeInfo) (z : Value) (size bytes : Nat) {s x : Operand} {t : TypeId}
    (ht : P.underlying t = some (.slice e)) (hi : P.info? e = some i) (hz : i.zero = some z) (hsize : i.size = size) (hby : i.bytes = bytes) (hzs : z.cells.size = size) (hsz : 0 < size)
    (v : Value) (n : Nat) (xs : List Value) (ad : Addr) (m c : Nat) (news : List Value) (hl : news.length = m * size) (h1 : ∀ u ∈ news, u.oneCell' = true) (h63 : n + m ≤ maxLen) (hbytes : (n + m) * bytes ≤ 140737488355328)
    (ho : o.op = .call { callee := .builtin .append, args := #[s, x], argTypes := #[t, t] }) (hs : a.eval s = v) (hx : a.eval x = .slice (some ad) m c)
    (hown : w.ownsRow base e size v n xs) (hnews : ∀ j u, news[j]? = some u → w.cell? (ad.add j) = some u) (hbase : base ≤ w.heap.size)
    (h : ∀ v' w', w'.ownsRow base e size v' (n + m) (xs ++ news) → Onto w v w' v' → K (a.put o.dst v') w') : o.wp P a w K Q := by
  obtain ⟨v', w', hr, r1, r2, _, r4⟩ := run_append_own_at (P := P) w base t o.type e i z size bytes ht hi hz hsize hby hzs hsz v n xs hown ad m c news hl hnews h1 h63 hbytes hbase
  refine wp_append_run ho hs hx hr (h v' w' r1 ⟨r2, fun g hg => ?_⟩)
  rcases r4 with e | e
  · exact .inl (e ▸ hg)
  · rw [e] at hg
    exact .inr (Nat.le_of_eq (Option.some.inj hg))
end

/-- 'append(s, x...)' of bytes -/
theorem wp_appO {w : World} {o : Oper} {a : Act} {K : Act → World → Prop} {Q : Exit → Act → World → Prop} (B : Nat) (v u : Value) (l l' : List UInt8) {s x : Operand} (hl : l.length + l'.length ≤ 1000000)
    (hown : OB w B v l) (hrd : Rd w u (bs l')) (hB : B ≤ w.heap.size)
    (ho : o.op = .call { callee := .builtin .append, args := #[s, x], argTypes := #[49, 49] })
    (hs : a.eval s = v) (hx : a.eval x = u)
    (h : ∀ v' w', OB w' B v' (l ++ l') → Onto w v w' v' → K (a.put o.dst v') w') : o.wp Try.prog a w K Q := by
  obtain ⟨i5, hi5, hz5, hs5, hb5⟩ := info_parts info5
  obtain ⟨ad, cap, rfl, g1, g2, g3, g4⟩ := hrd
  cases ad with
  | some ad =>
    refine wp_append_onto B 5 i5 (.int .u8 0) 1 1 Try.underlying49 hi5 hz5 hs5 hb5 rfl (by decide) v l.length (bs l) ad (bs l').length cap (bs l') (by simp) (oneCell_bs _) (by rw [bs_length]; unfold maxLen; omega) (by rw [bs_length]; omega) ho hs hx hown (fun j u hj => ?_) hB fun v' w' h1 h2 => ?_
    · have hjl := (List.getElem?_eq_some_iff.1 hj).1
      obtain ⟨ad', e', hc⟩ := g3 j hjl
      obtain rfl := Option.some.inj e'
      rw [hc, ← hj, List.getElem?_eq_getElem hjl]
    · exact h v' w' (OB.of_append h1) h2
  | none =>
    have hc0 := g4 rfl
    have hn0 : l' = [] := List.eq_nil_of_length_eq_zero (by rw [bs_length] at g1; omega)
    subst hn0
    subst hc0
    refine wp_append_run ho hs hx (run_append_owned_none (P := Try.prog) w B 49 o.type 5 i5 1 Try.underlying49 hi5 v l.length (bs l) hown) (h v w (by rw [List.append_nil]; exact hown) (Onto.refl _ _))
end Go.Proofs.Ytibpipppabommaa.Cl
