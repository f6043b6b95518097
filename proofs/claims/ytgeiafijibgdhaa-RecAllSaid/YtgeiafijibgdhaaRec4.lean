/- rec: Take. -/
import Derived.Test.YtgeiafijibgdhaaRec3
import Derived.Test.YtgeiafijibgdhaaScope3
import Derived.Laws.CopyRow
import Derived.Great.BuildSlice
set_option linter.unusedVariables false
set_option linter.unusedSimpArgs false
namespace Go.Proofs.Ytgeiafijibgdhaa.Cl
open Go Go.Proofs Go.RowKit Fl Rely

/-! ### a write's row, written in parts -/
theorem WrAt.setAt {w : World} {g : Nat} {x : Wr} (h : WrAt w g x) (n : Int) (v : Value) (hv : v = .int .i64 n) : WrAt (w.setCell ⟨g, 0, none⟩ v) g (n, x.2) ∧ w.grownBy (w.setCell ⟨g, 0, none⟩ v) (some g) ∧ (w.setCell ⟨g, 0, none⟩ v).heap.size = w.heap.size := by
  subst hv
  have := RowAt.set h 0 (.int .i64 n)
  have e : (wrC x).toArray.setIfInBounds 0 (.int .i64 n) = (wrC (n, x.2)).toArray := by
    apply Array.ext'
    simp [wrC]
  rwa [e] at this
theorem WrAt.setKind {w : World} {g : Nat} {x : Wr} (h : WrAt w g x) (n : Int) (v : Value) (hv : v = .int .i64 n) : WrAt (w.setCell ⟨g, 1, none⟩ v) g (x.1, n, x.2.2) ∧ w.grownBy (w.setCell ⟨g, 1, none⟩ v) (some g) ∧ (w.setCell ⟨g, 1, none⟩ v).heap.size = w.heap.size := by
  subst hv
  have := RowAt.set h 1 (.int .i64 n)
  have e : (wrC x).toArray.setIfInBounds 1 (.int .i64 n) = (wrC (x.1, n, x.2.2)).toArray := by
    apply Array.ext'
    simp [wrC]
  rwa [e] at this
/-- what copy makes of a body -/
def overB (b l : List UInt8) : List UInt8 := l.take 56 ++ b.drop l.length
theorem overB_length {b l : List UInt8} (h : b.length = 56) : (overB b l).length = 56 := by
  unfold overB
  rw [List.length_append, List.length_take, List.length_drop, h]
  omega
theorem run_copy_wr (ty : TypeId) (w : World) {g : Nat} {x : Wr} (hB : WrAt w g x) (hx : WrOk x) (v : Value) (l : List UInt8) (hv : Rd w v (bs l)) :
    ∃ n w', (Builtin.copy_ #[37, 37] ty #[.slice (some ⟨g, 2, none⟩) 56 56, v]).run Try.prog w = .ok (.int .i64 n) w' ∧ WrAt w' g (x.1, x.2.1, overB x.2.2 l) ∧ w.grownBy w' (some g) ∧ w'.heap.size = w.heap.size := by
  obtain ⟨i5, hi5, hz5, hs5, hb5⟩ := info_parts info5
  obtain ⟨a, cap, rfl, hc1, hc2, hcell, hnil⟩ := hv
  rw [bs_length] at *
  have hsz : (Try.prog.info? 5).map (·.size) = some 1 := by rw [hi5]; simp [hs5]
  have hb56 : x.2.2.length = 56 := hx
  cases a with
  | none =>
    have h0 : l.length = 0 := by have := hnil rfl; omega
    have hl0 : l = [] := List.eq_nil_of_length_eq_zero h0
    subst hl0
    refine ⟨0, w, ?_, ?_, ⟨rfl, rfl, rfl, Nat.le_refl _, fun _ _ _ => rfl⟩, rfl⟩
    · have := run_copy_none (P := Try.prog) w 37 37 ty 5 (some ⟨g, 2, none⟩) none 56 56 0 cap Try.underlying37 hsz (by simp)
      simpa [goInt] using this
    · have : overB x.2.2 [] = x.2.2 := by simp [overB]
      rw [this]; exact hB
  | some a =>
    have hlt : (l.take 56).length = Nat.min l.length 56 := by rw [List.length_take]; exact Nat.min_comm ..
    have hr := run_copy_row (P := Try.prog) w 37 37 ty 5 g 2 56 56 a l.length cap _ _ (bs (l.take 56)) Try.underlying37 hsz hB (by rw [bs_length]; exact hlt)
      (fun j v hj => by
        have hjl := (List.getElem?_eq_some_iff.1 hj).1
        rw [bs_length, List.length_take] at hjl
        obtain ⟨ad, e, hc⟩ := hcell j (by rw [bs_length]; omega)
        obtain rfl := Option.some.inj e
        rw [hc, ← hj]
        simp [List.getElem?_take, show j < 56 by omega, show j < l.length by omega]) (by rw [List.size_toArray, wrC_length hx, bs_length, List.length_take]; omega) (oneCell_bs _)
    rw [bs_length] at hr
    refine ⟨_, _, hr, ?_, setRow_grown _ _ _, by simp [World.setRow]⟩
    have e : ((wrC x).toArray.toList.take 2 ++ bs (l.take 56) ++ (wrC x).toArray.toList.drop (2 + (l.take 56).length)).toArray = (wrC (x.1, x.2.1, overB x.2.2 l)).toArray := by
      apply Array.ext'
      simp only [wrC, Nat.add_comm 2, List.take_succ_cons, List.take_zero, List.drop_succ_cons]
      have hd : x.2.2.drop (l.take 56).length = x.2.2.drop l.length := by
        rw [List.length_take]
        by_cases h : l.length ≤ 56
        · rw [Nat.min_eq_right h]
        · rw [Nat.min_eq_left (by omega), List.drop_of_length_le (by omega), List.drop_of_length_le (by omega)]
      simp [bs, List.map_drop, overB, ← hd]
    rw [e]
    exact setRow_same hB
theorem wp_copy_run {o : Oper} {a : Act} {w : World} {K : Act → World → Prop} {Q : Exit → Act → World → Prop} {d s : Operand} {t t' : TypeId} (ho : o.op = .call { callee := .builtin .copy, args := #[d, s], argTypes := #[t, t'] }) {v u : Value} (hd : a.eval d = v) (hs : a.eval s = u) {v' : Value} {w' : World}
    (hr : (Builtin.copy_ #[t, t'] o.type #[v, u]).run Try.prog w = .ok v' w') (h : K (a.put o.dst v') w') : o.wp Try.prog a w K Q := by
  unfold Oper.wp execOp
  simp only [ho, resolve, invoke, builtin, Sem.run_bind, Sem.run_pure, Result.andThen_ok, List.map_toArray, List.map_cons, List.map_nil, hd, hs, hr]
  exact h
theorem wp_copy_wr {o : Oper} {a : Act} {w : World} {K : Act → World → Prop} {Q : Exit → Act → World → Prop} {d s : Operand} {g : Nat} {x : Wr} (l : List UInt8) {u : Value} (hB : WrAt w g x) (hx : WrOk x) (hv : Rd w u (bs l))
    (ho : o.op = .call { callee := .builtin .copy, args := #[d, s], argTypes := #[37, 37] }) (hd : a.eval d = .slice (some ⟨g, 2, none⟩) 56 56) (hs : a.eval s = u)
    (h : ∀ n w', WrAt w' g (x.1, x.2.1, overB x.2.2 l) → w.grownBy w' (some g) → w'.heap.size = w.heap.size → K (a.put o.dst (.int .i64 n)) w') : o.wp Try.prog a w K Q := by
  obtain ⟨n, w', hr, h1, h2, h3⟩ := run_copy_wr o.type w hB hx u l hv
  exact wp_copy_run ho hd hs hr (h n w' h1 h2 h3)

theorem wp_wr_slice1 {o : Oper} {a : Act} {w : World} {K : Act → World → Prop} {Q : Exit → Act → World → Prop} {x : Operand} (y : Wr) (hy : WrOk y) (ho : o.op = .buildSlice 53 1 #[(0, x)]) (hx : a.eval x = wrV y)
    (h : ∀ w', WrAt w' w.heap.size y → Below w.heap.size w w' → w.heap.size < w'.heap.size → K (a.put o.dst (.slice (some ⟨w.heap.size, 0, none⟩) 1 1)) w') : o.wp Try.prog a w K Q := by
  obtain ⟨i, hi, hz, hs, hb⟩ := info_parts infoWr
  refine wp_buildSlice (P := Try.prog) 53 71 1 _ ho (wrC y).toArray i _ Try.underlying53 hi hz (by rw [hs]; decide) (by rw [hs]; decide) ?_ (h _ (RowAt.new _ _ _) (below_new _ _) (by simp))
  have e : ((#[(0, x)] : Array (Nat × Operand)).map fun (p : Nat × Operand) => (p.1, a.eval p.2)).toList = (([wrV y] : List Value).zipIdx 0).map fun p => (p.2, p.1) := by simp [hx]
  have h1 : ∀ v ∈ [wrV y], v.cells.size = 58 := fun v hv => by
    obtain rfl := List.mem_singleton.1 hv
    simp only [wrV, Value.cells, List.size_toArray, wrC_length hy]
  have := Great.fill_whole (s := 58) (by decide) [wrV y] ((Array.range (1 * i.size)).map (((wrV (0, 0, Z56)).cells)[· % (wrV (0, 0, Z56)).cells.size]!)) h1 (by simp [hs])
  rw [hs] at this ⊢
  rw [show (Array.map (fun x => match x with | (i, x) => (i, a.eval x)) #[(0, x)]).toList = (([wrV y] : List Value).zipIdx 0).map fun p => (p.2, p.1) from e, this]
  simp [wrV, Value.cells]

/-! ### the record that a log begins with -/
def headOf (L : List (List UInt8)) : List UInt8 := L[0]?.getD []
def manyR (L : List (List UInt8)) : Nat := ((headOf L)[10]?.getD 0).toNat
def readW (L : List (List UInt8)) (i : Nat) : Wr := ((num (((headOf L).drop (11 + 3 * i)).take 2) : Nat), (((headOf L)[13 + 3 * i]?.getD 0).toNat : Nat), overB Z56 (L[i + 1]?.getD []))
def readAll (L : List (List UInt8)) (m : Nat) : List Wr := (List.range m).map (readW L)
def fitR (L : List (List UInt8)) : Prop := 1 ≤ L.length ∧ (headOf L).length = 64 ∧ manyR L ≤ 12 ∧ manyR L + 1 ≤ L.length
def goodR (label : UInt8) (epoch seq : Nat) (L : List (List UInt8)) : Prop := fitR L ∧ okW (readAll L (manyR L)) ∧ recB label epoch seq (readAll L (manyR L)) = L.take (manyR L + 1)
theorem readW_ok (L : List (List UInt8)) (i : Nat) : WrOk (readW L i) := overB_length Z56_length
theorem readAll_length (L : List (List UInt8)) (m : Nat) : (readAll L m).length = m := by simp [readAll]
theorem readAll_ok (L : List (List UInt8)) (m : Nat) : ∀ x ∈ readAll L m, WrOk x := fun x hx => by
  obtain ⟨i, _, rfl⟩ := List.mem_map.1 hx
  exact readW_ok L i
theorem readAll_succ (L : List (List UInt8)) (k : Nat) : readAll L (k + 1) = readAll L k ++ [readW L k] := by simp [readAll, List.range_succ]
def TakeIs (label : UInt8) (epoch seq : Nat) (L : List (List UInt8)) (B : Nat) (e : Ending) (w' : World) : Prop :=
  (goodR label epoch seq L → ∃ u, e = .returned (.tuple #[u, .int .i64 ((manyR L : Int) + 1), .bool true]) ∧ w'.ownsRow B 71 58 u (manyR L) ((readAll L (manyR L)).flatMap wrC)) ∧
  (¬ goodR label epoch seq L → e = .returned (.tuple #[.slice none 0 0, .int .i64 0, .bool false]))
end Go.Proofs.Ytgeiafijibgdhaa.Cl
