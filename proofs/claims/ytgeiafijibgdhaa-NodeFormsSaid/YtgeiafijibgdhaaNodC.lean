/- node: nodes compared; plain laws. -/
import Derived.Test.YtgeiafijibgdhaaNodB
set_option linter.unusedVariables false
set_option linter.unusedSimpArgs false
namespace Go.Proofs.Ytgeiafijibgdhaa.Cl
open Go Go.Proofs Go.RowKit Fl Rely

theorem Nd.ext' {n m : Nd} (h : n.g = m.g ∧ n.k = m.k ∧ n.z = m.z ∧ n.d0 = m.d0 ∧ n.d1 = m.d1 ∧ n.d2 = m.d2 ∧ n.d3 = m.d3 ∧ n.x = m.x ∧ n.s = m.s) : n = m := by
  obtain ⟨g, k, z, d0, d1, d2, d3, x, s⟩ := n
  obtain ⟨g', k', z', d0', d1', d2', d3', x', s'⟩ := m
  obtain ⟨rfl, rfl, rfl, rfl, rfl, rfl, rfl, rfl, rfl⟩ := h
  rfl
instance (n m : Nd) : Decidable (n = m) := decidable_of_iff (n.g = m.g ∧ n.k = m.k ∧ n.z = m.z ∧ n.d0 = m.d0 ∧ n.d1 = m.d1 ∧ n.d2 = m.d2 ∧ n.d3 = m.d3 ∧ n.x = m.x ∧ n.s = m.s) ⟨Nd.ext', fun h => by subst h; exact ⟨rfl, rfl, rfl, rfl, rfl, rfl, rfl, rfl, rfl⟩⟩
theorem under4 : Try.prog.underlying 23 = some (.array 4 3) := by kernel_rfl
theorem cellsInt : Try.prog.cellsOf 3 = 1 := by kernel_rfl
theorem part_int (l : List Int) (i : Nat) (n : Int) (hi : l[i]? = some n) (w : World) : (Go.part 3 (l.map (Value.int .i64)).toArray (i * 1)).run Try.prog w = .ok (.int .i64 n) w :=
  part_cell (P := Try.prog) Try.underlying3 rfl w (l.map (Value.int .i64)).toArray (i * 1) (.int .i64 n) (by rw [Nat.mul_one]; simp [hi])
theorem eqItems_ints (d : Nat) (w : World) (x y : List Int) : ∀ (is : List Nat), (∀ i ∈ is, i < x.length ∧ i < y.length) →
    (Op.eqItems (d + 1) 3 (Try.prog.cellsOf 3) (x.map (Value.int .i64)).toArray (y.map (Value.int .i64)).toArray is).run Try.prog w = .ok (is.all fun i => x[i]? == y[i]?) w
  | [], _ => by simp [Op.eqItems]
  | i :: is, h => by
    obtain ⟨h1, h2⟩ := h i (by simp)
    have ih := eqItems_ints d w x y is (fun j hj => h j (by simp [hj]))
    rw [cellsInt] at ih ⊢
    have he := run_equalIn_int (P := Try.prog) w d 3 .i64 .i64 x[i] y[i] Try.underlying3
    simp only [Op.eqItems, Sem.run_bind, part_int x i x[i] (List.getElem?_eq_getElem h1), part_int y i y[i] (List.getElem?_eq_getElem h2), he, Result.andThen_ok]
    have eb : (x[i] == y[i]) = (x[i]? == y[i]?) := by
      rw [List.getElem?_eq_getElem h1, List.getElem?_eq_getElem h2]
      rfl
    rw [eb, List.all_cons]
    cases hq : (x[i]? == y[i]?)
    · simp
    · simp [ih]
theorem eq_arr4_d (e : Nat) (x y : List Int) (w : World) (hx : x.length = 4) (hy : y.length = 4) : (Op.equalIn (e + 1 + 1) 23 (.agg (x.map (Value.int .i64)).toArray) (.agg (y.map (Value.int .i64)).toArray)).run Try.prog w = .ok (decide (x = y)) w := by
  obtain ⟨j, hj, _, hjs, _⟩ := info_parts infoInt
  have hA := run_equalIn_array (P := Try.prog) w (e + 1) (x.map (Value.int .i64)).toArray (y.map (Value.int .i64)).toArray under4 hj
  have hB := eqItems_ints e w x y (List.range 4) (fun i hi => by simp at hi; omega)
  have hall : ((List.range 4).all fun i => x[i]? == y[i]?) = decide (x = y) := by
    rw [Bool.eq_iff_iff, List.all_eq_true, decide_eq_true_iff]
    constructor
    · intro ha
      apply List.ext_getElem?
      intro i
      by_cases hi : i < 4
      · simpa using ha i (by simpa using hi)
      · rw [List.getElem?_eq_none (by omega), List.getElem?_eq_none (by omega)]
    · rintro rfl i _
      simp
  rw [hA, hB, hall]
theorem eq_arr4 (a b c d a' b' c' d' : Int) (w : World) : (Op.equalIn 9999 23 (.agg #[.int .i64 a, .int .i64 b, .int .i64 c, .int .i64 d]) (.agg #[.int .i64 a', .int .i64 b', .int .i64 c', .int .i64 d'])).run Try.prog w = .ok (decide (a = a' ∧ b = b' ∧ c = c' ∧ d = d')) w := by
  have h := eq_arr4_d 9997 [a, b, c, d] [a', b', c', d'] w rfl rfl
  have e : decide ([a, b, c, d] = [a', b', c', d']) = decide (a = a' ∧ b = b' ∧ c = c' ∧ d = d') := decide_eq_decide.2 (by simp)
  rw [e] at h
  exact h
set_option maxRecDepth 100000 in
set_option maxHeartbeats 4000000 in
theorem eq_nd (r : Bool) (n m : Nd) (hr : decide (n = m) = r) (w : World) : (binOp .eql 25 (.agg (ndA n)) (.agg (ndA m))).run Try.prog w = .ok (.bool r) w := by
  subst hr
  obtain ⟨g, k, z, d0, d1, d2, d3, x, s⟩ := n
  obtain ⟨g', k', z', d0', d1', d2', d3', x', s'⟩ := m
  unfold ndA
  dsimp only
  have hA := eq_arr4
  have no : ∀ {n m : Nd}, ¬ n = m → decide (n = m) = false := fun h => decide_eq_false h
  by_cases h1 : g = g'
  · subst h1
    by_cases h2 : k = k'
    · subst h2
      by_cases h3 : z = z'
      · subst h3
        by_cases h4 : d0 = d0'
        · subst h4
          by_cases h5 : d1 = d1'
          · subst h5
            by_cases h6 : d2 = d2'
            · subst h6
              by_cases h7 : d3 = d3'
              · subst h7
                by_cases h8 : x = x'
                · subst h8
                  by_cases h9 : s = s'
                  · subst h9
                    rw [decide_eq_true rfl]
                    simp [go_sem, hA]
                  · rw [no fun h => h9 (congrArg Nd.s h)]; simp [go_sem, hA, h9]
                · rw [no fun h => h8 (congrArg Nd.x h)]; simp [go_sem, hA, h8]
              · rw [no fun h => h7 (congrArg Nd.d3 h)]; simp [go_sem, hA, h7]
            · rw [no fun h => h6 (congrArg Nd.d2 h)]; simp [go_sem, hA, h6]
          · rw [no fun h => h5 (congrArg Nd.d1 h)]; simp [go_sem, hA, h5]
        · rw [no fun h => h4 (congrArg Nd.d0 h)]; simp [go_sem, hA, h4]
      · rw [no fun h => h3 (congrArg Nd.z h)]; simp [go_sem, hA, h3]
    · rw [no fun h => h2 (congrArg Nd.k h)]; simp [go_sem, hA, h2]
  · rw [no fun h => h1 (congrArg Nd.g h)]; simp [go_sem, hA, h1]
end Go.Proofs.Ytgeiafijibgdhaa.Cl
