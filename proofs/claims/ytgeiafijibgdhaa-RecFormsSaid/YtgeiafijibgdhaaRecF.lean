/- The law RecForms. -/
import Derived.Test.YtgeiafijibgdhaaRecQ
set_option linter.unusedVariables false
set_option linter.unusedSimpArgs false
namespace Go.Proofs.Ytgeiafijibgdhaa.Cl
open Go Go.Proofs Go.RowKit Fl Rely

/-! ### slices of writes that the call makes -/
theorem flat_set {l : List Wr} (hl : ∀ x ∈ l, WrOk x) : ∀ (k : Nat) (hk : k < l.length) (n : Int), (l.flatMap wrC).set (k * 58) (.int .i64 n) = (l.set k (n, l[k].2)).flatMap wrC := by
  induction l with
  | nil => intro k hk; simp at hk
  | cons x l ih =>
    intro k hk n
    have hx : (wrC x).length = 58 := wrC_length (hl x (List.mem_cons_self ..))
    cases k with
    | zero =>
      rw [Nat.zero_mul, List.flatMap_cons, List.set_append_left _ _ (by omega)]
      rfl
    | succ k =>
      rw [List.flatMap_cons, List.set_append_right _ _ (by rw [hx, Nat.add_mul]; omega), hx, show (k + 1) * 58 - 58 = k * 58 by rw [Nat.add_mul]; omega, ih (fun y hy => hl y (List.mem_cons_of_mem _ hy)) k (by simpa using hk) n]
      rfl
theorem RdW.row {w : World} {g : Nat} {l : List Wr} (hl : ∀ x ∈ l, WrOk x) (h0 : l.length ≤ 1000) (h : RowAt w g 71 (l.flatMap wrC).toArray) : RdW w (.slice (some ⟨g, 0, none⟩) l.length l.length) l := by
  refine ⟨some ⟨g, 0, none⟩, l.length, rfl, Nat.le_refl _, by omega, fun j hj => ⟨⟨g, 0, none⟩, rfl, fun i u hu => ?_⟩, fun e => by cases e⟩
  have hi : i < 58 := by
    have := (List.getElem?_eq_some_iff.1 hu).1
    rwa [wrC_length (hl _ (List.getElem_mem hj))] at this
  rw [Addr.add_mid, Addr.add_mid, Nat.zero_add]
  refine RowAt.cell h _ u ?_
  rw [List.getElem?_toArray, flat_get (fun x hx => wrC_length (hl x hx)) j hj i hi]
  exact hu
theorem RdW.take {w : World} {a : Option Addr} {n c : Nat} {l : List Wr} (h : RdW w (.slice a n c) l) (k : Nat) (hk : k ≤ l.length) : RdW w (.slice a k c) (l.take k) := by
  obtain ⟨a', c', e, h1, h2, h3, h4⟩ := h
  simp only [Value.slice.injEq] at e
  obtain ⟨rfl, rfl, rfl⟩ := e
  refine ⟨a, c, by rw [List.length_take, Nat.min_eq_left hk], by rw [List.length_take]; omega, h2, fun j hj => ?_, h4⟩
  rw [List.length_take] at hj
  obtain ⟨ad, ha, hc⟩ := h3 j (by omega)
  rw [List.getElem_take]
  exact ⟨ad, ha, hc⟩
theorem made_wr (n : Nat) (x : Wr) (hx : WrOk x) : madeCells (wrC x).toArray (n * 58) = ((List.replicate n x).flatMap wrC).toArray := by
  have hl : ∀ y ∈ List.replicate n x, (wrC y).length = 58 := fun y hy => by
    rw [(List.mem_replicate.1 hy).2]
    exact wrC_length hx
  have hc : (wrC x).length = 58 := wrC_length hx
  apply Array.ext'
  apply List.ext_getElem?
  intro j
  by_cases hj : j < n * 58
  · have hd : j / 58 < n := Nat.div_lt_of_lt_mul (by omega)
    have hm : j % 58 < 58 := Nat.mod_lt _ (by decide)
    have e : j = j / 58 * 58 + j % 58 := by omega
    have h1 : ((List.replicate n x).flatMap wrC)[j]? = (wrC x)[j % 58]? := by
      have := flat_get hl (j / 58) (by simpa using hd) (j % 58) hm
      rw [← e, List.getElem_replicate] at this
      exact this
    show _ = ((List.replicate n x).flatMap wrC)[j]?
    rw [h1, Array.getElem?_toList]
    unfold madeCells
    rw [Array.getElem?_map, Array.getElem?_range, if_pos hj]
    simp only [Option.map_some, List.size_toArray, hc]
    rw [List.getElem!_toArray, List.getElem?_eq_getElem (by omega), getElem!_pos _ _ (by omega)]
  · rw [List.getElem?_eq_none (by simp [size_madeCells]; omega), List.getElem?_eq_none (by show ((List.replicate n x).flatMap wrC).length ≤ j; rw [flat_length hl, List.length_replicate]; omega)]
theorem wp_wr_make {o : Oper} {a : Act} {w : World} {K : Act → World → Prop} {Q : Exit → Act → World → Prop} {x y : Operand} (ho : o.op = .makeSlice 53 x y) (hx : a.eval x = .int .i64 13) (hy : a.eval y = .int .i64 13)
    (h : ∀ w', RowAt w' w.heap.size 71 ((List.replicate 13 ((0 : Int), (0 : Int), Z56)).flatMap wrC).toArray → Below w.heap.size w w' → w.heap.size < w'.heap.size → K (a.put o.dst (.slice (some ⟨w.heap.size, 0, none⟩) 13 13)) w') : o.wp Try.prog a w K Q := by
  obtain ⟨i, hi, hz, hs, hb⟩ := info_parts infoWr
  have hr := run_make (P := Try.prog) w 53 71 i _ Try.underlying53 hi hz .i64 .i64 13 13 (by decide) (by decide) (by rw [hb]; decide) (by decide)
  unfold Oper.wp execOp
  simp only [ho, Sem.run_bind, hx, hy, hr, Result.andThen_ok]
  refine h _ ?_ (below_new _ _) (by simp)
  have := RowAt.new w 71 (madeCells (wrC (0, 0, Z56)).toArray (13 * 58))
  rw [made_wr 13 (0, 0, Z56) Z56_length] at this
  have e : madeCells (wrV (0, 0, Z56)).cells ((13 : Int).toNat * i.size) = madeCells (wrC (0, 0, Z56)).toArray (13 * 58) := by rw [hs]; rfl
  rw [e, made_wr 13 (0, 0, Z56) Z56_length]
  exact this
theorem built_wr0 (n : Int) : Try.prog.built 71 [(0, .int .i64 n)] = some (wrC (n, 0, Z56)).toArray := by kernel_rfl
theorem built_wr1 (k : Int) : Try.prog.built 71 [(1, blkV k Z56)] = some (wrC (0, k, Z56)).toArray := by kernel_rfl
theorem wp_wr_build0 {K : Act → World → Prop} {Q : Exit → Act → World → Prop} {o : Oper} {a : Act} {w : World} {x : Operand} {n : Int} (hop : o.op = .build 71 #[(0, x)]) (hx : a.eval x = .int .i64 n)
    (h : K (a.put o.dst (wrV (n, 0, Z56))) w) : o.wp Try.prog a w K Q := by
  have e : (#[(0, x)].map fun (p : Nat × Operand) => (p.1, a.eval p.2)).toList = [(0, .int .i64 n)] := by simp [hx]
  refine wp_build _ _ hop (by rw [e, built_wr0]; rfl) ?_
  rw [e, built_wr0]
  exact h
theorem wp_wr_build1 {K : Act → World → Prop} {Q : Exit → Act → World → Prop} {o : Oper} {a : Act} {w : World} {x : Operand} {k : Int} (hop : o.op = .build 71 #[(1, x)]) (hx : a.eval x = blkV k Z56)
    (h : K (a.put o.dst (wrV (0, k, Z56))) w) : o.wp Try.prog a w K Q := by
  have e : (#[(1, x)].map fun (p : Nat × Operand) => (p.1, a.eval p.2)).toList = [(1, blkV k Z56)] := by simp [hx]
  refine wp_build _ _ hop (by rw [e, built_wr1]; rfl) ?_
  rw [e, built_wr1]
  exact h
theorem wp_wr_slice2 {o : Oper} {a : Act} {w : World} {K : Act → World → Prop} {Q : Exit → Act → World → Prop} {x x' : Operand} (y y' : Wr) (hy : WrOk y) (hy' : WrOk y') (ho : o.op = .buildSlice 53 2 #[(0, x), (1, x')]) (hx : a.eval x = wrV y) (hx' : a.eval x' = wrV y')
    (h : ∀ w', RdW w' (.slice (some ⟨w.heap.size, 0, none⟩) 2 2) [y, y'] → Below w.heap.size w w' → w.heap.size < w'.heap.size → K (a.put o.dst (.slice (some ⟨w.heap.size, 0, none⟩) 2 2)) w') : o.wp Try.prog a w K Q := by
  obtain ⟨i, hi, hz, hs, hb⟩ := info_parts infoWr
  refine wp_buildSlice (P := Try.prog) 53 71 2 _ ho (wrC y ++ wrC y').toArray i _ Try.underlying53 hi hz (by rw [hs]; decide) (by rw [hs]; decide) ?_ (h _ (RdW.row (l := [y, y']) (by simp [hy, hy']) (by simp) (by simpa using RowAt.new _ _ _)) (below_new _ _) (by simp))
  have e : ((#[(0, x), (1, x')] : Array (Nat × Operand)).map fun (p : Nat × Operand) => (p.1, a.eval p.2)).toList = (([wrV y, wrV y'] : List Value).zipIdx 0).map fun p => (p.2, p.1) := by simp [hx, hx']
  have h1 : ∀ v ∈ [wrV y, wrV y'], v.cells.size = 58 := fun v hv => by
    simp only [List.mem_cons, List.not_mem_nil, or_false] at hv
    rcases hv with rfl | rfl
    · simp only [wrV, Value.cells, List.size_toArray, wrC_length hy]
    · simp only [wrV, Value.cells, List.size_toArray, wrC_length hy']
  have := Great.fill_whole (s := 58) (by decide) [wrV y, wrV y'] ((Array.range (2 * i.size)).map (((wrV (0, 0, Z56)).cells)[· % (wrV (0, 0, Z56)).cells.size]!)) h1 (by simp [hs])
  rw [hs] at this ⊢
  rw [show (Array.map (fun x => match x with | (i, x) => (i, a.eval x)) #[(0, x), (1, x')]).toList = (([wrV y, wrV y'] : List Value).zipIdx 0).map fun p => (p.2, p.1) from e, this]
  simp [wrV, Value.cells]
end Go.Proofs.Ytgeiafijibgdhaa.Cl
