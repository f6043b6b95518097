/- Slices of structs that read as lists; writes (a place and a block), as such structs; lists of texts. -/
import Derived.Test.YtgeiafijibgdhaaBlk2
import Derived.Test.YtgeiafijibgdhaaOnto
set_option linter.unusedVariables false
set_option linter.unusedSimpArgs false
namespace Go.Proofs.Ytgeiafijibgdhaa.Cl
open Go Go.Proofs Go.RowKit Fl

/-! ### slices of elements of many cells -/
/-- v reads as these elements, each of sz cells -/
def RdS {α : Type} (c : α → List Value) (sz : Nat) (w : World) (v : Value) (xs : List α) : Prop :=
  ∃ a cap, v = .slice a xs.length cap ∧ xs.length ≤ cap ∧ cap ≤ 9223372036854775807 ∧ (∀ j (h : j < xs.length), ∃ ad, a = some ad ∧ ∀ i u, (c xs[j])[i]? = some u → w.cell? ((ad.add (j * sz)).add i) = some u) ∧ (a = none → cap = 0)
theorem RdS.below {α : Type} {c : α → List Value} {sz : Nat} {w w1 : World} {v : Value} {xs : List α} (h : RdS c sz w v xs) (hb : Below w.heap.size w w1) : RdS c sz w1 v xs := by
  obtain ⟨a, cap, rfl, h1, h2, h3, h4⟩ := h
  refine ⟨a, cap, rfl, h1, h2, fun j hj => ?_, h4⟩
  obtain ⟨ad, ha, hc⟩ := h3 j hj
  exact ⟨ad, ha, fun i u hu => cell_later hb (hc i u hu)⟩
theorem RdS.nil {α : Type} (c : α → List Value) (sz : Nat) (w : World) : RdS c sz w (.slice none 0 0) ([] : List α) := ⟨none, 0, rfl, Nat.le_refl _, by decide, fun j h => by simp at h, fun _ => rfl⟩
theorem RdS.drew {α : Type} {c : α → List Value} {sz : Nat} {w : World} {v : Value} {xs : List α} (h : RdS c sz w v xs) : RdS c sz w.drew v xs := h
theorem flat_length {α : Type} {c : α → List Value} {sz : Nat} : ∀ {xs : List α}, (∀ x ∈ xs, (c x).length = sz) → (xs.flatMap c).length = xs.length * sz
  | [], _ => by simp
  | x :: xs, h => by
    rw [List.flatMap_cons, List.length_append, flat_length (fun y hy => h y (List.mem_cons_of_mem _ hy)), h x (List.mem_cons_self ..), List.length_cons, Nat.add_mul, Nat.one_mul, Nat.add_comm]
theorem flat_get {α : Type} {c : α → List Value} {sz : Nat} : ∀ {xs : List α} (hx : ∀ x ∈ xs, (c x).length = sz) (j : Nat) (hj : j < xs.length) (i : Nat), i < sz → (xs.flatMap c)[j * sz + i]? = (c xs[j])[i]?
  | [], _, j, hj, _, _ => by simp at hj
  | x :: xs, h, 0, _, i, hi => by
    rw [List.flatMap_cons, Nat.zero_mul, Nat.zero_add, List.getElem?_append_left (by rw [h x (List.mem_cons_self ..)]; exact hi)]
    rfl
  | x :: xs, h, j + 1, hj, i, hi => by
    have e := h x (List.mem_cons_self ..)
    rw [List.flatMap_cons, List.getElem?_append_right (by rw [e, Nat.add_mul]; omega), e, show (j + 1) * sz + i - sz = j * sz + i by rw [Nat.add_mul]; omega]
    exact flat_get (fun y hy => h y (List.mem_cons_of_mem _ hy)) j (by simpa using hj) i hi
theorem RdS.of_own {α : Type} {c : α → List Value} {sz : Nat} {w : World} {B : Nat} {e : TypeId} {v : Value} {xs : List α} (hx : ∀ x ∈ xs, (c x).length = sz) (h : w.ownsRow B e sz v xs.length (xs.flatMap c)) : RdS c sz w v xs := by
  rcases h.2 with ⟨rfl, h0⟩ | ⟨g, cap, cur, rfl, hb, hg, hnc, hcm, hcs, ht⟩
  · have : xs = [] := List.eq_nil_of_length_eq_zero h0
    subst this
    exact RdS.nil c sz w
  · refine ⟨some ⟨g, 0, none⟩, cap, rfl, hnc, by unfold maxLen at hcm; omega, fun j hj => ⟨⟨g, 0, none⟩, rfl, fun i u hu => ?_⟩, by simp⟩
    have hi : i < sz := by rw [← hx _ (List.getElem_mem hj)]; exact (List.getElem?_eq_some_iff.1 hu).1
    have hlt : j * sz + i < xs.length * sz := by
      have := Nat.mul_le_mul_right sz (show j + 1 ≤ xs.length from hj)
      rw [Nat.add_mul] at this
      omega
    have := h.cellAt (j * sz + i) hlt
    rw [Addr.add_mid, Addr.add_mid, Nat.zero_add, this, flat_get hx j hj i hi]
    exact hu
theorem RdS.some_ {α : Type} {c : α → List Value} {sz : Nat} {w : World} {v : Value} {xs : List α} (h : RdS c sz w v xs) (hj : 0 < xs.length) : ∃ ad cap, v = .slice (some ad) xs.length cap ∧ xs.length ≤ cap ∧ cap ≤ 9223372036854775807 ∧ ∀ j (h : j < xs.length) i u, (c xs[j])[i]? = some u → w.cell? ((ad.add (j * sz)).add i) = some u := by
  obtain ⟨a, cap, rfl, h1, h2, h3, h4⟩ := h
  obtain ⟨ad, rfl, _⟩ := h3 0 hj
  refine ⟨ad, cap, rfl, h1, h2, fun j hj => ?_⟩
  obtain ⟨ad', e, h⟩ := h3 j hj
  obtain rfl := Option.some.inj e
  exact h

section
variable {P : Program}
/-- a struct loaded whole, wherever it lies -/
theorem run_load_at (w : World) (ad : Addr) (ty : TypeId) (cs : List Value) (d : TypeDesc) (hc : ∀ i u, cs[i]? = some u → w.cell? (ad.add i) = some u) (hu : P.underlying ty = some d) (hd : d.isRow = true) (hi : (P.info? ty).map (·.size) = some cs.length) :
    (loadVar ty ad).run P w = .ok (.agg cs.toArray) w := by
  have hl : (loadCells ad cs.length).run P w = .ok cs.toArray w := run_loadCells_list (P := P) w ad cs hc
  cases hq : P.info? ty with
  | none => simp [hq] at hi
  | some i =>
    have hs : i.size = cs.length := by simpa [hq] using hi
    have hagg : (isAgg ty).run P w = .ok true w := by
      unfold isAgg
      rw [Sem.run_bind, run_underlying hu w]
      cases d <;> simp_all
    simp [loadVar, Sem.run_bind, hagg, sizeOf, typeInfo, hq, hs, hl]
theorem wp_load_at {op : Oper} {a : Act} {w : World} {K : Act → World → Prop} {Q : Exit → Act → World → Prop} {ty : TypeId} {x : Operand} (cs : List Value) {d : TypeDesc} (hu : P.underlying ty = some d) (hd : d.isRow = true) (hi : (P.info? ty).map (·.size) = some cs.length)
    {ad : Addr} (hc : ∀ i u, cs[i]? = some u → w.cell? (ad.add i) = some u) (ho : op.op = .load ty x) (hx : a.eval x = .pointer (some ad)) (h : K (a.put op.dst (.agg cs.toArray)) w) : op.wp P a w K Q := by
  unfold Oper.wp execOp
  simp only [ho, hx, Instr.loadAt, Instr.sureAddr, Sem.run_bind, Sem.run_pure, Result.andThen_ok, run_load_at w ad ty cs d hc hu hd hi]
  exact h
end

/-! ### writes -/
abbrev Wr := Int × Int × List UInt8
def wrC (x : Wr) : List Value := .int .i64 x.1 :: bc x.2.1 x.2.2
def wrV (x : Wr) : Value := .agg (wrC x).toArray
def WrOk (x : Wr) : Prop := x.2.2.length = 56
theorem wrC_length {x : Wr} (h : WrOk x) : (wrC x).length = 58 := by
  unfold WrOk at h
  simp [wrC, h]
theorem wrC_one (x : Wr) : ∀ u ∈ wrC x, u.oneCell' = true := by
  intro u hu
  simp [wrC] at hu
  rcases hu with rfl | rfl | ⟨b, _, rfl⟩ <;> rfl
theorem wrC_all (x : Wr) : (wrC x).toArray.all (·.oneCell') = true := by
  rw [Array.all_eq_true_iff_forall_mem]
  intro v hv
  exact wrC_one x v (by simpa using hv)
theorem infoWr : (Try.prog.info? 71).map (fun i => (i.zero, i.size, i.bytes)) = some (some (wrV (0, 0, Z56)), 58, 72) := by kernel_rfl
theorem infoWr_size : (Try.prog.info? 71).map (·.size) = some 58 := by kernel_rfl
theorem infoWr_zero : (Try.prog.info? 71).map (·.zero) = some (some (wrV (0, 0, Z56))) := by kernel_rfl
theorem infoWr_of {x : Wr} (h : WrOk x) : (Try.prog.info? 71).map (·.size) = some (wrC x).length := by rw [wrC_length h]; exact infoWr_size
theorem infoWr_of' {x : Wr} (h : WrOk x) : (Try.prog.info? 71).map (·.size) = some (wrC x).toArray.size := by rw [List.size_toArray]; exact infoWr_of h
abbrev WrAt (w : World) (g : Nat) (x : Wr) : Prop := RowAt w g 71 (wrC x).toArray
theorem WrAt.at_ {w : World} {g : Nat} {x : Wr} (h : WrAt w g x) : w.cell? ⟨g, 0, none⟩ = some (.int .i64 x.1) := h.cell 0 _ (by simp [wrC])
theorem WrAt.kind {w : World} {g : Nat} {x : Wr} (h : WrAt w g x) : w.cell? ⟨g, 1, none⟩ = some (.int .i64 x.2.1) := h.cell 1 _ (by simp [wrC])
abbrev RdW (w : World) (v : Value) (l : List Wr) : Prop := RdS wrC 58 w v l
theorem wp_wr_alloc {K : Act → World → Prop} {Q : Exit → Act → World → Prop} {o : Oper} {a : Act} {w : World} (hop : o.op = .alloc 71)
    (h : ∀ w', WrAt w' w.heap.size (0, 0, Z56) → Below w.heap.size w w' → w.heap.size < w'.heap.size → K (a.put o.dst (.pointer (some ⟨w.heap.size, 0, none⟩))) w') : o.wp Try.prog a w K Q :=
  wp_rw_alloc (P := Try.prog) _ infoWr_zero hop h
theorem wp_wr_store {K : Act → World → Prop} {Q : Exit → Act → World → Prop} {o : Oper} {a : Act} {w : World} {p q : Operand} {g : Nat} {x y : Wr} (hg : WrAt w g y) (hy : WrOk y) (hx : WrOk x) (hop : o.op = .store 71 p q) (hp : a.eval p = .pointer (some ⟨g, 0, none⟩)) (hq : a.eval q = wrV x)
    (h : ∀ w', WrAt w' g x → w.grownBy w' (some g) → w'.heap.size = w.heap.size → K (a.put o.dst undef) w') : o.wp Try.prog a w K Q :=
  wp_rw_store hg (infoWr_of' hx) (by rw [List.size_toArray, List.size_toArray, wrC_length hx, wrC_length hy]) (wrC_all x) hop hp hq h
theorem wp_wr_load {K : Act → World → Prop} {Q : Exit → Act → World → Prop} {o : Oper} {a : Act} {w : World} {p : Operand} {g : Nat} {x : Wr} (hg : WrAt w g x) (hx : WrOk x) (hop : o.op = .load 71 p) (hp : a.eval p = .pointer (some ⟨g, 0, none⟩)) (h : K (a.put o.dst (wrV x)) w) : o.wp Try.prog a w K Q :=
  wp_rw_load hg Try.underlying71 rfl (infoWr_of' hx) hop hp h
/-- an element of a slice of writes, loaded -/
theorem wp_wr_elem {K : Act → World → Prop} {Q : Exit → Act → World → Prop} {o : Oper} {a : Act} {w : World} {p : Operand} {ad : Addr} (x : Wr) (hx : WrOk x) (hc : ∀ i u, (wrC x)[i]? = some u → w.cell? (ad.add i) = some u) (hop : o.op = .load 71 p) (hp : a.eval p = .pointer (some ad)) (h : K (a.put o.dst (wrV x)) w) : o.wp Try.prog a w K Q :=
  wp_load_at (P := Try.prog) (wrC x) Try.underlying71 rfl (infoWr_of hx) hc hop hp h
theorem wp_wr_box {K : Act → World → Prop} {Q : Exit → Act → World → Prop} {o : Oper} {a : Act} {w : World} {p : Operand} (x : Wr) (hop : o.op = .box 71 p) (hp : a.eval p = wrV x)
    (h : ∀ w', WrAt w' w.heap.size x → Below w.heap.size w w' → w.heap.size < w'.heap.size → K (a.put o.dst (.pointer (some ⟨w.heap.size, 0, none⟩))) w') : o.wp Try.prog a w K Q :=
  wp_rw_box (P := Try.prog) _ hop hp h
/-- the bytes of a write's body, as a slice -/
theorem WrAt.body {w : World} {g : Nat} {x : Wr} (h : WrAt w g x) (hx : WrOk x) : Rd w (.slice (some ⟨g, 2, none⟩) 56 56) (bs x.2.2) := by
  unfold WrOk at hx
  refine ⟨some ⟨g, 2, none⟩, 56, by rw [bs_length, hx], by rw [bs_length, hx]; exact Nat.le_refl _, by omega, fun j hj => ⟨_, rfl, ?_⟩, fun h => by cases h⟩
  rw [Addr.add_mid, RowAt.cell h (2 + j) (bs x.2.2)[j]]
  simp only [wrC, List.getElem?_toArray]
  rw [Nat.add_comm 2 j]
  simp
  rw [bs_length] at hj
  simp [hj]
theorem slice_body_mid {g o : Nat} (w : World) :
    (Instr.sliceAt 26 (.pointer (some ⟨g, o, none⟩)) none none none).run Try.prog w = .ok (.slice (some ⟨g, o, none⟩) 56 56) w := by
  rw [run_sliceAt_array_all w 26 _ under56, elem56, sizeOf_u8, len56]
  simp only [Result.andThen_ok, slicedAt, Nat.mul_one, Addr.add_mid]
  rw [if_neg (by omega)]
  simp

/-! ### lists of texts -/
def RdL (w : World) (v : Value) (L : List (List UInt8)) : Prop := ∃ sl, Rd w v sl ∧ sl.length = L.length ∧ ∀ j (h : j < sl.length) (h' : j < L.length), Rd w sl[j] (bs L[j])
theorem RdL.below {w w1 : World} {v : Value} {L : List (List UInt8)} (h : RdL w v L) (hb : Below w.heap.size w w1) : RdL w1 v L := by
  obtain ⟨sl, h1, h2, h3⟩ := h
  exact ⟨sl, h1.below hb, h2, fun j h h' => (h3 j h h').below hb⟩
/-- the block a slice lies in -/
def inBlock (v : Value) (g : Nat) : Prop := ∃ a n c, v = .slice (some a) n c ∧ a.block = g
def OL (w : World) (B : Nat) (v : Value) (L : List (List UInt8)) : Prop := ∃ sl, w.ownsRow B 37 1 v sl.length sl ∧ sl.length = L.length ∧ ∀ j (h : j < sl.length) (h' : j < L.length), Rd w sl[j] (bs L[j]) ∧ (∀ g, v.ownBlock = some g → ¬ inBlock sl[j] g) ∧ ∀ g, inBlock sl[j] g → g < w.heap.size
theorem OL.below {w w1 : World} {B : Nat} {v : Value} {L : List (List UInt8)} (h : OL w B v L) (hb : Below w.heap.size w w1) : OL w1 B v L := by
  obtain ⟨sl, h1, h2, h3⟩ := h
  exact ⟨sl, own_below h1 hb, h2, fun j h h' => ⟨(h3 j h h').1.below hb, (h3 j h h').2.1, fun g hg => Nat.lt_of_lt_of_le ((h3 j h h').2.2 g hg) hb.size⟩⟩
theorem OL.mono {w : World} {B B' : Nat} {v : Value} {L : List (List UInt8)} (h : OL w B' v L) (hB : B ≤ B') : OL w B v L := by
  obtain ⟨sl, h1, h2, h3⟩ := h
  exact ⟨sl, own_mono h1 hB, h2, h3⟩
theorem OL.rd {w : World} {B : Nat} {v : Value} {L : List (List UInt8)} (h : OL w B v L) : RdL w v L := by
  obtain ⟨sl, h1, h2, h3⟩ := h
  exact ⟨sl, Rd.of_own h1, h2, fun j h h' => (h3 j h h').1⟩
theorem OL.nil (w : World) (B : Nat) : OL w B (.slice none 0 0) [] := ⟨[], World.ownsRow_nil _ _ _ _, rfl, fun j h => by simp at h⟩
theorem OL.ge {w : World} {B : Nat} {v : Value} {L : List (List UInt8)} (h : OL w B v L) : ∀ k, v.ownBlock = some k → B ≤ k := by
  obtain ⟨sl, h1, _⟩ := h
  exact own_ge h1
theorem OL.lt {w : World} {B : Nat} {v : Value} {L : List (List UInt8)} (h : OL w B v L) : ∀ k, v.ownBlock = some k → k < w.heap.size := by
  obtain ⟨sl, h1, _⟩ := h
  exact own_lt h1
theorem Rd.kept {w w1 : World} {v : Value} {xs : List Value} {r : Option Nat} (h : Rd w v xs) (hg : w.grownBy w1 r) (hr : ∀ g, r = some g → ¬ inBlock v g) : Rd w1 v xs := by
  obtain ⟨a, cap, rfl, h1, h2, h3, h4⟩ := h
  refine ⟨a, cap, rfl, h1, h2, fun j hj => ?_, h4⟩
  obtain ⟨ad, rfl, hc⟩ := h3 j hj
  refine ⟨ad, rfl, ?_⟩
  have hlt := World.block_lt_of_cell? _ _ hc
  have hb : (ad.add j).block = ad.block := by unfold Addr.add; split <;> rfl
  rw [hb] at hlt
  have he := hg.block ad.block hlt (fun e => hr _ e.symm ⟨ad, _, _, rfl, rfl⟩)
  rw [← hc]
  simp only [World.cell?, hb, he]
theorem infoSl : (Try.prog.info? 37).map (fun i => (i.zero, i.size, i.bytes)) = some (some (.slice none 0 0), 1, 24) := by kernel_rfl
/-- 'append(s, x)' of a text onto a list of texts that the call owns; x lies in a block of its own at 'ad' -/
theorem wp_appL {w : World} {o : Oper} {a : Act} {K : Act → World → Prop} {Q : Exit → Act → World → Prop} (B : Nat) (v u : Value) (L : List (List UInt8)) (l : List UInt8) {s x : Operand} (ad : Addr) (hl : L.length ≤ 100000)
    (hown : OL w B v L) (hrd : Rd w u (bs l)) (hin : ∀ g, v.ownBlock = some g → ¬ inBlock u g) (hlt : ∀ g, inBlock u g → g < w.heap.size) (hu : u.oneCell' = true) (hcell : w.cell? ad = some u) (hB : B ≤ w.heap.size)
    (ho : o.op = .call { callee := .builtin .append, args := #[s, x], argTypes := #[54, 54] })
    (hs : a.eval s = v) (hx : a.eval x = .slice (some ad) 1 1)
    (h : ∀ v' w', OL w' B v' (L ++ [l]) → Onto w v w' v' → K (a.put o.dst v') w') : o.wp Try.prog a w K Q := by
  obtain ⟨i5, hi5, hz5, hs5, hb5⟩ := info_parts infoSl
  obtain ⟨sl, h1, h2, h3⟩ := hown
  refine wp_append_onto B 37 i5 (.slice none 0 0) 1 24 Try.underlying54 hi5 hz5 hs5 hb5 rfl (by decide) v sl.length sl ad 1 1 [u] rfl (by simpa using hu) (by unfold maxLen; omega) (by omega) ho hs hx h1 (fun j y hj => ?_) hB fun v' w' k1 k2 => h v' w' ⟨sl ++ [u], by simpa using k1, by simp [h2], fun j hj hj' => ?_⟩ k2
  · obtain ⟨hj0, hj1⟩ := List.getElem?_eq_some_iff.1 hj
    obtain rfl : j = 0 := by simpa using hj0
    rw [Addr.add_zero', hcell, ← hj1]
    rfl
  · have far : ∀ (y : Value), (∀ g, v.ownBlock = some g → ¬ inBlock y g) → (∀ g, inBlock y g → g < w.heap.size) → ∀ g, v'.ownBlock = some g → ¬ inBlock y g := fun y hy hy2 g hg hin => by
      rcases k2.2 g hg with e | e
      · exact hy g e hin
      · have := hy2 g hin; omega
    by_cases hjl : j < sl.length
    · have e1 : (sl ++ [u])[j] = sl[j] := List.getElem_append_left hjl
      have e2 : (L ++ [l])[j] = L[j]'(by omega) := List.getElem_append_left (by omega)
      rw [e1, e2]
      obtain ⟨r1, r2, r3⟩ := h3 j hjl (by omega)
      exact ⟨r1.kept k2.1 (fun g hg => r2 g hg), far _ r2 r3, fun g hg => Nat.lt_of_lt_of_le (r3 g hg) k2.size⟩
    · have e1 : (sl ++ [u])[j] = u := by
        have : j = sl.length := by simp at hj; omega
        subst this
        simp
      have e2 : (L ++ [l])[j] = l := by
        have : j = L.length := by simp at hj'; omega
        subst this
        simp
      rw [e1, e2]
      exact ⟨hrd.kept k2.1 hin, far u hin hlt, fun g hg => Nat.lt_of_lt_of_le (hlt g hg) k2.size⟩
end Go.Proofs.Ytgeiafijibgdhaa.Cl
