/- dev: how a region changes. -/
import Derived.Test.YtbagicjimfhmeaaDev3
set_option linter.unusedVariables false
set_option linter.unusedSimpArgs false
namespace Go.Proofs.Ytbagicjimfhmeaa.Cl
open Go Go.Proofs Go.RowKit Fl

/-- a region's own step -/
structure RS (w : World) (a : RgA) (w' : World) (a' : RgA) : Prop where
  frm : Frm (Blk a) w w'
  k8 : Keep8 w w'
  g : a'.g = a.g
  lies : ∀ k, Blk a' k → Blk a k ∨ w.heap.size ≤ k
theorem RS.refl (w : World) (a : RgA) : RS w a w a := ⟨Frm.refl _ _, Keep8.refl _, rfl, fun k h => .inl h⟩
theorem RS.trans {w w1 w2 : World} {a a1 a2 : RgA} (h : RS w a w1 a1) (k : RS w1 a1 w2 a2) : RS w a w2 a2 :=
  ⟨h.frm.step k.frm fun j hj hb => (h.lies j hb).elim id fun e => absurd e (by omega), h.k8.trans k.k8, k.g.trans h.g, fun j hb => by
    rcases k.lies j hb with e | e
    · exact h.lies j e
    · exact .inr (Nat.le_trans h.frm.size e)⟩
theorem RS.below {w w' : World} (a : RgA) (hb : Below w.heap.size w w') : RS w a w' a := ⟨Frm.of_below _ hb, Keep8.of_below hb, rfl, fun k h => .inl h⟩
theorem RgAt.below {w w' : World} {a : RgA} {r : Rg} (h : RgAt w a r) (hb : Below w.heap.size w w') : RgAt w' a r := h.frm (Frm.of_below (fun _ => False) hb) (Keep8.of_below hb) fun _ _ h => h
/-- a header stored -/
theorem RgAt.rowSet {w : World} {a : RgA} {r : Rg} (h : RgAt w a r) (i : Nat) (v : Value) : RowAt (w.setCell ⟨a.g, i, none⟩ v) a.g 82 ((rgC a).setIfInBounds i v) ∧ w.grownBy (w.setCell ⟨a.g, i, none⟩ v) (some a.g) ∧ (w.setCell ⟨a.g, i, none⟩ v).heap.size = w.heap.size := h.row.set i v
theorem RgAt.gNe {w : World} {a : RgA} {r : Rg} (h : RgAt w a r) : a.vs.ownBlock ≠ some a.g ∧ a.vu.ownBlock ≠ some a.g ∧ a.vl.ownBlock ≠ some a.g ∧ a.vt.ownBlock ≠ some a.g :=
  ⟨fun e => absurd ((h.seen.ty e).ne h.row.ty) (by decide), fun e => absurd ((h.sure.ty e).ne h.row.ty) (by decide), fun e => absurd ((h.later.ty e).ne h.row.ty) (by decide), fun e => absurd ((h.trace.ty e).ne h.row.ty) (by decide)⟩
/-- texts and writes lie apart -/
theorem RgAt.lNe {w : World} {a : RgA} {r : Rg} (h : RgAt w a r) : noTwo a.vl a.vs ∧ noTwo a.vl a.vu ∧ noTwo a.vl a.vt :=
  ⟨fun k hl e => absurd ((h.later.ty hl).ne (h.seen.ty e)) (by decide), fun k hl e => absurd ((h.later.ty hl).ne (h.sure.ty e)) (by decide), fun k hl e => absurd ((h.later.ty hl).ne (h.trace.ty e)) (by decide)⟩
theorem noTwo.symm {u v : Value} (h : noTwo u v) : noTwo v u := fun k hv hu => h k hu hv
/-- v' lies where v lay or in new memory, v apart from u: v' apart from u -/
theorem noTwo.lies {w : World} {u v v' : Value} (h : noTwo v u) (hl : Lies w v v') (hu : ∀ k, u.ownBlock = some k → k < w.heap.size) : noTwo v' u := fun k hk e => by
  rcases hl k hk with h1 | h1
  · exact h k h1 e
  · have := hu k e; omega

section
variable {w w1 : World} {a : RgA} {r : Rg}
/-- later anew -/
theorem RgAt.setLater (h : RgAt w a r) (v' : Value) (L' : List (Nat × List UInt8)) (hf : Frm (fun k => a.vl.ownBlock = some k) w w1) (hl : Lies w a.vl v') (hL : LL w1 v' L') :
    RgAt (w1.setCell ⟨a.g, 2, none⟩ v') { a with vl := v' } { r with later := L' } ∧ RS w a (w1.setCell ⟨a.g, 2, none⟩ v') { a with vl := v' } ∧ w1.cell? ⟨a.g, 2, none⟩ = some a.vl ∧ w1.frozen? ⟨a.g, 2, none⟩ = false := by
  obtain ⟨g1, g2, g3, g4⟩ := h.gNe
  obtain ⟨l1, l2, l3⟩ := h.lNe
  have k8 : Keep8 w w1 := fun k hk => hf.block k hk.lt fun e => h.later.notB k e hk
  have row1 : RowAt w1 a.g 82 (rgC a) := hf.row h.row g3
  obtain ⟨s1, s2, s3⟩ := row1.set 2 v'
  have f2 : Frm (fun k => k = a.g) w1 (w1.setCell ⟨a.g, 2, none⟩ v') := Frm.of_grown s2 fun k e => (Option.some.inj e).symm
  have k82 : Keep8 w1 (w1.setCell ⟨a.g, 2, none⟩ v') := Keep8.of_grown s2 fun k e => by obtain rfl := Option.some.inj e; exact row1.notB (by decide)
  have v'g : ∀ k, v'.ownBlock = some k → ¬ k = a.g := fun k hk e => by
    subst e
    exact absurd ((hL.ty hk).ne row1.ty) (by decide)
  refine ⟨⟨s1, (h.seen.frm hf k8 fun k e e' => l1 k e' e).frm f2 k82 fun k e e' => g1 (e' ▸ e), (h.sure.frm hf k8 fun k e e' => l2 k e' e).frm f2 k82 fun k e e' => g2 (e' ▸ e), hL.frm f2 k82 v'g, (h.trace.frm hf k8 fun k e e' => l3 k e' e).frm f2 k82 fun k e e' => g4 (e' ▸ e), h.su, h.st, h.ut⟩,
    ⟨(hf.mono fun k _ e => .inr (.inr (.inr (.inl e)))).step f2 fun k _ e => .inl e, k8.trans k82, rfl, fun k hb => ?_⟩, row1.cell 2 _ rfl, row1.frozen⟩
  rcases hb with e | e | e | e | e
  · exact .inl (.inl e)
  · exact .inl (.inr (.inl e))
  · exact .inl (.inr (.inr (.inl e)))
  · rcases hl k e with e | e
    · exact .inl (.inr (.inr (.inr (.inl e))))
    · exact .inr e
  · exact .inl (.inr (.inr (.inr (.inr e))))
/-- the trace anew -/
theorem RgAt.setTrace (h : RgAt w a r) (v' : Value) (L' : List (List UInt8)) (hf : Frm (fun k => a.vt.ownBlock = some k) w w1) (hl : Lies w a.vt v') (hL : TL w1 0 v' L') :
    RgAt (w1.setCell ⟨a.g, 3, none⟩ v') { a with vt := v' } { r with trace := L' } ∧ RS w a (w1.setCell ⟨a.g, 3, none⟩ v') { a with vt := v' } ∧ w1.cell? ⟨a.g, 3, none⟩ = some a.vt ∧ w1.frozen? ⟨a.g, 3, none⟩ = false := by
  obtain ⟨g1, g2, g3, g4⟩ := h.gNe
  obtain ⟨l1, l2, l3⟩ := h.lNe
  have k8 : Keep8 w w1 := fun k hk => hf.block k hk.lt fun e => h.trace.notB k e hk
  have row1 : RowAt w1 a.g 82 (rgC a) := hf.row h.row g4
  obtain ⟨s1, s2, s3⟩ := row1.set 3 v'
  have f2 : Frm (fun k => k = a.g) w1 (w1.setCell ⟨a.g, 3, none⟩ v') := Frm.of_grown s2 fun k e => (Option.some.inj e).symm
  have k82 : Keep8 w1 (w1.setCell ⟨a.g, 3, none⟩ v') := Keep8.of_grown s2 fun k e => by obtain rfl := Option.some.inj e; exact row1.notB (by decide)
  have v'g : ∀ k, v'.ownBlock = some k → ¬ k = a.g := fun k hk e => by
    subst e
    exact absurd ((hL.ty hk).ne row1.ty) (by decide)
  refine ⟨⟨s1, (h.seen.frm hf k8 fun k e e' => h.st k e e').frm f2 k82 fun k e e' => g1 (e' ▸ e), (h.sure.frm hf k8 fun k e e' => h.ut k e e').frm f2 k82 fun k e e' => g2 (e' ▸ e), (h.later.frm hf k8 fun k e e' => l3 k e e').frm f2 k82 fun k e e' => g3 (e' ▸ e), hL.frm f2 k82 v'g, h.su, (h.st.symm.lies hl h.seen.lt).symm, (h.ut.symm.lies hl h.sure.lt).symm⟩,
    ⟨(hf.mono fun k _ e => .inr (.inr (.inr (.inr e)))).step f2 fun k _ e => .inl e, k8.trans k82, rfl, fun k hb => ?_⟩, row1.cell 3 _ rfl, row1.frozen⟩
  rcases hb with e | e | e | e | e
  · exact .inl (.inl e)
  · exact .inl (.inr (.inl e))
  · exact .inl (.inr (.inr (.inl e)))
  · exact .inl (.inr (.inr (.inr (.inl e))))
  · rcases hl k e with e | e
    · exact .inl (.inr (.inr (.inr (.inr e))))
    · exact .inr e
/-- sure anew -/
theorem RgAt.setSure (h : RgAt w a r) (v' : Value) (L' : List (List UInt8)) (hb : Below w.heap.size w w1) (hL : TL w1 w.heap.size v' L') :
    RgAt (w1.setCell ⟨a.g, 1, none⟩ v') { a with vu := v' } { r with sure := L' } ∧ RS w a (w1.setCell ⟨a.g, 1, none⟩ v') { a with vu := v' } ∧ w1.cell? ⟨a.g, 1, none⟩ = some a.vu ∧ w1.frozen? ⟨a.g, 1, none⟩ = false := by
  obtain ⟨g1, g2, g3, g4⟩ := h.gNe
  have h1 := h.below hb
  have row1 := h1.row
  obtain ⟨s1, s2, s3⟩ := row1.set 1 v'
  have f2 : Frm (fun k => k = a.g) w1 (w1.setCell ⟨a.g, 1, none⟩ v') := Frm.of_grown s2 fun k e => (Option.some.inj e).symm
  have k82 : Keep8 w1 (w1.setCell ⟨a.g, 1, none⟩ v') := Keep8.of_grown s2 fun k e => by obtain rfl := Option.some.inj e; exact row1.notB (by decide)
  have v'g : ∀ k, v'.ownBlock = some k → ¬ k = a.g := fun k hk e => by
    have := hL.ge k hk
    have := h.row.lt
    omega
  refine ⟨⟨s1, h1.seen.frm f2 k82 fun k e e' => g1 (e' ▸ e), hL.zero.frm f2 k82 v'g, h1.later.frm f2 k82 fun k e e' => g3 (e' ▸ e), h1.trace.frm f2 k82 fun k e e' => g4 (e' ▸ e), fun k e e' => (by have := h.seen.lt k e; have := hL.ge k e'; omega), h.st, fun k e e' => (by have := h.trace.lt k e'; have := hL.ge k e; omega)⟩,
    ⟨(Frm.of_below (Blk a) hb).step f2 fun k _ e => .inl e, (Keep8.of_below hb).trans k82, rfl, fun k hb => ?_⟩, row1.cell 1 _ rfl, row1.frozen⟩
  rcases hb with e | e | e | e | e
  · exact .inl (.inl e)
  · exact .inl (.inr (.inl e))
  · exact .inr (hL.ge k e)
  · exact .inl (.inr (.inr (.inr (.inl e))))
  · exact .inl (.inr (.inr (.inr (.inr e))))
/-- seen anew -/
theorem RgAt.setSeen (h : RgAt w a r) (v' : Value) (L' : List (List UInt8)) (hb : Below w.heap.size w w1) (hL : TL w1 w.heap.size v' L') :
    RgAt (w1.setCell ⟨a.g, 0, none⟩ v') { a with vs := v' } { r with seen := L' } ∧ RS w a (w1.setCell ⟨a.g, 0, none⟩ v') { a with vs := v' } ∧ w1.cell? ⟨a.g, 0, none⟩ = some a.vs ∧ w1.frozen? ⟨a.g, 0, none⟩ = false := by
  obtain ⟨g1, g2, g3, g4⟩ := h.gNe
  have h1 := h.below hb
  have row1 := h1.row
  obtain ⟨s1, s2, s3⟩ := row1.set 0 v'
  have f2 : Frm (fun k => k = a.g) w1 (w1.setCell ⟨a.g, 0, none⟩ v') := Frm.of_grown s2 fun k e => (Option.some.inj e).symm
  have k82 : Keep8 w1 (w1.setCell ⟨a.g, 0, none⟩ v') := Keep8.of_grown s2 fun k e => by obtain rfl := Option.some.inj e; exact row1.notB (by decide)
  have v'g : ∀ k, v'.ownBlock = some k → ¬ k = a.g := fun k hk e => by
    have := hL.ge k hk
    have := h.row.lt
    omega
  refine ⟨⟨s1, hL.zero.frm f2 k82 v'g, h1.sure.frm f2 k82 fun k e e' => g2 (e' ▸ e), h1.later.frm f2 k82 fun k e e' => g3 (e' ▸ e), h1.trace.frm f2 k82 fun k e e' => g4 (e' ▸ e), fun k e e' => (by have := h.sure.lt k e'; have := hL.ge k e; omega), fun k e e' => (by have := h.trace.lt k e'; have := hL.ge k e; omega), h.ut⟩,
    ⟨(Frm.of_below (Blk a) hb).step f2 fun k _ e => .inl e, (Keep8.of_below hb).trans k82, rfl, fun k hb => ?_⟩, row1.cell 0 _ rfl, row1.frozen⟩
  rcases hb with e | e | e | e | e
  · exact .inl (.inl e)
  · exact .inr (hL.ge k e)
  · exact .inl (.inr (.inr (.inl e)))
  · exact .inl (.inr (.inr (.inr (.inl e))))
  · exact .inl (.inr (.inr (.inr (.inr e))))
end

/-! ### one text of a list stored -/
theorem own_set {w : World} {B e n : Nat} {g c : Nat} {xs : List Value} (h : w.ownsRow B e 1 (.slice (some ⟨g, 0, none⟩) n c) n xs) (i : Nat) (hi : i < n) (u : Value) :
    (w.setCell ⟨g, i, none⟩ u).ownsRow B e 1 (.slice (some ⟨g, 0, none⟩) n c) n (xs.set i u) ∧ w.grownBy (w.setCell ⟨g, i, none⟩ u) (some g) ∧ (w.setCell ⟨g, i, none⟩ u).heap.size = w.heap.size ∧ w.frozen? ⟨g, i, none⟩ = false := by
  rcases h.2 with ⟨e1, _⟩ | ⟨g', cap, cur, e1, hb, hg, hnc, hcm, hcs, ht⟩
  · cases e1
  · injection e1 with e2 _ e3
    injection e2 with e2
    injection e2 with e2 _ _
    subst e2 e3
    have hrow : RowAt w g e cur := hg
    obtain ⟨s1, s2, s3⟩ := hrow.set i u
    refine ⟨⟨by rw [List.length_set]; exact h.1, .inr ⟨g, c, _, rfl, hb, s1, hnc, hcm, by rw [Array.size_setIfInBounds]; exact hcs, ?_⟩⟩, s2, s3, hrow.frozen⟩
    rw [Array.toList_setIfInBounds, List.take_set, ht]
theorem TL.set {w : World} {B g n c : Nat} {L : List (List UInt8)} (h : TL w B (.slice (some ⟨g, 0, none⟩) n c) L) (i : Nat) (hi : i < L.length) (u : Value) (b : List UInt8) (hu : Byt w u b) :
    TL (w.setCell ⟨g, i, none⟩ u) B (.slice (some ⟨g, 0, none⟩) n c) (L.set i b) ∧ w.grownBy (w.setCell ⟨g, i, none⟩ u) (some g) ∧ (w.setCell ⟨g, i, none⟩ u).heap.size = w.heap.size ∧ w.frozen? ⟨g, i, none⟩ = false := by
  have hB := h.notB g rfl
  obtain ⟨sl, h1, h2, h3⟩ := h
  have hn : n = sl.length := by
    obtain ⟨a', c', e, _⟩ := Rd.of_own h1
    injection e
  subst hn
  obtain ⟨k1, k2, k3, k4⟩ := own_set h1 i (by omega) u
  have k8 : Keep8 w (w.setCell ⟨g, i, none⟩ u) := Keep8.of_grown k2 fun k e => by obtain rfl := Option.some.inj e; exact hB
  refine ⟨⟨sl.set i u, by rw [List.length_set]; exact k1, by rw [List.length_set, List.length_set]; exact h2, fun j hj hj' => ?_⟩, k2, k3, k4⟩
  rw [List.getElem_set, List.getElem_set]
  split
  · exact hu.keep k8
  · exact (h3 j (by simpa using hj) (by simpa using hj')).keep k8
theorem RgAt.setOne {w : World} {a : RgA} {r : Rg} (h : RgAt w a r) (i : Nat) (hi : i < r.seen.length) (u : Value) (b : List UInt8) (hu : Byt w u b) {gs c : Nat} (e : a.vs = .slice (some ⟨gs, 0, none⟩) r.seen.length c) :
    RgAt (w.setCell ⟨gs, i, none⟩ u) a { r with seen := r.seen.set i b } ∧ RS w a (w.setCell ⟨gs, i, none⟩ u) a ∧ w.frozen? ⟨gs, i, none⟩ = false := by
  have hown : a.vs.ownBlock = some gs := by rw [e]; rfl
  have T := h.seen
  rw [e] at T
  obtain ⟨k1, k2, k3, k4⟩ := T.set i hi u b hu
  rw [← e] at k1
  have f2 : Frm (fun k => k = gs) w (w.setCell ⟨gs, i, none⟩ u) := Frm.of_grown k2 fun k e => (Option.some.inj e).symm
  have k8 : Keep8 w (w.setCell ⟨gs, i, none⟩ u) := Keep8.of_grown k2 fun k e' => by obtain rfl := Option.some.inj e'; exact h.seen.notB _ hown
  refine ⟨⟨f2.row h.row fun e' => h.gNe.1 (e' ▸ hown), k1, h.sure.frm f2 k8 fun k e1 e2 => h.su k (e2 ▸ hown) e1, h.later.frm f2 k8 fun k e1 e2 => h.lNe.1 k e1 (e2 ▸ hown), h.trace.frm f2 k8 fun k e1 e2 => h.st k (e2 ▸ hown) e1, h.su, h.st, h.ut⟩, ⟨f2.mono fun k _ e' => .inr (.inl (e' ▸ hown)), k8, rfl, fun k h => .inl h⟩, k4⟩
theorem RgAt.setOneSure {w : World} {a : RgA} {r : Rg} (h : RgAt w a r) (i : Nat) (hi : i < r.sure.length) (u : Value) (b : List UInt8) (hu : Byt w u b) {gs c : Nat} (e : a.vu = .slice (some ⟨gs, 0, none⟩) r.sure.length c) :
    RgAt (w.setCell ⟨gs, i, none⟩ u) a { r with sure := r.sure.set i b } ∧ RS w a (w.setCell ⟨gs, i, none⟩ u) a ∧ w.frozen? ⟨gs, i, none⟩ = false := by
  have hown : a.vu.ownBlock = some gs := by rw [e]; rfl
  have T := h.sure
  rw [e] at T
  obtain ⟨k1, k2, k3, k4⟩ := T.set i hi u b hu
  rw [← e] at k1
  have f2 : Frm (fun k => k = gs) w (w.setCell ⟨gs, i, none⟩ u) := Frm.of_grown k2 fun k e => (Option.some.inj e).symm
  have k8 : Keep8 w (w.setCell ⟨gs, i, none⟩ u) := Keep8.of_grown k2 fun k e' => by obtain rfl := Option.some.inj e'; exact h.sure.notB _ hown
  refine ⟨⟨f2.row h.row fun e' => h.gNe.2.1 (e' ▸ hown), h.seen.frm f2 k8 fun k e1 e2 => h.su k e1 (e2 ▸ hown), k1, h.later.frm f2 k8 fun k e1 e2 => h.lNe.2.1 k e1 (e2 ▸ hown), h.trace.frm f2 k8 fun k e1 e2 => h.ut k (e2 ▸ hown) e1, h.su, h.st, h.ut⟩, ⟨f2.mono fun k _ e' => .inr (.inr (.inl (e' ▸ hown))), k8, rfl, fun k h => .inl h⟩, k4⟩

/-! ### the device again -/
theorem DR.upd {w w' : World} {gd : Nat} {vl : Value} {rs : List RgA} {D : Dv} (h : DR w gd vl rs D) (r : Nat) (hr : r < rs.length) (a' : RgA) (R' : Rg) (hS : RS w rs[r] w' a') (hR : RgAt w' a' R') :
    DR w' gd vl (rs.set r a') (D.1.set r R', D.2) ∧ ∀ k, FP gd vl (rs.set r a') k → FP gd vl rs k ∨ w.heap.size ≤ k := by
  have hr' : r < D.1.length := by have := h.len; omega
  have R0 := h.rg r hr hr'
  have hgd : ¬ Blk rs[r] gd := fun hb => by
    rcases R0.ty hb with e | e | e
    · exact absurd (e.ne h.row.ty) (by decide)
    · exact absurd (e.ne h.row.ty) (by decide)
    · exact absurd (e.ne h.row.ty) (by decide)
  have hvl : ∀ k, vl.ownBlock = some k → ¬ Blk rs[r] k := fun k hk hb => by
    have hv := own_ty h.own hk
    rcases R0.ty hb with e | e | e
    · exact absurd (e.ne hv) (by decide)
    · exact absurd (e.ne hv) (by decide)
    · exact absurd (e.ne hv) (by decide)
  have hmap : (rs.set r a').map (fun a => ptr a.g) = rs.map fun a => ptr a.g := by
    apply List.ext_getElem?
    intro j
    rw [List.getElem?_map, List.getElem?_map, List.getElem?_set]
    split
    · rename_i e
      subst e
      rw [List.getElem?_eq_getElem hr]
      simp [hS.g]
    · rfl
  refine ⟨⟨hS.frm.row h.row hgd, by rw [List.length_set, hmap]; exact hS.frm.own h.own hvl, by rw [List.length_set, List.length_set]; exact h.len, fun j hj hj' => ?_, fun i j hi hj hne k hb => ?_⟩, fun k hk => ?_⟩
  · rw [List.length_set] at hj
    have hj2 : j < D.1.length := by have := h.len; omega
    by_cases e : r = j
    · subst e
      simp only [List.getElem_set_self]
      exact hR
    · rw [List.getElem_set_ne e, List.getElem_set_ne e]
      exact (h.rg j hj hj2).frm hS.frm hS.k8 fun k hb => h.apart j r hj hr (fun e' => e e'.symm) k hb
  · rw [List.length_set] at hi hj
    have lt : ∀ j (hj : j < rs.length) k, Blk rs[j] k → k < w.heap.size := fun j hj k hb => (h.rg j hj (by have := h.len; omega)).lt hb
    rw [List.getElem_set] at hb ⊢
    by_cases e1 : r = i
    · rw [if_pos e1] at hb
      have e2 : ¬ r = j := fun e => hne (e1.symm.trans e)
      rw [if_neg e2]
      rcases hS.lies k hb with hb | hb
      · exact h.apart r j hr hj e2 k hb
      · exact fun hb' => by have := lt j hj k hb'; omega
    · rw [if_neg e1] at hb
      by_cases e2 : r = j
      · rw [if_pos e2]
        intro hb'
        rcases hS.lies k hb' with hb' | hb'
        · exact h.apart i r hi hr (fun e => e1 e.symm) k hb hb'
        · have := lt i hi k hb; omega
      · rw [if_neg e2]
        exact h.apart i j hi hj hne k hb
  · rcases hk with e | e | ⟨a, ha, hb⟩
    · exact .inl (.inl e)
    · exact .inl (.inr (.inl e))
    · rcases List.mem_or_eq_of_mem_set ha with ha | rfl
      · exact .inl (.inr (.inr ⟨a, ha, hb⟩))
      · rcases hS.lies k hb with hb | hb
        · exact .inl (.inr (.inr ⟨_, List.getElem_mem hr, hb⟩))
        · exact .inr hb
theorem DR.setLeft {w : World} {gd : Nat} {vl : Value} {rs : List RgA} {D : Dv} (h : DR w gd vl rs D) (x : Int) :
    DR (w.setCell ⟨gd, 1, none⟩ (.int .i64 x)) gd vl rs (D.1, x) ∧ Step (fun k => k = gd) w (w.setCell ⟨gd, 1, none⟩ (.int .i64 x)) (fun k => k = gd) ∧ w.frozen? ⟨gd, 1, none⟩ = false := by
  obtain ⟨s1, s2, s3⟩ := h.row.set 1 (.int .i64 x)
  have st : Step (fun k => k = gd) w (w.setCell ⟨gd, 1, none⟩ (.int .i64 x)) (fun k => k = gd) := Step.of_grown s2 (fun k e => (Option.some.inj e).symm) fun k e => by obtain rfl := Option.some.inj e; exact h.row.notB (by decide)
  refine ⟨⟨s1, st.1.own h.own fun k e e' => ?_, h.len, fun j hj hj' => (h.rg j hj hj').frm st.1 st.2.1 fun k hb e' => ?_, h.apart⟩, st, h.row.frozen⟩
  · subst e'
    exact absurd ((own_ty h.own e).ne h.row.ty) (by decide)
  · subst e'
    rcases (h.rg j hj hj').ty hb with e | e | e
    · exact absurd (e.ne h.row.ty) (by decide)
    · exact absurd (e.ne h.row.ty) (by decide)
    · exact absurd (e.ne h.row.ty) (by decide)
end Go.Proofs.Ytbagicjimfhmeaa.Cl
