/- XZig, where a doing operation may strengthen what the worlds behind it keep. -/
import Derived.Test.YtibpipppabommaaZig
set_option linter.unusedVariables false
set_option linter.unusedSimpArgs false
namespace Go.Proofs.Ytibpipppabommaa.ZigS
open Go Go.RowKit Zig
open RelyT (Chain reachTab chain_of slot_put slot_put_ne size_put defers_put getD_eq eval_congr wanted_congr getD_true getD_false getD_of ready_of count_set)
def zigL (P : Program) (ops : Array Oper) (Q : Exit → Act → World → Prop) : List (Bool × Oper) → (World → Prop) → Act → World → Prop
  | [], _, a, w => Q .normal a w
  | (false, o) :: rest, S, a, w =>
    if Region.wanted o (yielded ops a.tmps) then ∃ v, (∀ W, S W → lightR P W v ((execOp a.eval o).run P W)) ∧ zigL P ops Q rest S (a.put o.dst v) w
    else zigL P ops Q rest S (a.put o.dst undef) w
  | (true, o) :: rest, S, a, w =>
    if Region.wanted o (yielded ops a.tmps) then o.wp P a w (fun a' W => ∃ S' : World → Prop, (∀ V, S' V → S V) ∧ (S' W ∨ finB ops o = true) ∧ zigL P ops Q rest S' a' W) (fun _ _ _ => False)
    else zigL P ops Q rest S (a.put o.dst undef) w
abbrev zig (P : Program) (ops : Array Oper) (S : World → Prop) (Q : Exit → Act → World → Prop) (l : List (Bool × Oper)) : Act → World → Prop := zigL P ops Q l S
theorem weakP {P : Program} {ops : Array Oper} {S S' : World → Prop} {af : Act} {o : Oper} (h : Pend P ops S af o) (hs : ∀ V, S' V → S V) : Pend P ops S' af o := by
  obtain ⟨v, h1, h2, h3⟩ := h
  exact ⟨v, fun hw W hW => h1 hw W (hs W hW), h2, h3⟩
section
variable {P : Program} {ops : Array Oper} {ix : List (Bool × Nat)} {S : World → Prop} {Q : Exit → Act → World → Prop}

/-- the walk through operations that only read, up to the next that does more -/
theorem lights (hc : ZChk ops ix) : ∀ (rest pre0 : List (Bool × Nat)) (a : Act) (W : World), ix = pre0 ++ rest → zig P ops S Q (sel ops.toList rest) a W →
    ∃ pre2 rest2 af, rest = pre2 ++ rest2 ∧ (∀ x ∈ pre2, x.1 = false) ∧ Heads rest2 ∧ zig P ops S Q (sel ops.toList rest2) af W ∧ af.tmps.size = a.tmps.size ∧ af.defers = a.defers ∧
      (∀ d, (∀ x ∈ pre2, ∀ o, ops[x.2]? = some o → o.dst ≠ some d) → af.tmps[d]? = a.tmps[d]?) ∧ (∀ x ∈ pre2, ∀ o, ops[x.2]? = some o → Pend P ops S af o)
  | [], pre0, a, W, _, h => ⟨[], [], a, rfl, (fun x hx => by cases hx), .inl rfl, h, rfl, rfl, fun _ _ => rfl, (fun x hx => by cases hx)⟩
  | (true, i) :: r, pre0, a, W, _, h => ⟨[], (true, i) :: r, a, rfl, (fun x hx => by cases hx), .inr ⟨i, r, rfl⟩, h, rfl, rfl, fun _ _ => rfl, (fun x hx => by cases hx)⟩
  | (false, i) :: r, pre0, a, W, he, h => by
    obtain ⟨o, ho, hedge, hself, hpre⟩ := hc.at_ pre0 (false, i) r he
    have ho' : ops[i]? = some o := ho
    rw [sel_cons (o := o) (by rw [Array.getElem?_toList]; exact ho')] at h
    have main : ∀ v, (Region.wanted o (yielded ops a.tmps) = true → ∀ W, S W → lightR P W v ((execOp a.eval o).run P W)) → (Region.wanted o (yielded ops a.tmps) = false → v = undef) → zig P ops S Q (sel ops.toList r) (a.put o.dst v) W →
        ∃ pre2 rest2 af, (false, i) :: r = pre2 ++ rest2 ∧ (∀ x ∈ pre2, x.1 = false) ∧ Heads rest2 ∧ zig P ops S Q (sel ops.toList rest2) af W ∧ af.tmps.size = a.tmps.size ∧ af.defers = a.defers ∧
          (∀ d, (∀ x ∈ pre2, ∀ o, ops[x.2]? = some o → o.dst ≠ some d) → af.tmps[d]? = a.tmps[d]?) ∧ (∀ x ∈ pre2, ∀ o, ops[x.2]? = some o → Pend P ops S af o) := by
      intro v h1 h2 h3
      obtain ⟨pre2, rest2, af, e1, e2, e3, e4, e5, e6, e7, e8⟩ := lights hc r (pre0 ++ [(false, i)]) (a.put o.dst v) W (by rw [he]; simp) h3
      have later : ∀ x ∈ pre2, ∃ p, ops[x.2]? = some p ∧ (∀ d, p.dst = some d → d ∉ o.looksAt ops) ∧ (∀ d, o.dst = some d → p.dst ≠ some d) := fun x hx => by
        obtain ⟨l1, l2, hl⟩ := List.append_of_mem hx
        obtain ⟨p, hp, _, _, hq⟩ := hc.at_ (pre0 ++ (false, i) :: l1) x (l2 ++ rest2) (by rw [he, e1, hl]; simp)
        obtain ⟨o2, ho2, _, _, _, h5, h6⟩ := hq (false, i) (by simp)
        obtain rfl : o = o2 := Option.some.inj (ho'.symm.trans ho2)
        exact ⟨p, hp, (fun d hd hl => by have := (h5 d hd hl).1; rw [e2 x hx] at this; cases this), h6⟩
      have same : ∀ d ∈ o.looksAt ops, a.tmps[d]? = af.tmps[d]? := fun d hd => by
        rw [e7 d (fun x hx p hp hpd => by
          obtain ⟨p', hp', h5, _⟩ := later x hx
          obtain rfl : p = p' := Option.some.inj (hp.symm.trans hp')
          exact h5 d hpd hd)]
        exact (slot_put_ne a o.dst v d (fun e => hself d e hd)).symm
      refine ⟨(false, i) :: pre2, rest2, af, by rw [e1]; rfl, fun x hx => ?_, e3, e4, e5.trans (size_put ..), e6.trans (defers_put ..), fun d hd => ?_, fun x hx p hp => ?_⟩
      · rcases List.mem_cons.1 hx with rfl | hx
        · rfl
        · exact e2 x hx
      · rw [e7 d (fun x hx => hd x (List.mem_cons_of_mem _ hx))]
        exact slot_put_ne a o.dst v d (hd (false, i) (List.mem_cons_self ..) o ho')
      · rcases List.mem_cons.1 hx with rfl | hx
        · obtain rfl : o = p := Option.some.inj (ho'.symm.trans hp)
          refine ⟨v, ?_, ?_, fun d hd hlt => ?_⟩
          · rw [← want_same same, ← exec_same hc.sel ho' same]; exact h1
          · rw [← want_same same]; exact h2
          · rw [e7 d (fun x hx q hq hqd => by
              obtain ⟨p', hp', _, h6⟩ := later x hx
              obtain rfl : q = p' := Option.some.inj (hq.symm.trans hp')
              exact h6 d hd hqd), slot_put, if_pos ⟨hd, by rw [e5, size_put] at hlt; exact hlt⟩]
        · exact e8 x hx p hp
    simp only [zig, zigL] at h
    cases hw : Region.wanted o (yielded ops a.tmps) with
    | true =>
      rw [if_pos hw] at h
      obtain ⟨v, h1, h2⟩ := h
      exact main v (fun _ => h1) (fun e => by rw [hw] at e; cases e) h2
    | false =>
      rw [if_neg (by rw [hw]; simp)] at h
      exact main undef (fun e => by rw [hw] at e; cases e) (fun _ => rfl) h

structure J (P : Program) (ops : Array Oper) (ix : List (Bool × Nat)) (S : World → Prop) (Q : Exit → Act → World → Prop) (listed : Array Bool) (pre rest : List (Bool × Nat)) (a af : Act) (W : World) : Prop where
  split : ix = pre ++ rest
  head : Heads rest
  s : S W ∨ ∀ j, j < ops.size → listed[j]? = some true
  z : zig P ops S Q (sel ops.toList rest) af W
  lsize : listed.size = ops.size
  un : ∀ x ∈ rest, listed[x.2]? = some false
  hv : ∀ x ∈ pre, x.1 = true → listed[x.2]? = some true
  closed : ∀ (i : Nat) (o : Oper), ops[i]? = some o → listed[i]? = some true → ∀ e ∈ o.after, Region.binds .any e = true → listed[e.on]? = some true
  size : a.tmps.size = af.tmps.size
  defers : a.defers = af.defers
  slot : ∀ d, (∀ x ∈ pre, ∀ o, listed[x.2]? = some false → ops[x.2]? = some o → o.dst ≠ some d) → a.tmps[d]? = af.tmps[d]?
  pend : ∀ x ∈ pre, ∀ o, listed[x.2]? = some false → ops[x.2]? = some o → Pend P ops S af o

/-- of two of the order: what the check says of the later one -/
theorem J.push (hc : ZChk ops ix) {listed : Array Bool} {pre r : List (Bool × Nat)} {i : Nat} {a af : Act} {W W' : World} (hJ : J P ops ix S Q listed pre ((true, i) :: r) a af W) {o : Oper} (ho : ops[i]? = some o)
    (hedge : ∀ e ∈ o.after, Region.binds .any e = true → listed[e.on]? = some true) {a' b' : Act} (ha : a'.tmps = a.tmps) (hb : b'.tmps = af.tmps) (hd : a'.defers = b'.defers) (v : Value) {S' : World → Prop} (hsub : ∀ V, S' V → S V) (hs : S' W' ∨ finB ops o = true)
    (hz : zig P ops S' Q (sel ops.toList r) (b'.put o.dst v) W') : ∃ pre' rest' af', J P ops ix S' Q (listed.setIfInBounds i true) pre' rest' (a'.put o.dst v) af' W' := by
  obtain ⟨pre2, rest2, af2, e1, e2, e3, e4, e5, e6, e7, e8⟩ := lights hc r (pre ++ [(true, i)]) (b'.put o.dst v) W' (by rw [hJ.split]; simp) hz
  have hil : i < listed.size := by rw [hJ.lsize]; exact (Array.getElem?_eq_some_iff.1 ho).1
  have hsp : ix = pre ++ (true, i) :: (pre2 ++ rest2) := by rw [hJ.split, e1]
  have ne_pre : ∀ x ∈ pre, x.2 ≠ i := fun x hx e => by
    obtain ⟨l1, l2, h⟩ := List.append_of_mem hx
    obtain ⟨ox, hox⟩ := hc.get (x := x) (by rw [hsp]; exact List.mem_append_left _ hx)
    exact (hc.two (x := x) (y := (true, i)) (l1 := l1) (l2 := l2) (l3 := pre2 ++ rest2) (by rw [hsp, h]; simp) hox ho).1 e
  have ne_r : ∀ x ∈ pre2 ++ rest2, x.2 ≠ i := fun x hx e => by
    obtain ⟨l1, l2, h⟩ := List.append_of_mem hx
    obtain ⟨ox, hox⟩ := hc.get (x := x) (by rw [hsp]; exact List.mem_append_right _ (List.mem_cons_of_mem _ hx))
    exact (hc.two (x := (true, i)) (y := x) (l1 := pre) (l2 := l1) (l3 := l2) (by rw [hsp, h]) ho hox).1 e.symm
  have un_r : ∀ x ∈ pre2 ++ rest2, (listed.setIfInBounds i true)[x.2]? = some false := fun x hx => by
    rw [set_ne (ne_r x hx)]
    exact hJ.un x (List.mem_cons_of_mem _ (by rw [e1]; exact hx))
  have hs : S' W' ∨ ∀ j, j < ops.size → (listed.setIfInBounds i true)[j]? = some true := by
    rcases hs with h | h
    · exact .inl h
    · refine .inr fun j hj => ?_
      have hun := hJ.un (true, i) (List.mem_cons_self ..)
      have wait : ∀ k, k < ops.size - 1 → listed[k]? = some true := fun k hk => by
        have := List.all_eq_true.1 h k (List.mem_range.2 hk)
        exact ready_chain hJ.closed ho hedge (close_chain ho this)
      by_cases e : j = i
      · subst e; exact set_eq hil
      · rw [set_ne e]
        by_cases hl : j < ops.size - 1
        · exact wait j hl
        · have : i < ops.size - 1 := by rw [hJ.lsize] at hil; omega
          rw [wait i this] at hun
          cases hun
  refine ⟨pre ++ (true, i) :: pre2, rest2, af2, ⟨by rw [hsp]; simp, e3, hs, e4, by simp [hJ.lsize], fun x hx => un_r x (List.mem_append_right _ hx), fun x hx hx1 => ?_, fun j q hq hj e he hbd => ?_, ?_, ?_, fun d hdn => ?_, fun x hx q hxl hq => ?_⟩⟩
  · rcases List.mem_append.1 hx with hx | hx
    · exact set_keep hil (hJ.hv x hx hx1)
    · rcases List.mem_cons.1 hx with rfl | hx
      · exact set_eq hil
      · rw [e2 x hx] at hx1; cases hx1
  · by_cases e : j = i
    · subst e
      obtain rfl : o = q := Option.some.inj (ho.symm.trans hq)
      exact set_keep hil (hedge _ he hbd)
    · rw [set_ne e] at hj
      exact set_keep hil (hJ.closed j q hq hj _ he hbd)
  · rw [e5, size_put, size_put, ha, hb]; exact hJ.size
  · rw [e6, defers_put, defers_put]; exact hd
  · have h2 : af2.tmps[d]? = (b'.put o.dst v).tmps[d]? := e7 d fun x hx q hq => hdn x (List.mem_append_right _ (List.mem_cons_of_mem _ hx)) q (un_r x (List.mem_append_left _ hx)) hq
    rw [h2, slot_put, slot_put, ha, hb]
    have h3 : a.tmps[d]? = af.tmps[d]? := hJ.slot d fun x hx q hxl hq => hdn x (List.mem_append_left _ hx) q (by rw [set_ne (ne_pre x hx)]; exact hxl) hq
    rw [h3, hJ.size]
  · rcases List.mem_append.1 hx with hx | hx
    · rw [set_ne (ne_pre x hx)] at hxl
      obtain ⟨l1, l2, hl⟩ := List.append_of_mem hx
      have hi2 := hc.two (x := x) (y := (true, i)) (l1 := l1) (l2 := l2) (l3 := pre2 ++ rest2) (by rw [hsp, hl]; simp) hq ho
      have hy2 : ∀ y ∈ pre2, ∀ p, ops[y.2]? = some p → (∀ d, p.dst = some d → d ∉ q.looksAt ops) ∧ (∀ d, q.dst = some d → p.dst ≠ some d) := fun y hy p hp => by
        obtain ⟨m1, m2, hm⟩ := List.append_of_mem hy
        have h := hc.two (x := x) (y := y) (l1 := l1) (l2 := l2 ++ (true, i) :: m1) (l3 := m2 ++ rest2) (by rw [hsp, hl, hm]; simp) hq hp
        exact ⟨fun d hd hl => (by have := (h.2.2.2.1 d hd hl).1; rw [e2 y hy] at this; cases this), h.2.2.2.2⟩
      have far : ∀ d, (∀ y ∈ pre2, ∀ p, ops[y.2]? = some p → p.dst ≠ some d) → o.dst ≠ some d → af.tmps[d]? = af2.tmps[d]? := fun d h1 h2 => by
        rw [e7 d h1, slot_put_ne _ _ _ _ h2, hb]
      refine (weakP (hJ.pend x hx q hxl hq) hsub).same hc.sel hq (fun d hdl => far d (fun y hy p hp hpd => (hy2 y hy p hp).1 d hpd hdl) fun hod => ?_) (fun d hqd => far d (fun y hy p hp => (hy2 y hy p hp).2 d hqd) fun hod => hi2.2.2.2.2 d hqd hod) (by rw [e5, size_put, hb])
      have hch := (hi2.2.2.2.1 d hod hdl).2
      have := ready_chain hJ.closed ho hedge hch
      rw [hxl] at this
      cases this
    · rcases List.mem_cons.1 hx with rfl | hx
      · rw [set_eq hil] at hxl; cases hxl
      · exact e8 x hx q hq

theorem J.heavy (hc : ZChk ops ix) {listed : Array Bool} {pre r : List (Bool × Nat)} {i : Nat} {a af : Act} {W : World} (hJ : J P ops ix S Q listed pre ((true, i) :: r) a af W) {o : Oper} (ho : ops[i]? = some o)
    (hedge : ∀ e ∈ o.after, Region.binds .any e = true → listed[e.on]? = some true) {K : Act → World → Prop} (hK : ∀ S' pre' rest' a' af' W', J P ops ix S' Q (listed.setIfInBounds i true) pre' rest' a' af' W' → K a' W') :
    wpOp P ops Q i K a W := by
  have hself : ∀ d, o.dst = some d → d ∉ o.looksAt ops := by
    obtain ⟨p, hp, _, h, _⟩ := hc.at_ pre (true, i) r hJ.split
    obtain rfl : o = p := Option.some.inj (ho.symm.trans hp)
    exact h
  have same : ∀ d ∈ o.looksAt ops, a.tmps[d]? = af.tmps[d]? := fun d hd => hJ.slot d fun x hx q hxl hq hqd => by
    obtain ⟨l1, l2, hl⟩ := List.append_of_mem hx
    have h := hc.two (x := x) (y := (true, i)) (l1 := l1) (l2 := l2) (l3 := r) (by rw [hJ.split, hl]; simp) hq ho
    have := ready_chain hJ.closed ho hedge (h.2.2.1 d hqd hd)
    rw [hxl] at this
    cases this
  have hz := hJ.z
  rw [sel_cons (o := o) (by rw [Array.getElem?_toList]; exact ho)] at hz
  simp only [zig, zigL] at hz
  unfold wpOp
  rw [ho]
  simp only
  rw [want_same same]
  cases hw : Region.wanted o (yielded ops af.tmps) with
  | true =>
    rw [if_pos hw] at hz
    rw [if_pos rfl]
    refine .inl (wp_act (exec_same hc.sel ho same) (fun a' b' ha hb hd v W' h => ?_) hz)
    obtain ⟨S', h0, h1, h2⟩ := h
    obtain ⟨p, r', af', h⟩ := hJ.push hc ho hedge ha hb (hd hJ.defers) v h0 h1 h2
    exact hK _ _ _ _ _ _ h
  | false =>
    rw [if_neg (by rw [hw]; simp)] at hz
    rw [if_neg (by simp)]
    have hs : S W := by
      rcases hJ.s with h | h
      · exact h
      · have hun := hJ.un (true, i) (List.mem_cons_self ..)
        rw [h i (Array.getElem?_eq_some_iff.1 ho).1] at hun
        cases hun
    obtain ⟨p, r', af', h⟩ := hJ.push hc ho hedge rfl rfl hJ.defers undef (fun _ h => h) (.inl hs) hz
    exact hK _ _ _ _ _ _ h

theorem J.light (hc : ZChk ops ix) {listed : Array Bool} {pre rest : List (Bool × Nat)} {x : Bool × Nat} {a af : Act} {W : World} (hJ : J P ops ix S Q listed pre rest a af W) (hx : x ∈ pre) (hun : listed[x.2]? = some false) {o : Oper} (ho : ops[x.2]? = some o)
    (hedge : ∀ e ∈ o.after, Region.binds .any e = true → listed[e.on]? = some true) {K : Act → World → Prop} (hK : ∀ a', J P ops ix S Q (listed.setIfInBounds x.2 true) pre rest a' af W → K a' W) :
    wpOp P ops Q x.2 K a W := by
  have hil : x.2 < listed.size := (Array.getElem?_eq_some_iff.1 hun).1
  have hself : ∀ d, o.dst = some d → d ∉ o.looksAt ops := by
    obtain ⟨l1, l2, hl⟩ := List.append_of_mem hx
    obtain ⟨p, hp, _, h, _⟩ := hc.at_ l1 x (l2 ++ rest) (by rw [hJ.split, hl]; simp)
    obtain rfl : o = p := Option.some.inj (ho.symm.trans hp)
    exact h
  have same : ∀ d ∈ o.looksAt ops, a.tmps[d]? = af.tmps[d]? := fun d hd => hJ.slot d fun y hy q hyl hq hqd => by
    by_cases e : x = y
    · subst e
      obtain rfl : o = q := Option.some.inj (ho.symm.trans hq)
      exact hself d hqd hd
    · rcases two_split e hx hy with ⟨l1, l2, l3, h⟩ | ⟨l1, l2, l3, h⟩
      · have h := hc.two (x := x) (y := y) (l1 := l1) (l2 := l2) (l3 := l3 ++ rest) (by rw [hJ.split, h]; simp) ho hq
        have := hJ.hv y hy (h.2.2.2.1 d hqd hd).1
        rw [hyl] at this
        cases this
      · have h := hc.two (x := y) (y := x) (l1 := l1) (l2 := l2) (l3 := l3 ++ rest) (by rw [hJ.split, h]; simp) hq ho
        have := ready_chain hJ.closed ho hedge (h.2.2.1 d hqd hd)
        rw [hyl] at this
        cases this
  obtain ⟨v, h1, h2, h3⟩ := hJ.pend x hx o hun ho
  have hS : S W := by
    rcases hJ.s with h | h
    · exact h
    · rw [h x.2 (Array.getElem?_eq_some_iff.1 ho).1] at hun
      cases hun
  have hJ' : J P ops ix S Q (listed.setIfInBounds x.2 true) pre rest (a.put o.dst v) af W := by
    have ne_rest : ∀ y ∈ rest, y.2 ≠ x.2 := fun y hy e => by
      obtain ⟨l1, l2, hl⟩ := List.append_of_mem hx
      obtain ⟨m1, m2, hm⟩ := List.append_of_mem hy
      obtain ⟨q, hq⟩ := hc.get (x := y) (by rw [hJ.split]; exact List.mem_append_right _ hy)
      exact (hc.two (x := x) (y := y) (l1 := l1) (l2 := l2 ++ m1) (l3 := m2) (by rw [hJ.split, hl, hm]; simp) ho hq).1 e.symm
    refine ⟨hJ.split, hJ.head, .inl hS, hJ.z, by simp [hJ.lsize], fun y hy => ?_, fun y hy hy1 => set_keep hil (hJ.hv y hy hy1), fun j q hq hj e he hbd => ?_, by rw [size_put]; exact hJ.size, by rw [defers_put]; exact hJ.defers, fun d hdn => ?_, fun y hy q hyl hq => ?_⟩
    · rw [set_ne (ne_rest y hy)]; exact hJ.un y hy
    · by_cases e' : j = x.2
      · subst e'
        obtain rfl : o = q := Option.some.inj (ho.symm.trans hq)
        exact set_keep hil (hedge _ he hbd)
      · rw [set_ne e'] at hj
        exact set_keep hil (hJ.closed j q hq hj _ he hbd)
    · rw [slot_put]
      by_cases hd : o.dst = some d
      · by_cases hlt : d < a.tmps.size
        · rw [if_pos ⟨hd, hlt⟩]
          exact (h3 d hd (by rw [← hJ.size]; exact hlt)).symm
        · rw [if_neg (fun h => hlt h.2), Array.getElem?_eq_none (Nat.le_of_not_lt hlt), Array.getElem?_eq_none (by rw [← hJ.size]; exact Nat.le_of_not_lt hlt)]
      · rw [if_neg (fun h => hd h.1)]
        refine hJ.slot d fun y hy q hyl hq => ?_
        by_cases e' : y.2 = x.2
        · rw [e'] at hq
          obtain rfl : o = q := Option.some.inj (ho.symm.trans hq)
          exact hd
        · exact hdn y hy q (by rw [set_ne e']; exact hyl) hq
    · by_cases e' : y.2 = x.2
      · rw [e', set_eq hil] at hyl; cases hyl
      · rw [set_ne e'] at hyl
        exact hJ.pend y hy q hyl hq
  unfold wpOp
  rw [ho]
  simp only
  rw [want_same same]
  cases hw : Region.wanted o (yielded ops af.tmps) with
  | true =>
    rw [if_pos rfl]
    refine .inl (wp_of_light (v := v) ?_ (hK _ hJ'))
    rw [exec_same hc.sel ho same]
    exact h1 hw W hS
  | false =>
    rw [if_neg (by simp), ← h2 hw]
    exact hK _ hJ'

theorem wpAny_of_J (hc : ZChk ops ix) : ∀ (fuel : Nat) (S : World → Prop) (listed : Array Bool) (pre rest : List (Bool × Nat)) (a af : Act) (W : World), listed.toList.count false ≤ fuel → J P ops ix S Q listed pre rest a af W → wpAny P .any ops Q fuel listed a W := by
  intro fuel
  have alldone : ∀ (S : World → Prop) (listed : Array Bool) (pre rest : List (Bool × Nat)) (a af : Act) (W : World), J P ops ix S Q listed pre rest a af W → (∀ j, j < ops.size → listed[j]? = some true) → Region.ready .any ops listed = [] ∧ Q .normal a W := by
    intro S listed pre rest a af W hJ hall
    refine ⟨?_, ?_⟩
    · cases hr : Region.ready .any ops listed with
      | nil => rfl
      | cons i l =>
        have : i ∈ Region.ready .any ops listed := by rw [hr]; exact List.mem_cons_self ..
        obtain ⟨h1, p, hp, _⟩ := mem_ready.1 this
        have h2 := getD_true h1
        rw [hall i (Array.getElem?_eq_some_iff.1 hp).1] at h2
        cases h2
    · have hrest : rest = [] := by
        cases rest with
        | nil => rfl
        | cons x r =>
          have h1 := hJ.un x (List.mem_cons_self ..)
          rw [hall x.2 (by rw [← hJ.lsize]; exact (Array.getElem?_eq_some_iff.1 h1).1)] at h1
          cases h1
      subst hrest
      have hz : Q .normal af W := hJ.z
      have ht : a.tmps = af.tmps := by
        apply Array.ext_getElem?
        intro d
        refine hJ.slot d fun x hx q hxl hq => ?_
        rw [hall x.2 (Array.getElem?_eq_some_iff.1 hq).1] at hxl
        cases hxl
      have he : a = af := by
        have hd := hJ.defers
        cases a; cases af
        simp only at ht hd
        subst ht; subst hd
        rfl
      rw [he]; exact hz
  -- the first of the order that has not been done
  have first : ∀ (S : World → Prop) (listed : Array Bool) (pre rest : List (Bool × Nat)) (a af : Act) (W : World), J P ops ix S Q listed pre rest a af W → ¬ (∀ j, j < ops.size → listed[j]? = some true) → ∃ l1 x l2, ix = l1 ++ x :: l2 ∧ listed[x.2]? = some false ∧ ∀ y ∈ l1, listed[y.2]? = some true := by
    intro S listed pre rest a af W hJ hn
    have ex : ∀ (l m : List (Bool × Nat)), ix = m ++ l → (∀ y ∈ m, listed[y.2]? = some true) → (∀ y ∈ l, listed[y.2]? = some true) ∨ ∃ l1 x l2, ix = l1 ++ x :: l2 ∧ listed[x.2]? = some false ∧ ∀ y ∈ l1, listed[y.2]? = some true := by
      intro l
      induction l with
      | nil => intro m _ _; exact .inl fun y hy => by cases hy
      | cons x l ih =>
        intro m hm hall
        obtain ⟨o, ho⟩ := hc.get (x := x) (by rw [hm]; simp)
        have hlt : x.2 < listed.size := by rw [hJ.lsize]; exact (Array.getElem?_eq_some_iff.1 ho).1
        cases hb : listed[x.2]'hlt with
        | false => exact .inr ⟨m, x, l, hm, by rw [Array.getElem?_eq_getElem hlt, hb], hall⟩
        | true =>
          have hx : listed[x.2]? = some true := by rw [Array.getElem?_eq_getElem hlt, hb]
          rcases ih (m ++ [x]) (by rw [hm]; simp) (fun y hy => by
            rcases List.mem_append.1 hy with hy | hy
            · exact hall y hy
            · rw [List.mem_singleton.1 hy]; exact hx) with h | h
          · exact .inl fun y hy => by
              rcases List.mem_cons.1 hy with rfl | hy
              · exact hx
              · exact h y hy
          · exact .inr h
    rcases ex ix [] rfl (fun y hy => by cases hy) with h | h
    · exact absurd (fun j hj => by obtain ⟨x, hx, e⟩ := hc.all j hj; rw [← e]; exact h x hx) hn
    · exact h
  induction fuel with
  | zero =>
    intro S listed pre rest a af W hf hJ
    by_cases hall : ∀ j, j < ops.size → listed[j]? = some true
    · exact alldone _ listed pre rest a af W hJ hall
    · obtain ⟨l1, x, l2, _, hl, _⟩ := first _ listed pre rest a af W hJ hall
      exfalso
      have : false ∈ listed.toList := by
        rw [← Array.getElem?_toList] at hl
        exact List.mem_of_getElem? hl
      have := List.count_pos_iff.2 this
      omega
  | succ fuel ih =>
    intro S listed pre rest a af W hf hJ
    by_cases hall : ∀ j, j < ops.size → listed[j]? = some true
    · obtain ⟨h1, h2⟩ := alldone _ listed pre rest a af W hJ hall
      exact ⟨fun _ => h2, fun i hi => by rw [h1] at hi; cases hi⟩
    · obtain ⟨l1, x, l2, hix, hl, hm⟩ := first _ listed pre rest a af W hJ hall
      obtain ⟨o, ho, hed, _⟩ := hc.at_ l1 x l2 hix
      have hrj : x.2 ∈ Region.ready .any ops listed := ready_of ho hl (fun e he hb => by
        obtain ⟨y, hy, hye⟩ := hed e he hb
        rw [← hye]; exact hm y hy)
      refine ⟨fun h0 => (by rw [h0] at hrj; cases hrj), fun i hi => ?_⟩
      obtain ⟨h1, p, hp, hedge⟩ := mem_ready.1 hi
      have hun := getD_true h1
      have hedge' : ∀ e ∈ p.after, Region.binds .any e = true → listed[e.on]? = some true := fun e he hb => getD_false (hedge e he hb)
      have hcnt : (listed.setIfInBounds i true).toList.count false ≤ fuel := by
        have := count_set (l := listed.toList) (i := i) (by rw [Array.getElem?_toList]; exact hun)
        rw [Array.toList_setIfInBounds]
        omega
      obtain ⟨y, hy, rfl⟩ := hc.all i (Array.getElem?_eq_some_iff.1 hp).1
      rw [hJ.split] at hy
      rcases List.mem_append.1 hy with hy | hy
      · exact hJ.light hc hy hun hp hedge' fun a' hJ' => ih _ _ _ _ _ _ _ hcnt hJ'
      · rcases hJ.head with h | ⟨n, r, h⟩
        · rw [h] at hy; cases hy
        · subst h
          rcases List.mem_cons.1 hy with rfl | hy
          · exact hJ.heavy hc hp hedge' fun S' pre' rest' a' af' W' hJ' => ih _ _ _ _ _ _ _ hcnt hJ'
          · exfalso
            obtain ⟨m1, m2, hm'⟩ := List.append_of_mem hy
            obtain ⟨q, hq⟩ := hc.get (x := (true, n)) (by rw [hJ.split]; simp)
            have h2 := hc.two (x := (true, n)) (y := y) (l1 := pre) (l2 := m1) (l3 := m2) (by rw [hJ.split, hm']) hq hp
            have := ready_chain hJ.closed hp hedge' (h2.2.1 rfl)
            rw [hJ.un (true, n) (List.mem_cons_self ..)] at this
            cases this

/-- ONE WALK, THE OPERATIONS THAT ONLY READ BETWEEN THE OTHERS, SERVES EVERY ORDER. 'ix': the order of the walk, with a mark at each operation that does more than read. 'S': what each world of the walk keeps -/
theorem wp_region_zigS {id : Nat} {a : Act} {w : World} (ix : List (Bool × Nat)) (S : World → Prop) (hm : P.follows .mixedOrders = true) (hB : zB ops ix = true) (hS : S w.drew)
    (h : zig P ops S Q (sel ops.toList ix) a w.drew) : (Code.region id ops true).wp P Q a w := by
  have hc := ZChk.of hB
  obtain ⟨pre2, rest2, af, e1, e2, e3, e4, e5, e6, e7, e8⟩ := lights hc ix [] a w.drew rfl h
  have hl : ∀ j, j < ops.size → (Array.replicate ops.size false)[j]? = some false := fun j hj => by simp [hj]
  have hno : ∀ j : Nat, (Array.replicate ops.size false)[j]? ≠ some true := fun j hj => by
    have := (Array.getElem?_eq_some_iff.1 hj)
    simp at this
  have hlt : ∀ x ∈ ix, x.2 < ops.size := fun x hx => by
    obtain ⟨o, ho⟩ := hc.get hx
    exact (Array.getElem?_eq_some_iff.1 ho).1
  refine wp_region_any hm (wpAny_of_J hc ops.size S _ pre2 rest2 a af _ (by simp) ⟨e1, e3, .inl hS, e4, by simp, fun x hx => hl _ (hlt x (by rw [e1]; exact List.mem_append_right _ hx)), (fun x hx hx1 => by rw [e2 x hx] at hx1; cases hx1), fun i o _ hi => absurd hi (hno i), e5.symm, e6.symm,
    fun d hd => (e7 d fun x hx q hq => hd x hx q (hl _ (hlt x (by rw [e1]; exact List.mem_append_left _ hx))) hq).symm, fun x hx q _ hq => e8 x hx q hq⟩)

/-! ### the walk -/
theorem zig_step {o : Oper} {rest : List (Bool × Oper)} {a : Act} {w : World} (h : ∀ K : Act → Prop, (∀ a, zig P ops S Q rest a w → K a) → if Region.wanted o (yielded ops a.tmps) then lightK P S o a K else K (a.put o.dst undef)) : zig P ops S Q ((false, o) :: rest) a w := by
  have h := h _ (fun _ h => h)
  simp only [zig, zigL]
  split
  · rename_i hw
    rw [if_pos hw] at h
    obtain ⟨v, h1, h2⟩ := h
    exact ⟨v, fun W hW => h1 ⟨W, hW⟩, h2⟩
  · rename_i hw
    rw [if_neg hw] at h
    exact h
theorem zig_do {o : Oper} {rest : List (Bool × Oper)} {a : Act} {w : World} (hw : Region.wanted o (yielded ops a.tmps) = true)
    (h : ∀ K : Act → World → Prop, (∀ a W, S W → zig P ops S Q rest a W → K a W) → o.wp P a w K (fun _ _ _ => False)) : zig P ops S Q ((true, o) :: rest) a w := by
  simp only [zig, zigL]
  rw [if_pos hw]
  exact h _ fun a W h1 h2 => ⟨S, fun _ h => h, .inl h1, h2⟩
/-- .. and what the worlds behind it keep is now S' -/
theorem zig_more {o : Oper} {rest : List (Bool × Oper)} {a : Act} {w : World} (hw : Region.wanted o (yielded ops a.tmps) = true)
    (h : ∀ K : Act → World → Prop, (∀ a W (S' : World → Prop), (∀ V, S' V → S V) → S' W → zig P ops S' Q rest a W → K a W) → o.wp P a w K (fun _ _ _ => False)) : zig P ops S Q ((true, o) :: rest) a w := by
  simp only [zig, zigL]
  rw [if_pos hw]
  exact h _ fun a W S' h0 h1 h2 => ⟨S', h0, .inl h1, h2⟩
/-- the last operation, which waits for all others: its world need not keep S -/
theorem zig_end {o : Oper} {rest : List (Bool × Oper)} {a : Act} {w : World} (hw : Region.wanted o (yielded ops a.tmps) = true) (hf : finB ops o = true)
    (h : ∀ K : Act → World → Prop, (∀ a W, zig P ops S Q rest a W → K a W) → o.wp P a w K (fun _ _ _ => False)) : zig P ops S Q ((true, o) :: rest) a w := by
  simp only [zig, zigL]
  rw [if_pos hw]
  exact h _ fun a W h2 => ⟨S, fun _ h => h, .inr hf, h2⟩
theorem zig_skip {o : Oper} {rest : List (Bool × Oper)} {a : Act} {w : World} (hw : Region.wanted o (yielded ops a.tmps) = false) (h : zig P ops S Q rest (a.put o.dst undef) w) : zig P ops S Q ((true, o) :: rest) a w := by
  simp only [zig, zigL]
  rw [if_neg (by rw [hw]; simp)]
  exact h
theorem zig_nil {a : Act} {w : World} (h : wpList P ops Q [] a w) : zig P ops S Q [] a w := h
end
end Go.Proofs.Ytibpipppabommaa.ZigS
