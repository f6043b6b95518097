/- A region that draws its order, of which what writes may float: one walk for each order of those that do more than read; what only reads floats. -/
import Derived.Test.YtgeiafijibgdhaaZig
set_option linter.unusedVariables false
set_option linter.unusedSimpArgs false
namespace Go.Proofs.Ytgeiafijibgdhaa.Zag
open Go Go.RowKit
open RelyT (Chain reachTab chain_of slot_put slot_put_ne size_put defers_put getD_eq eval_congr wanted_congr getD_true getD_false getD_of ready_of count_set)
open Zig (lightR Pend exec_same want_same ready_chain clo wp_act set_ne set_eq set_keep wp_of_light close_chain)

def enB (D : List Nat) (o : Oper) : Bool := o.after.toList.all fun e => !Region.binds .any e || D.contains e.on
def chB (tab : List (List Nat)) (j i : Nat) : Bool := (tab.getD j []).contains i
/-- who looks at what this one writes waits for it -/
def lightB (ops : Array Oper) (i : Nat) (o : Oper) : Bool := let tab := reachTab ops.toList
  match o.dst with
  | none => true
  | some d => (List.range ops.size).all fun j => j == i || (match (ops[j]? : Option Oper) with | some p => !(p.looksAt ops).contains d || chB tab j i | none => true)
def pairB (ops : Array Oper) (tab : List (List Nat)) (i j : Nat) : Bool := match (ops[i]? : Option Oper), (ops[j]? : Option Oper) with
  | some o, some p => (match o.dst, p.dst with | some d, some e => d != e | _, _ => true) && (match o.dst with | some d => !(p.looksAt ops).contains d || chB tab j i || chB tab i j | none => true)
  | _, _ => true
def zagB (ops : Array Oper) : Bool := let tab := reachTab ops.toList
  Region.noSelect ops && (List.range ops.size).all fun i =>
    (match (ops[i]? : Option Oper) with
      | some o => o.after.all (fun e => !Region.binds .any e || decide (e.on < i)) && (match o.dst with | some d => !(o.looksAt ops).contains d | none => true)
      | none => true) && (List.range ops.size).all fun j => i == j || pairB ops tab i j

structure Chk (ops : Array Oper) : Prop where
  sel : Region.noSelect ops = true
  low : ∀ (i : Nat) (o : Oper), ops[i]? = some o → ∀ e ∈ o.after, Region.binds .any e = true → e.on < i
  self : ∀ (i : Nat) (o : Oper), ops[i]? = some o → ∀ d, o.dst = some d → d ∉ o.looksAt ops
  two : ∀ (i j : Nat) (o p : Oper), ops[i]? = some o → ops[j]? = some p → i ≠ j → (∀ d, o.dst = some d → p.dst ≠ some d) ∧ (∀ d, o.dst = some d → d ∈ p.looksAt ops → Chain ops j i ∨ Chain ops i j)
theorem Chk.of {ops : Array Oper} (h : zagB ops = true) : Chk ops := by
  simp only [zagB, Bool.and_eq_true] at h
  obtain ⟨h1, h2⟩ := h
  have at_ : ∀ (i : Nat) (o : Oper), ops[i]? = some o → _ := fun i o ho => List.all_eq_true.1 h2 i (List.mem_range.2 (Array.getElem?_eq_some_iff.1 ho).1)
  refine ⟨h1, fun i o ho e he hb => ?_, fun i o ho d hd hl => ?_, fun i j o p ho hp hne => ?_⟩
  · have := at_ i o ho
    simp only [ho, Bool.and_eq_true] at this
    have := Array.all_eq_true_iff_forall_mem.1 this.1.1 e he
    simpa [hb] using this
  · have := at_ i o ho
    simp only [ho, Bool.and_eq_true, hd] at this
    have := this.1.2
    rw [List.contains_iff_mem.2 hl] at this
    cases this
  · have := at_ i o ho
    simp only [Bool.and_eq_true] at this
    have := List.all_eq_true.1 this.2 j (List.mem_range.2 (Array.getElem?_eq_some_iff.1 hp).1)
    simp only [Bool.or_eq_true, beq_iff_eq, hne, false_or, pairB, ho, hp, Bool.and_eq_true] at this
    obtain ⟨k1, k2⟩ := this
    refine ⟨fun d hd he => ?_, fun d hd hl => ?_⟩
    · rw [hd, he] at k1
      simp at k1
    · rw [hd] at k2
      simp only [Bool.or_eq_true, Bool.not_eq_true'] at k2
      rcases k2 with (k2 | k2) | k2
      · rw [List.contains_iff_mem.2 hl] at k2; cases k2
      · exact .inl (chain_of k2)
      · exact .inr (chain_of k2)
theorem light_of {ops : Array Oper} {i : Nat} {o : Oper} (h : lightB ops i o = true) : ∀ (j : Nat) (p : Oper), ops[j]? = some p → j ≠ i → ∀ d, o.dst = some d → d ∈ p.looksAt ops → Chain ops j i := by
  intro j p hp hne d hd hl
  unfold lightB at h
  rw [hd] at h
  have := List.all_eq_true.1 h j (List.mem_range.2 (Array.getElem?_eq_some_iff.1 hp).1)
  simp only [Bool.or_eq_true, beq_iff_eq, hne, false_or, hp, Bool.not_eq_true'] at this
  rcases this with k | k
  · rw [List.contains_iff_mem.2 hl] at k; cases k
  · exact chain_of k
theorem en_of {D : List Nat} {o : Oper} (h : enB D o = true) : ∀ e ∈ o.after, Region.binds .any e = true → e.on ∈ D := fun e he hb => by
  have := List.all_eq_true.1 h e (Array.mem_toList_iff.2 he)
  simpa [hb] using this

/-- all those that read memory are done when this one is -/
def finM (ops : Array Oper) (M : List Nat) (o : Oper) : Bool := let l := RelyT.closeOver (reachTab ops.toList) o; M.all fun j => l.contains j
def SI (M : List Nat) (S : World → Prop) (i : Nat) (W : World) : Prop := M.contains i = true → S W
section
variable (P : Program) (ops : Array Oper) (M : List Nat) (S : World → Prop) (Q : Exit → Act → World → Prop)
def treat (n : Nat) (ZT : List Nat → Act → World → Prop) (D : List Nat) (a : Act) (w : World) (i : Nat) (o : Oper) : Prop :=
  if Region.wanted o (yielded ops a.tmps) then o.wp P a w (fun a' W => (S W ∨ finM ops M o = true) ∧ ZT (i :: D) a' W) (fun _ _ _ => False) else ZT (i :: D) (a.put o.dst undef) w
def ZT : Nat → List Nat → Act → World → Prop
  | 0, _, a, w => Q .normal a w
  | n + 1, D, a, w =>
    (∃ (i : Nat) (o : Oper) (v : Value), ops[i]? = some o ∧ D.contains i = false ∧ enB D o = true ∧ lightB ops i o = true ∧ (Region.wanted o (yielded ops a.tmps) = true → ∀ W, SI M S i W → lightR P W v ((execOp a.eval o).run P W)) ∧ (Region.wanted o (yielded ops a.tmps) = false → v = undef) ∧ ZT n (i :: D) (a.put o.dst v) w) ∨
    (∀ (i : Nat) (o : Oper), ops[i]? = some o → D.contains i = false → enB D o = true → treat P ops M S n (ZT n) D a w i o)
end

section
variable {P : Program} {ops : Array Oper} {M : List Nat} {S : World → Prop} {Q : Exit → Act → World → Prop}

structure J (P : Program) (ops : Array Oper) (M : List Nat) (S : World → Prop) (Q : Exit → Act → World → Prop) (listed : Array Bool) (n : Nat) (D : List Nat) (a af : Act) (W : World) : Prop where
  z : ZT P ops M S Q n D af W
  lsize : listed.size = ops.size
  nodup : D.Nodup
  range : ∀ i ∈ D, i < ops.size
  count : n + D.length = ops.size
  sub : ∀ i, listed[i]? = some true → i ∈ D
  s : S W ∨ ∀ j ∈ M, listed[j]? = some true
  closedD : ∀ (i : Nat) (o : Oper), ops[i]? = some o → i ∈ D → ∀ e ∈ o.after, Region.binds .any e = true → e.on ∈ D
  closed : ∀ (i : Nat) (o : Oper), ops[i]? = some o → listed[i]? = some true → ∀ e ∈ o.after, Region.binds .any e = true → listed[e.on]? = some true
  size : a.tmps.size = af.tmps.size
  defers : a.defers = af.defers
  slot : ∀ d, (∀ i ∈ D, listed[i]? = some false → ∀ o, ops[i]? = some o → o.dst ≠ some d) → a.tmps[d]? = af.tmps[d]?
  pend : ∀ i ∈ D, listed[i]? = some false → ∀ o, ops[i]? = some o → lightB ops i o = true ∧ Pend P ops (SI M S i) af o

theorem chainD {D : List Nat} (h : ∀ (i : Nat) (o : Oper), ops[i]? = some o → i ∈ D → ∀ e ∈ o.after, Region.binds .any e = true → e.on ∈ D) {m n : Nat} (hch : Chain ops m n) : m ∈ D → n ∈ D := by
  induction hch with
  | one ho he hb => exact fun k => h _ _ ho k _ he hb
  | step ho he hb _ ih => exact fun k => ih (h _ _ ho k _ he hb)
theorem chain_en {D : List Nat} (h : ∀ (i : Nat) (o : Oper), ops[i]? = some o → i ∈ D → ∀ e ∈ o.after, Region.binds .any e = true → e.on ∈ D) {i n : Nat} {o : Oper} (ho : ops[i]? = some o) (hen : ∀ e ∈ o.after, Region.binds .any e = true → e.on ∈ D) (hch : Chain ops i n) : n ∈ D := by
  cases hch with
  | one ho' he hb => obtain rfl := Option.some.inj (ho.symm.trans ho'); exact hen _ he hb
  | step ho' he hb hc => obtain rfl := Option.some.inj (ho.symm.trans ho'); exact chainD h hc (hen _ he hb)
/-- what a pending one looks at is the same here and there -/
theorem J.same (hc : Chk ops) {listed : Array Bool} {n : Nat} {D : List Nat} {a af : Act} {W : World} (hJ : J P ops M S Q listed n D a af W) {i : Nat} {o : Oper} (ho : ops[i]? = some o) (hedge : ∀ e ∈ o.after, Region.binds .any e = true → listed[e.on]? = some true) :
    ∀ d ∈ o.looksAt ops, a.tmps[d]? = af.tmps[d]? := fun d hd => hJ.slot d fun j hj hjl q hq hqd => by
  by_cases e : j = i
  · subst e
    obtain rfl : o = q := Option.some.inj (ho.symm.trans hq)
    exact hc.self j o ho d hqd hd
  · have hch := light_of (hJ.pend j hj hjl q hq).1 i o ho (fun h => e h.symm) d hqd hd
    have := ready_chain hJ.closed ho hedge hch
    rw [hjl] at this
    cases this

/-- the walk through those that only read -/
theorem J.norm (hc : Chk ops) : ∀ (n : Nat) {listed : Array Bool} {D : List Nat} {a af : Act} {W : World}, J P ops M S Q listed n D a af W →
    ∃ (n' : Nat) (D' : List Nat) (af' : Act), J P ops M S Q listed n' D' a af' W ∧ (n' = 0 ∨ ∃ m, n' = m + 1 ∧ ∀ (i : Nat) (o : Oper), ops[i]? = some o → D'.contains i = false → enB D' o = true → treat P ops M S m (ZT P ops M S Q m) D' af' W i o)
  | 0, listed, D, a, af, W, hJ => ⟨0, D, af, hJ, .inl rfl⟩
  | n + 1, listed, D, a, af, W, hJ => by
    have hz := hJ.z
    simp only [ZT] at hz
    rcases hz with ⟨i, o, v, ho, hin, hen, hli, h1, h2, h3⟩ | hz
    · have hiD : i ∉ D := fun h => by rw [List.contains_iff_mem.2 h] at hin; cases hin
      have hlt := (Array.getElem?_eq_some_iff.1 ho).1
      have hil : listed[i]? = some false := by
        have hl : i < listed.size := by rw [hJ.lsize]; exact hlt
        cases hb : listed[i]'hl with
        | false => rw [Array.getElem?_eq_getElem hl, hb]
        | true => exact absurd (hJ.sub i (by rw [Array.getElem?_eq_getElem hl, hb])) hiD
      have hlight := light_of hli
      have self := hc.self i o ho
      -- what the pending ones look at does not change
      have far : ∀ j ∈ D, ∀ q, ops[j]? = some q → ∀ d ∈ q.looksAt ops, o.dst ≠ some d := fun j hj q hq d hd hod => by
        have hne : j ≠ i := fun e => hiD (e ▸ hj)
        exact hiD (chainD hJ.closedD (hlight j q hq hne d hod hd) hj)
      have sameo : ∀ d ∈ o.looksAt ops, af.tmps[d]? = (af.put o.dst v).tmps[d]? := fun d hd => (slot_put_ne af o.dst v d fun e => self d e hd).symm
      refine J.norm hc n (listed := listed) (D := i :: D) (a := a) (af := af.put o.dst v) (W := W) ⟨h3, hJ.lsize, List.nodup_cons.2 ⟨hiD, hJ.nodup⟩, fun j hj => ?_, ?_, fun j hj => List.mem_cons_of_mem _ (hJ.sub j hj), hJ.s, fun j q hq hj e he hb => ?_, hJ.closed, by rw [size_put]; exact hJ.size, by rw [defers_put]; exact hJ.defers, fun d hd => ?_, fun j hj hjl q hq => ?_⟩
      · rcases List.mem_cons.1 hj with rfl | hj
        · exact hlt
        · exact hJ.range j hj
      · have := hJ.count
        rw [List.length_cons]
        omega
      · rcases List.mem_cons.1 hj with rfl | hj
        · obtain rfl : o = q := Option.some.inj (ho.symm.trans hq)
          exact List.mem_cons_of_mem _ (en_of hen e he hb)
        · exact List.mem_cons_of_mem _ (hJ.closedD j q hq hj e he hb)
      · rw [slot_put_ne af o.dst v d (hd i (List.mem_cons_self ..) hil o ho)]
        exact hJ.slot d fun j hj => hd j (List.mem_cons_of_mem _ hj)
      · rcases List.mem_cons.1 hj with rfl | hj
        · obtain rfl : o = q := Option.some.inj (ho.symm.trans hq)
          refine ⟨hli, v, ?_, ?_, fun d hd hlt => ?_⟩
          · rw [← want_same sameo, ← exec_same hc.sel ho sameo]; exact h1
          · rw [← want_same sameo]; exact h2
          · rw [slot_put, if_pos ⟨hd, by rwa [size_put] at hlt⟩]
        · obtain ⟨k1, k2⟩ := hJ.pend j hj hjl q hq
          have hne : i ≠ j := fun e => hiD (e ▸ hj)
          exact ⟨k1, k2.same hc.sel hq (fun d hd => (slot_put_ne af o.dst v d (far j hj q hq d hd)).symm) (fun d hqd => (slot_put_ne af o.dst v d fun e => (hc.two i j o q ho hq hne).1 d e hqd).symm) (by rw [size_put])⟩
    · exact ⟨n + 1, D, af, hJ, .inr ⟨n, rfl, hz⟩⟩

/-- one that was walked already is done -/
theorem J.light (hc : Chk ops) {listed : Array Bool} {n : Nat} {D : List Nat} {a af : Act} {W : World} (hJ : J P ops M S Q listed n D a af W) {i : Nat} {o : Oper} (hi : i ∈ D) (hun : listed[i]? = some false) (ho : ops[i]? = some o)
    (hedge : ∀ e ∈ o.after, Region.binds .any e = true → listed[e.on]? = some true) {K : Act → World → Prop} (hK : ∀ a', J P ops M S Q (listed.setIfInBounds i true) n D a' af W → K a' W) : wpOp P ops Q i K a W := by
  have hil : i < listed.size := (Array.getElem?_eq_some_iff.1 hun).1
  have same := hJ.same hc ho hedge
  obtain ⟨hli, v, h1, h2, h3⟩ := hJ.pend i hi hun o ho
  have hS : SI M S i W := fun hm => by
    rcases hJ.s with h | h
    · exact h
    · rw [h i (List.contains_iff_mem.1 hm)] at hun
      cases hun
  have hJ' : J P ops M S Q (listed.setIfInBounds i true) n D (a.put o.dst v) af W := by
    refine ⟨hJ.z, by simp [hJ.lsize], hJ.nodup, hJ.range, hJ.count, fun j hj => ?_, hJ.s.imp id fun h j hj => set_keep hil (h j hj), hJ.closedD, fun j q hq hj e he hbd => ?_, by rw [size_put]; exact hJ.size, by rw [defers_put]; exact hJ.defers, fun d hdn => ?_, fun j hj hjl q hq => ?_⟩
    · by_cases e : j = i
      · exact e ▸ hi
      · rw [set_ne e] at hj; exact hJ.sub j hj
    · by_cases e' : j = i
      · subst e'
        obtain rfl : o = q := Option.some.inj (ho.symm.trans hq)
        exact set_keep hil (hedge _ he hbd)
      · rw [set_ne e'] at hj
        exact set_keep hil (hJ.closed j q hq hj _ he hbd)
    · rw [slot_put]
      by_cases hd : o.dst = some d
      · by_cases hlt : d < a.tmps.size
        · rw [if_pos ⟨hd, hlt⟩]
          exact (h3 d hd (by rw [← hJ.size]; exact hlt)).symm
        · rw [if_neg (fun h => hlt h.2), Array.getElem?_eq_none (Nat.le_of_not_lt hlt), Array.getElem?_eq_none (by rw [← hJ.size]; exact Nat.le_of_not_lt hlt)]
      · rw [if_neg (fun h => hd h.1)]
        refine hJ.slot d fun j hj hjl q hq => ?_
        by_cases e' : j = i
        · subst e'
          obtain rfl : o = q := Option.some.inj (ho.symm.trans hq)
          exact hd
        · exact hdn j hj (by rw [set_ne e']; exact hjl) q hq
    · by_cases e' : j = i
      · rw [e', set_eq hil] at hjl; cases hjl
      · rw [set_ne e'] at hjl
        exact hJ.pend j hj hjl q hq
  unfold wpOp
  rw [ho]
  simp only
  rw [want_same same]
  cases hw : Region.wanted o (yielded ops af.tmps) with
  | true =>
    rw [if_pos rfl]
    refine .inl (wp_of_light (v := v) ?_ (hK _ hJ'))
    rw [exec_same hc.sel ho same]
    exact h1 hw W hS
  | false =>
    rw [if_neg (by simp), ← h2 hw]
    exact hK _ hJ'

/-- one that does more -/
theorem J.push (hc : Chk ops) {listed : Array Bool} {m : Nat} {D : List Nat} {a af : Act} {W W' : World} (hJ : J P ops M S Q listed (m + 1) D a af W) {i : Nat} {o : Oper} (hi : i ∉ D) (ho : ops[i]? = some o)
    (hedge : ∀ e ∈ o.after, Region.binds .any e = true → listed[e.on]? = some true) {a' b' : Act} (ha : a'.tmps = a.tmps) (hb : b'.tmps = af.tmps) (hd : a'.defers = b'.defers) (v : Value) (hs : S W' ∨ finM ops M o = true ∨ ∀ j ∈ M, listed[j]? = some true)
    (hz : ZT P ops M S Q m (i :: D) (b'.put o.dst v) W') : J P ops M S Q (listed.setIfInBounds i true) m (i :: D) (a'.put o.dst v) (b'.put o.dst v) W' := by
  have hlt := (Array.getElem?_eq_some_iff.1 ho).1
  have hil : i < listed.size := by rw [hJ.lsize]; exact hlt
  have hne : ∀ j ∈ D, j ≠ i := fun j hj e => hi (e ▸ hj)
  refine ⟨hz, by simp [hJ.lsize], List.nodup_cons.2 ⟨hi, hJ.nodup⟩, fun j hj => ?_, ?_, fun j hj => ?_, ?_, fun j q hq hj e he hbd => ?_, fun j q hq hj e he hbd => ?_, by rw [size_put, size_put, ha, hb]; exact hJ.size, by rw [defers_put, defers_put]; exact hd, fun d hdn => ?_, fun j hj hjl q hq => ?_⟩
  · rcases List.mem_cons.1 hj with rfl | hj
    · exact hlt
    · exact hJ.range j hj
  · have := hJ.count
    rw [List.length_cons]
    omega
  · by_cases e : j = i
    · rw [e]; exact List.mem_cons_self ..
    · rw [set_ne e] at hj; exact List.mem_cons_of_mem _ (hJ.sub j hj)
  · rcases hs with h | h | h
    · exact .inl h
    · refine .inr fun j hj => ?_
      have := List.all_eq_true.1 h j hj
      exact set_keep hil (ready_chain hJ.closed ho hedge (close_chain ho this))
    · exact .inr fun j hj => set_keep hil (h j hj)
  · rcases List.mem_cons.1 hj with rfl | hj
    · obtain rfl : o = q := Option.some.inj (ho.symm.trans hq)
      exact List.mem_cons_of_mem _ (hJ.sub _ (hedge e he hbd))
    · exact List.mem_cons_of_mem _ (hJ.closedD j q hq hj e he hbd)
  · by_cases e' : j = i
    · subst e'
      obtain rfl : o = q := Option.some.inj (ho.symm.trans hq)
      exact set_keep hil (hedge _ he hbd)
    · rw [set_ne e'] at hj
      exact set_keep hil (hJ.closed j q hq hj _ he hbd)
  · rw [slot_put, slot_put, ha, hb]
    have h3 : a.tmps[d]? = af.tmps[d]? := hJ.slot d fun j hj hjl q hq => hdn j (List.mem_cons_of_mem _ hj) (by rw [set_ne (hne j hj)]; exact hjl) q hq
    rw [h3, hJ.size]
  · rcases List.mem_cons.1 hj with rfl | hj
    · rw [set_eq hil] at hjl; cases hjl
    · rw [set_ne (hne j hj)] at hjl
      obtain ⟨k1, k2⟩ := hJ.pend j hj hjl q hq
      refine ⟨k1, k2.same hc.sel hq (fun d hdl => ?_) (fun d hqd => ?_) (by rw [size_put, hb])⟩
      · rw [slot_put_ne _ _ _ _ fun hod => ?_, hb]
        rcases (hc.two i j o q ho hq (fun e => hne j hj e.symm)).2 d hod hdl with h | h
        · exact hi (chainD hJ.closedD h hj)
        · have := ready_chain hJ.closed ho hedge h
          rw [hjl] at this
          cases this
      · rw [slot_put_ne _ _ _ _ (fun hod => (hc.two i j o q ho hq (fun e => hne j hj e.symm)).1 d hod hqd), hb]

theorem J.heavy (hc : Chk ops) {listed : Array Bool} {m : Nat} {D : List Nat} {a af : Act} {W : World} (hJ : J P ops M S Q listed (m + 1) D a af W) (hz : ∀ (i : Nat) (o : Oper), ops[i]? = some o → D.contains i = false → enB D o = true → treat P ops M S m (ZT P ops M S Q m) D af W i o)
    {i : Nat} {o : Oper} (hi : i ∉ D) (ho : ops[i]? = some o) (hun : listed[i]? = some false) (hedge : ∀ e ∈ o.after, Region.binds .any e = true → listed[e.on]? = some true)
    {K : Act → World → Prop} (hK : ∀ n' D' a' af' W', J P ops M S Q (listed.setIfInBounds i true) n' D' a' af' W' → K a' W') : wpOp P ops Q i K a W := by
  have same := hJ.same hc ho hedge
  have hen : enB D o = true := List.all_eq_true.2 fun e he => by
    cases hb : Region.binds .any e with
    | false => rfl
    | true =>
      rw [Bool.not_true, Bool.false_or]
      exact List.contains_iff_mem.2 (hJ.sub _ (hedge e (Array.mem_toList_iff.1 he) hb))
  have ht := hz i o ho (by
    cases hcn : D.contains i with
    | false => rfl
    | true => exact absurd (List.contains_iff_mem.1 hcn) hi) hen
  unfold treat at ht
  unfold wpOp
  rw [ho]
  simp only
  rw [want_same same]
  cases hw : Region.wanted o (yielded ops af.tmps) with
  | true =>
    rw [if_pos hw] at ht
    rw [if_pos rfl]
    refine .inl (wp_act (exec_same hc.sel ho same) (fun a' b' ha hb hd v W' h => ?_) ht)
    exact hK _ _ _ _ _ (hJ.push hc hi ho hedge ha hb (hd hJ.defers) v (h.1.imp id .inl) h.2)
  | false =>
    rw [if_neg (by rw [hw]; simp)] at ht
    rw [if_neg (by simp)]
    exact hK _ _ _ _ _ (hJ.push hc hi ho hedge rfl rfl hJ.defers undef (hJ.s.imp id .inr) ht)

theorem nodup_le : ∀ {l m : List Nat}, l.Nodup → (∀ i ∈ l, i ∈ m) → l.length ≤ m.length
  | [], m, _, _ => Nat.zero_le _
  | x :: l, m, hn, hs => by
    obtain ⟨h1, h2⟩ := List.nodup_cons.1 hn
    have h3 : ∀ i ∈ l, i ∈ m.erase x := fun i hi => (List.mem_erase_of_ne (fun e => h1 (by rw [← e]; exact hi))).2 (hs i (List.mem_cons_of_mem _ hi))
    have h4 := nodup_le h2 h3
    have h5 := List.length_erase_of_mem (hs x (List.mem_cons_self ..))
    have h6 : 0 < m.length := List.length_pos_of_mem (hs x (List.mem_cons_self ..))
    rw [List.length_cons]
    omega
theorem all_in {D : List Nat} {n : Nat} (hn : D.Nodup) (hr : ∀ i ∈ D, i < n) (hl : D.length = n) : ∀ i, i < n → i ∈ D := by
  intro i hi
  by_cases h : i ∈ D
  · exact h
  · exfalso
    have h1 : (i :: D).Nodup := List.nodup_cons.2 ⟨h, hn⟩
    have h3 := nodup_le (m := List.range n) h1 fun j hj => by
      rcases List.mem_cons.1 hj with rfl | hj
      · exact List.mem_range.2 hi
      · exact List.mem_range.2 (hr j hj)
    rw [List.length_range, List.length_cons] at h3
    omega

theorem wpAny_of_J (hc : Chk ops) : ∀ (fuel : Nat) (listed : Array Bool) (n : Nat) (D : List Nat) (a af : Act) (W : World), listed.toList.count false ≤ fuel → J P ops M S Q listed n D a af W → wpAny P .any ops Q fuel listed a W := by
  intro fuel
  have alldone : ∀ (listed : Array Bool) (n : Nat) (D : List Nat) (a af : Act) (W : World), J P ops M S Q listed n D a af W → (∀ j, j < ops.size → listed[j]? = some true) → Region.ready .any ops listed = [] ∧ Q .normal a W := by
    intro listed n D a af W hJ hall
    refine ⟨?_, ?_⟩
    · cases hr : Region.ready .any ops listed with
      | nil => rfl
      | cons i l =>
        have : i ∈ Region.ready .any ops listed := by rw [hr]; exact List.mem_cons_self ..
        obtain ⟨h1, p, hp, _⟩ := mem_ready.1 this
        have h2 := getD_true h1
        rw [hall i (Array.getElem?_eq_some_iff.1 hp).1] at h2
        cases h2
    · have hn : n = 0 := by
        have h2 := nodup_le (m := D) (List.nodup_range (n := ops.size)) fun j hj => hJ.sub j (hall j (List.mem_range.1 hj))
        have := hJ.count
        rw [List.length_range] at h2
        omega
      subst hn
      have hz : Q .normal af W := hJ.z
      have ht : a.tmps = af.tmps := by
        apply Array.ext_getElem?
        intro d
        refine hJ.slot d fun j hj hjl q hq => ?_
        rw [hall j (hJ.range j hj)] at hjl
        cases hjl
      have he : a = af := by
        have hd := hJ.defers
        cases a; cases af
        simp only at ht hd
        subst ht; subst hd
        rfl
      rw [he]; exact hz
  -- the lowest that has not been done is ready
  have lowest : ∀ (listed : Array Bool), listed.size = ops.size → ¬ (∀ j, j < ops.size → listed[j]? = some true) → ∃ (i : Nat) (o : Oper), ops[i]? = some o ∧ listed[i]? = some false ∧ ∀ j : Nat, j < i → listed[j]? = some true := by
    intro listed hls hn
    have ex : ∀ k : Nat, k ≤ ops.size → (∀ j : Nat, j < k → listed[j]? = some true) ∨ ∃ i : Nat, i < k ∧ listed[i]? = some false ∧ ∀ j : Nat, j < i → listed[j]? = some true := by
      intro k
      induction k with
      | zero => exact fun _ => .inl fun j hj => by omega
      | succ k ih =>
        intro hk
        rcases ih (by omega) with h | ⟨i, h1, h2, h3⟩
        · have hl : k < listed.size := by omega
          cases hb : listed[k]'hl with
          | true =>
            refine .inl fun j hj => ?_
            by_cases e : j = k
            · rw [e, Array.getElem?_eq_getElem hl, hb]
            · exact h j (by omega)
          | false => exact .inr ⟨k, by omega, by rw [Array.getElem?_eq_getElem hl, hb], h⟩
        · exact .inr ⟨i, by omega, h2, h3⟩
    rcases ex ops.size (Nat.le_refl _) with h | ⟨i, h1, h2, h3⟩
    · exact absurd h hn
    · exact ⟨i, ops[i], Array.getElem?_eq_getElem h1, h2, h3⟩
  induction fuel with
  | zero =>
    intro listed n D a af W hf hJ
    by_cases hall : ∀ j, j < ops.size → listed[j]? = some true
    · exact alldone listed n D a af W hJ hall
    · obtain ⟨i, o, _, hl, _⟩ := lowest listed hJ.lsize hall
      exfalso
      have : false ∈ listed.toList := by
        rw [← Array.getElem?_toList] at hl
        exact List.mem_of_getElem? hl
      have := List.count_pos_iff.2 this
      omega
  | succ fuel ih =>
    intro listed n D a af W hf hJ
    by_cases hall : ∀ j, j < ops.size → listed[j]? = some true
    · obtain ⟨h1, h2⟩ := alldone listed n D a af W hJ hall
      exact ⟨fun _ => h2, fun i hi => by rw [h1] at hi; cases hi⟩
    · obtain ⟨x, ox, hox, hl, hm⟩ := lowest listed hJ.lsize hall
      have hrj : x ∈ Region.ready .any ops listed := ready_of hox hl (fun e he hb => hm _ (hc.low x ox hox e he hb))
      obtain ⟨n', D', af', hJ', hend⟩ := hJ.norm hc n
      refine ⟨fun h0 => (by rw [h0] at hrj; cases hrj), fun i hi => ?_⟩
      obtain ⟨h1, p, hp, hedge⟩ := mem_ready.1 hi
      have hun := getD_true h1
      have hedge' : ∀ e ∈ p.after, Region.binds .any e = true → listed[e.on]? = some true := fun e he hb => getD_false (hedge e he hb)
      have hcnt : (listed.setIfInBounds i true).toList.count false ≤ fuel := by
        have := count_set (l := listed.toList) (i := i) (by rw [Array.getElem?_toList]; exact hun)
        rw [Array.toList_setIfInBounds]
        omega
      by_cases hiD : i ∈ D'
      · exact hJ'.light hc hiD hun hp hedge' fun a' hJ2 => ih _ _ _ _ _ _ hcnt hJ2
      · rcases hend with rfl | ⟨m, rfl, hz⟩
        · exact absurd (all_in hJ'.nodup hJ'.range (by have := hJ'.count; omega) i (Array.getElem?_eq_some_iff.1 hp).1) hiD
        · exact hJ'.heavy hc hz hiD hp hun hedge' fun n2 D2 a' af2 W' hJ2 => ih _ _ _ _ _ _ hcnt hJ2

theorem wp_region_zag {id : Nat} {a : Act} {w : World} (n : Nat) (M : List Nat) (S : World → Prop) (hn : ops.size = n) (hm : P.follows .mixedOrders = true) (hB : zagB ops = true) (hS : S w.drew) (h : ZT P ops M S Q n [] a w.drew) : (Code.region id ops true).wp P Q a w := by
  have hl : ∀ j : Nat, (Array.replicate ops.size false)[j]? ≠ some true := fun j hj => by
    have := (Array.getElem?_eq_some_iff.1 hj)
    simp at this
  subst hn
  refine wp_region_any hm (wpAny_of_J (Chk.of hB) ops.size _ ops.size [] a a _ (by simp) ⟨h, by simp, List.nodup_nil, (fun i hi => by cases hi), by simp, fun i hi => absurd hi (hl i), .inl hS, (fun i o _ hi => by cases hi), fun i o _ hi => absurd hi (hl i), rfl, rfl, fun _ _ => rfl, (fun i hi => by cases hi)⟩)

/-! ### the walk -/
def nextL (ops : Array Oper) (Ls D : List Nat) : Option Nat := Ls.find? fun i => !D.contains i && (match (ops[i]? : Option Oper) with | some o => enB D o | none => false)
def front (ops : Array Oper) (D : List Nat) : List Nat := (List.range ops.size).filter fun i => !D.contains i && (match (ops[i]? : Option Oper) with | some o => enB D o | none => false)
def lightOkB (ops : Array Oper) (i : Nat) : Bool := match (ops[i]? : Option Oper) with | some o => lightB ops i o | none => false
theorem zag_some {D : List Nat} {i : Nat} {o : Oper} {Ls : List Nat} (hi : nextL ops Ls D = some i) (ho : ops[i]? = some o) (hl : lightOkB ops i = true) : D.contains i = false ∧ enB D o = true ∧ lightB ops i o = true := by
  have hf := List.find?_some hi
  simp only [ho, Bool.and_eq_true, Bool.not_eq_true'] at hf
  unfold lightOkB at hl
  rw [ho] at hl
  exact ⟨hf.1, hf.2, hl⟩
theorem zag_stepS (T : World → Prop) (Ls : List Nat) {n i : Nat} {D : List Nat} {o : Oper} {a : Act} {w : World} (hT : ∀ W, SI M S i W → T W) (hi : nextL ops Ls D = some i) (ho : ops[i]? = some o) (hl : lightOkB ops i = true)
    (h : ∀ K : Act → Prop, (∀ a, ZT P ops M S Q n (i :: D) a w → K a) → if Region.wanted o (yielded ops a.tmps) then Zig.lightK P T o a K else K (a.put o.dst undef)) : ZT P ops M S Q (n + 1) D a w := by
  have h := h _ fun _ h => h
  obtain ⟨f1, f2, f3⟩ := zag_some hi ho hl
  refine .inl ?_
  cases hw : Region.wanted o (yielded ops a.tmps) with
  | true =>
    rw [if_pos hw] at h
    obtain ⟨v, h1, h2⟩ := h
    exact ⟨i, o, v, ho, f1, f2, f3, fun _ W hW => h1 ⟨W, hT W hW⟩, (fun e => by rw [hw] at e; cases e), h2⟩
  | false =>
    rw [if_neg (by rw [hw]; simp)] at h
    exact ⟨i, o, undef, ho, f1, f2, f3, (fun e => by rw [hw] at e; cases e), fun _ => rfl, h⟩
/-- one that does not look at memory -/
theorem zag_light (Ls : List Nat) {n i : Nat} {D : List Nat} {o : Oper} {a : Act} {w : World} (hi : nextL ops Ls D = some i) (ho : ops[i]? = some o) (hl : lightOkB ops i = true) (hM : M.contains i = false)
    (h : ∀ K : Act → Prop, (∀ a, ZT P ops M S Q n (i :: D) a w → K a) → if Region.wanted o (yielded ops a.tmps) then Zig.lightK P (fun _ => True) o a K else K (a.put o.dst undef)) : ZT P ops M S Q (n + 1) D a w :=
  zag_stepS (fun _ => True) Ls (fun _ _ => trivial) hi ho hl h
/-- one that reads -/
theorem zag_read (Ls : List Nat) {n i : Nat} {D : List Nat} {o : Oper} {a : Act} {w : World} (hi : nextL ops Ls D = some i) (ho : ops[i]? = some o) (hl : lightOkB ops i = true) (hM : M.contains i = true)
    (h : ∀ K : Act → Prop, (∀ a, ZT P ops M S Q n (i :: D) a w → K a) → if Region.wanted o (yielded ops a.tmps) then Zig.lightK P S o a K else K (a.put o.dst undef)) : ZT P ops M S Q (n + 1) D a w :=
  zag_stepS S Ls (fun W h => h hM) hi ho hl h
/-- .. whose value a law gives -/
theorem zag_readV (Ls : List Nat) (v : Value) {n i : Nat} {D : List Nat} {o : Oper} {a : Act} {w : World} (hi : nextL ops Ls D = some i) (ho : ops[i]? = some o) (hl : lightOkB ops i = true) (hM : M.contains i = true) (hw : Region.wanted o (yielded ops a.tmps) = true)
    (hv : ∀ x : Zig.Lt S, (execOp a.eval o).run P x.1 = .ok (.value v) x.1) (h : ZT P ops M S Q n (i :: D) (a.put o.dst v) w) : ZT P ops M S Q (n + 1) D a w := by
  obtain ⟨f1, f2, f3⟩ := zag_some hi ho hl
  exact .inl ⟨i, o, v, ho, f1, f2, f3, fun _ W hW => by rw [hv ⟨W, hW hM⟩]; exact ⟨rfl, rfl⟩, (fun e => by rw [hw] at e; cases e), h⟩
def each (P : Program) (ops : Array Oper) (M : List Nat) (S : World → Prop) (Q : Exit → Act → World → Prop) (n : Nat) (D : List Nat) (a : Act) (w : World) : List Nat → Prop
  | [] => True
  | i :: r => (∀ o, ops[i]? = some o → treat P ops M S n (ZT P ops M S Q n) D a w i o) ∧ each P ops M S Q n D a w r
theorem each_at {n : Nat} {D : List Nat} {a : Act} {w : World} : ∀ {l : List Nat}, each P ops M S Q n D a w l → ∀ i ∈ l, ∀ o, ops[i]? = some o → treat P ops M S n (ZT P ops M S Q n) D a w i o
  | i :: r, h, j, hj => by
    rcases List.mem_cons.1 hj with rfl | hj
    · exact h.1
    · exact each_at h.2 j hj
theorem zag_branch (l : List Nat) {n : Nat} {D : List Nat} {a : Act} {w : World} (hl : front ops D = l) (h : each P ops M S Q n D a w l) : ZT P ops M S Q (n + 1) D a w := by
  refine .inr fun i o ho hin hen => each_at h i ?_ o ho
  rw [← hl]
  unfold front
  rw [List.mem_filter]
  refine ⟨List.mem_range.2 (Array.getElem?_eq_some_iff.1 ho).1, ?_⟩
  simp only [ho, hin, hen, Bool.not_false, Bool.and_self]
theorem each_nil {n : Nat} {D : List Nat} {a : Act} {w : World} : each P ops M S Q n D a w [] := trivial
theorem each_do {n i : Nat} {r D : List Nat} {o : Oper} {a : Act} {w : World} (ho : ops[i]? = some o) (hw : Region.wanted o (yielded ops a.tmps) = true)
    (h : ∀ K : Act → World → Prop, (∀ a W, S W → ZT P ops M S Q n (i :: D) a W → K a W) → o.wp P a w K (fun _ _ _ => False)) (hr : each P ops M S Q n D a w r) : each P ops M S Q n D a w (i :: r) :=
  ⟨fun o' ho' => by
    obtain rfl := Option.some.inj (ho.symm.trans ho')
    unfold treat
    rw [if_pos hw]
    exact h _ fun a W h1 h2 => ⟨.inl h1, h2⟩, hr⟩
theorem each_end {n i : Nat} {r D : List Nat} {o : Oper} {a : Act} {w : World} (ho : ops[i]? = some o) (hw : Region.wanted o (yielded ops a.tmps) = true) (hf : finM ops M o = true)
    (h : ∀ K : Act → World → Prop, (∀ a W, ZT P ops M S Q n (i :: D) a W → K a W) → o.wp P a w K (fun _ _ _ => False)) (hr : each P ops M S Q n D a w r) : each P ops M S Q n D a w (i :: r) :=
  ⟨fun o' ho' => by
    obtain rfl := Option.some.inj (ho.symm.trans ho')
    unfold treat
    rw [if_pos hw]
    exact h _ fun a W h2 => ⟨.inr hf, h2⟩, hr⟩
theorem zag_nil {D : List Nat} {a : Act} {w : World} (h : wpList P ops Q [] a w) : ZT P ops M S Q 0 D a w := h
end
end Go.Proofs.Ytgeiafijibgdhaa.Zag
