/- A region that draws its order and makes memory: one walk in the order of the text serves every order, where each operation's value is fixed, or is known by a fact that lasts. -/
import Derived.WalkKit
import Derived.Deep.Quiet
set_option linter.unusedVariables false
set_option linter.unusedSimpArgs false
namespace Go.Proofs.Ytibpipppabommaa.RelyT
open Go Go.RowKit

/-- a world behind w: all that was there is as it was -/
def Lat (w : World) := { W : World // Below w.heap.size w W }

instance (w : World) : Nonempty (Lat w) := ⟨⟨w, Below.refl _ _⟩⟩

def Persist (φ : Value → World → Prop) : Prop := ∀ v W W', φ v W → Below W.heap.size W W' → φ v W'

abbrev Facts := List (Tmp × (Value → World → Prop))

def close : Facts → Act → World → (Act → World → Prop) → Prop
  | [], a, W, K => K a W
  | (t, φ) :: E, a, W, K => ∀ x, φ x W → close E (a.put (some t) x) W K

def need (ops : Array Oper) (o : Oper) (E : Facts) : Facts := E.filter fun p => (o.looksAt ops).contains p.1

def quietR (P : Program) (W : World) (v : Value) : Result Next → Prop
  | .ok (.value u) W' => W' = W ∧ u = v
  | .ok .skip W' => W' = W ∧ v = undef
  | .ok (.enter f args) W' => W' = W ∧ Calls P f args W (fun e W'' => e = .returned v ∧ Below W.heap.size W W'')
  | _ => False

def freshR (P : Program) (W : World) (φ : Value → World → Prop) : Result Next → Prop
  | .ok (.value u) W' => Below W.heap.size W W' ∧ φ u W'
  | .ok (.enter f args) W' => W' = W ∧ Calls P f args W (fun e W'' => ∃ u, e = .returned u ∧ Below W.heap.size W W'' ∧ φ u W'')
  | _ => False

def guardOk (ops : Array Oper) (o : Oper) (E : Facts) : Prop :=
  match o.guard with
  | none => True
  | some (g, _) => ∀ p ∈ E, (ops[g]?).bind (·.dst) ≠ some p.1

def wpR (P : Program) (ops : Array Oper) (w0 : World) (Q : Act → World → Prop) : List Oper → Facts → Act → Prop
  | [], E, a => ∀ x : Lat w0, close E a x.1 Q
  | o :: rest, E, a =>
    guardOk ops o E ∧
    if Region.wanted o (yielded ops a.tmps) then
      (∃ v, (∀ x : Lat w0, close (need ops o E) a x.1 (fun a' W => quietR P W v ((execOp a'.eval o).run P W))) ∧ wpR P ops w0 Q rest E (a.put o.dst v))
      ∨ (∃ φ d, o.dst = some d ∧ d < a.tmps.size ∧ Persist φ ∧ (∀ x : Lat w0, close (need ops o E) a x.1 (fun a' W => freshR P W φ ((execOp a'.eval o).run P W))) ∧ wpR P ops w0 Q rest ((d, φ) :: E) a)
    else wpR P ops w0 Q rest E (a.put o.dst undef)

/-- what one operation of the walk shows -/
def Row (P : Program) (ops : Array Oper) (w0 : World) (o : Oper) (a : Act) (E : Facts) (a' : Act) (E' : Facts) : Prop :=
  guardOk ops o E ∧
  ((Region.wanted o (yielded ops a.tmps) = true ∧ ∃ v, (∀ x : Lat w0, close (need ops o E) a x.1 (fun a' W => quietR P W v ((execOp a'.eval o).run P W))) ∧ a' = a.put o.dst v ∧ E' = E)
  ∨ (Region.wanted o (yielded ops a.tmps) = true ∧ ∃ φ d, o.dst = some d ∧ d < a.tmps.size ∧ Persist φ ∧ (∀ x : Lat w0, close (need ops o E) a x.1 (fun a' W => freshR P W φ ((execOp a'.eval o).run P W))) ∧ a' = a ∧ E' = (d, φ) :: E)
  ∨ (Region.wanted o (yielded ops a.tmps) = false ∧ a' = a.put o.dst undef ∧ E' = E))

section
variable {P : Program} {ops : Array Oper} {w0 : World} {Q : Act → World → Prop}

theorem table : ∀ (l : List Oper) (E : Facts) (a : Act), wpR P ops w0 Q l E a → ∃ (A : Nat → Act) (F : Nat → Facts), A 0 = a ∧ F 0 = E ∧
    (∀ j o, l[j]? = some o → Row P ops w0 o (A j) (F j) (A (j + 1)) (F (j + 1))) ∧ (∀ x : Lat w0, close (F l.length) (A l.length) x.1 Q)
  | [], E, a, h => ⟨fun _ => a, fun _ => E, rfl, rfl, fun j o ho => by simp at ho, h⟩
  | o :: rest, E, a, h => by
    obtain ⟨hg, h⟩ := h
    have fin : ∀ (a' : Act) (E' : Facts), Row P ops w0 o a E a' E' → wpR P ops w0 Q rest E' a' → ∃ (A : Nat → Act) (F : Nat → Facts), A 0 = a ∧ F 0 = E ∧
        (∀ j p, (o :: rest)[j]? = some p → Row P ops w0 p (A j) (F j) (A (j + 1)) (F (j + 1))) ∧ (∀ x : Lat w0, close (F (o :: rest).length) (A (o :: rest).length) x.1 Q) := by
      intro a' E' hr hw
      obtain ⟨A, F, hA, hF, hrow, hend⟩ := table rest E' a' hw
      refine ⟨fun | 0 => a | j + 1 => A j, fun | 0 => E | j + 1 => F j, rfl, rfl, ?_, hend⟩
      intro j p hp
      cases j with
      | zero =>
        simp at hp
        subst hp
        show Row P ops w0 o a E (A 0) (F 0)
        rw [hA, hF]; exact hr
      | succ j => exact hrow j p (by simpa using hp)
    by_cases hw : Region.wanted o (yielded ops a.tmps) = true
    · rw [if_pos hw] at h
      rcases h with ⟨v, h1, h2⟩ | ⟨φ, d, h1, h2, h3, h4, h5⟩
      · exact fin _ _ ⟨hg, .inl ⟨hw, v, h1, rfl, rfl⟩⟩ h2
      · exact fin _ _ ⟨hg, .inr (.inl ⟨hw, φ, d, h1, h2, h3, h4, rfl, rfl⟩)⟩ h5
    · rw [if_neg hw] at h
      exact fin _ _ ⟨hg, .inr (.inr ⟨by simpa using hw, rfl, rfl⟩)⟩ h

end

/-- does a later operation wait for an earlier one, or have they nothing in common? -/
def waits (o : Oper) (i : Nat) : Bool := o.after.any fun e => Region.binds .any e && e.on == i

/-- i waits for j, be it through others -/
inductive Chain (ops : Array Oper) : Nat → Nat → Prop
  | one {i : Nat} {o : Oper} {e : Edge} (ho : ops[i]? = some o) (he : e ∈ o.after) (hb : Region.binds .any e = true) : Chain ops i e.on
  | step {i j : Nat} {o : Oper} {e : Edge} (ho : ops[i]? = some o) (he : e ∈ o.after) (hb : Region.binds .any e = true) (h : Chain ops e.on j) : Chain ops i j
def closeOver (acc : List (List Nat)) (o : Oper) : List Nat := ((o.after.toList.filter fun e => Region.binds .any e).flatMap fun e => e.on :: acc.getD e.on []).eraseDups
def reachTab (ops : List Oper) : List (List Nat) := ops.foldl (fun acc o => acc ++ [closeOver acc o]) []
theorem reach_sound (ops : Array Oper) : ∀ (l : List Oper) (acc : List (List Nat)), (∀ m o, l[m]? = some o → ops[acc.length + m]? = some o) → (∀ i x, x ∈ acc.getD i [] → Chain ops i x) →
    ∀ i x, x ∈ (l.foldl (fun acc o => acc ++ [closeOver acc o]) acc).getD i [] → Chain ops i x
  | [], acc, _, h, i, x, hx => h i x hx
  | o :: l, acc, hl, h, i, x, hx => by
    refine reach_sound ops l (acc ++ [closeOver acc o]) (fun m p hp => ?_) (fun i x hx => ?_) i x hx
    · have := hl (m + 1) p (by simpa using hp)
      rw [List.length_append]
      simpa [Nat.add_assoc, Nat.add_comm 1 m] using this
    · have ho : ops[acc.length]? = some o := by simpa using hl 0 o rfl
      rcases Nat.lt_trichotomy i acc.length with hi | hi | hi
      · refine h i x ?_
        rw [List.getD_eq_getElem?_getD, List.getElem?_append_left hi] at hx
        rw [List.getD_eq_getElem?_getD]
        exact hx
      · subst hi
        rw [List.getD_eq_getElem?_getD, List.getElem?_append_right (Nat.le_refl _), Nat.sub_self] at hx
        have hx : x ∈ closeOver acc o := hx
        unfold closeOver at hx
        rw [List.mem_eraseDups, List.mem_flatMap] at hx
        obtain ⟨e, he, hx⟩ := hx
        obtain ⟨he, hb⟩ := List.mem_filter.1 he
        rcases List.mem_cons.1 hx with rfl | hx
        · exact .one ho (Array.mem_toList_iff.1 he) hb
        · exact .step ho (Array.mem_toList_iff.1 he) hb (h _ _ hx)
      · rw [List.getD_eq_getElem?_getD, List.getElem?_eq_none (by simp; omega)] at hx
        cases hx
theorem chain_of {ops : Array Oper} {i j : Nat} (h : ((reachTab ops.toList).getD i []).contains j = true) : Chain ops i j :=
  reach_sound ops ops.toList [] (fun m o ho => by simpa using ho) (fun i x hx => by simp at hx) i j (List.contains_iff_mem.1 h)
theorem chain_of_waits {ops : Array Oper} {i j : Nat} {o : Oper} (ho : ops[i]? = some o) (h : waits o j = true) : Chain ops i j := by
  obtain ⟨e, he, hb⟩ := Array.any_eq_true'.1 h
  simp only [Bool.and_eq_true, beq_iff_eq] at hb
  exact hb.2 ▸ .one ho he hb.1

def relyB (ops : Array Oper) (k : Nat) : Bool :=
  Region.noSelect ops && decide (k ≤ ops.size) &&
  (List.range ops.size).all fun i => match (ops[i]? : Option Oper) with
    | none => true
    | some o =>
      o.after.all (fun e => !Region.binds .any e || decide (e.on < i)) &&
      (match o.dst with | some d => !(o.looksAt ops).contains d | none => true) &&
      (List.range i).all fun j => match (ops[j]? : Option Oper) with
        | none => true
        | some p => (waits o j || p.apart ops o) && (decide (i < k) || waits o j || ((reachTab ops.toList).getD i []).contains j) && (match o.dst, p.dst with | some d, some e => decide (k ≤ i) || d != e | _, _ => true)

structure RChk (ops : Array Oper) (k : Nat) : Prop where
  sel : Region.noSelect ops = true
  le : k ≤ ops.size
  below : ∀ (i : Nat) (o : Oper), ops[i]? = some o → ∀ e ∈ o.after, Region.binds .any e = true → e.on < i
  self : ∀ (i : Nat) (o : Oper) (d : Tmp), ops[i]? = some o → o.dst = some d → d ∉ o.looksAt ops
  pair : ∀ (i j : Nat) (o p : Oper), ops[i]? = some o → ops[j]? = some p → j < i → (∃ e ∈ o.after, Region.binds .any e = true ∧ e.on = j) ∨ p.apart ops o = true
  tail : ∀ (i j : Nat) (o p : Oper), ops[i]? = some o → ops[j]? = some p → j < i → k ≤ i → Chain ops i j
  dst : ∀ (i j : Nat) (o p : Oper) (d : Tmp), ops[i]? = some o → ops[j]? = some p → j < i → i < k → o.dst = some d → p.dst ≠ some d

theorem waits_spec {o : Oper} {i : Nat} (h : waits o i = true) : ∃ e ∈ o.after, Region.binds .any e = true ∧ e.on = i := by
  obtain ⟨e, he, hb⟩ := Array.any_eq_true'.1 h
  simp only [Bool.and_eq_true, beq_iff_eq] at hb
  exact ⟨e, he, hb⟩

theorem RChk.of {ops : Array Oper} {k : Nat} (h : relyB ops k = true) : RChk ops k := by
  simp only [relyB, Bool.and_eq_true, List.all_eq_true, List.mem_range, decide_eq_true_eq] at h
  obtain ⟨⟨h1, h2⟩, h3⟩ := h
  have one : ∀ (i : Nat) (o : Oper), ops[i]? = some o → _ := fun i o ho => by
    have := h3 i (Array.getElem?_eq_some_iff.1 ho).1
    rw [ho] at this
    simp only [Bool.and_eq_true] at this
    exact this
  have two : ∀ (i j : Nat) (o p : Oper), ops[i]? = some o → ops[j]? = some p → j < i → _ := fun i j o p ho hp hji => by
    have := (one i o ho).2
    simp only [List.all_eq_true, List.mem_range] at this
    have := this j hji
    rw [hp] at this
    simp only [Bool.and_eq_true] at this
    exact this
  refine ⟨h1, h2, fun i o ho e he hb => ?_, fun i o d ho hd => ?_, fun i j o p ho hp hji => ?_, fun i j o p ho hp hji hk => ?_, fun i j o p d ho hp hji hk hd => ?_⟩
  · have := Array.all_eq_true_iff_forall_mem.1 (one i o ho).1.1 e he
    simpa [hb] using this
  · have := (one i o ho).1.2
    simp only [hd] at this
    simpa using this
  · have := (two i j o p ho hp hji).1.1
    simp only [Bool.or_eq_true] at this
    exact this.imp waits_spec id
  · have := (two i j o p ho hp hji).1.2
    simp only [Bool.or_eq_true, decide_eq_true_eq] at this
    rcases this with (h | h) | h
    · omega
    · exact chain_of_waits ho h
    · exact chain_of h
  · have := (two i j o p ho hp hji).2
    simp only [hd] at this
    intro hpd
    simp only [hpd] at this
    simp at this
    omega

/-! ### slots -/
theorem slot_put (a : Act) (t : Option Tmp) (v : Value) (d : Tmp) : (a.put t v).tmps[d]? = if t = some d ∧ d < a.tmps.size then some v else a.tmps[d]? := by
  cases t with
  | none => simp [Act.put]
  | some t =>
    by_cases h : t = d
    · subst h
      by_cases hs : t < a.tmps.size
      · simp [Act.put, hs]
      · simp [Act.put, hs]
    · simp [Act.put, Array.getElem?_setIfInBounds_ne h, h]
theorem slot_put_ne (a : Act) (t : Option Tmp) (v : Value) (d : Tmp) (h : t ≠ some d) : (a.put t v).tmps[d]? = a.tmps[d]? := by
  rw [slot_put]; simp [h]
theorem size_put (a : Act) (t : Option Tmp) (v : Value) : (a.put t v).tmps.size = a.tmps.size := by cases t <;> simp [Act.put]
theorem defers_put (a : Act) (t : Option Tmp) (v : Value) : (a.put t v).defers = a.defers := by cases t <;> rfl

theorem getD_eq {a b : Array Value} {d : Nat} (h : a[d]? = b[d]?) : a.getD d undef = b.getD d undef := by
  rw [Array.getD_eq_getD_getElem?, Array.getD_eq_getD_getElem?, h]

/-- the slots of the facts filled with what they hold in 'a' -/
def puts (a : Act) : Facts → Act → Act
  | [], c => c
  | (t, _) :: E, c => puts a E (c.put (some t) (a.tmps.getD t undef))

theorem close_at {W : World} {K : Act → World → Prop} (a : Act) : ∀ (E : Facts) (c : Act), close E c W K → (∀ p ∈ E, p.2 (a.tmps.getD p.1 undef) W) → K (puts a E c) W
  | [], c, h, _ => h
  | (t, φ) :: E, c, h, hf => close_at a E _ (h _ (hf (t, φ) (List.mem_cons_self ..))) (fun p hp => hf p (List.mem_cons_of_mem _ hp))

theorem puts_size (a : Act) : ∀ (E : Facts) (c : Act), (puts a E c).tmps.size = c.tmps.size
  | [], c => rfl
  | (t, _) :: E, c => by rw [puts, puts_size a E, size_put]
theorem puts_defers (a : Act) : ∀ (E : Facts) (c : Act), (puts a E c).defers = c.defers
  | [], c => rfl
  | (t, _) :: E, c => by rw [puts, puts_defers a E, defers_put]
theorem puts_slot (a : Act) (d : Tmp) : ∀ (E : Facts) (c : Act), a.tmps.size = c.tmps.size → ((∃ p ∈ E, p.1 = d) ∨ a.tmps[d]? = c.tmps[d]?) → (puts a E c).tmps[d]? = a.tmps[d]?
  | [], c, _, h => by
    rcases h with ⟨p, hp, _⟩ | h
    · cases hp
    · exact h.symm
  | (t, φ) :: E, c, hs, h => by
    rw [puts]
    refine puts_slot a d E _ (by rw [size_put]; exact hs) ?_
    by_cases hE : ∃ p ∈ E, p.1 = d
    · exact .inl hE
    · right
      by_cases ht : t = d
      · subst ht
        rw [slot_put]
        by_cases hl : t < c.tmps.size
        · have hl' : t < a.tmps.size := by rw [hs]; exact hl
          rw [if_pos ⟨rfl, hl⟩, Array.getElem?_eq_getElem hl']
          simp [Array.getD, hl']
        · have h1 : c.tmps.size ≤ t := Nat.le_of_not_lt hl
          have h2 : a.tmps.size ≤ t := by rw [hs]; exact h1
          rw [if_neg (fun hh => hl hh.2), Array.getElem?_eq_none h1, Array.getElem?_eq_none h2]
      · rw [slot_put_ne _ _ _ _ (by simpa using ht)]
        rcases h with ⟨p, hp, he⟩ | h
        · rcases List.mem_cons.1 hp with rfl | hp
          · exact absurd he ht
          · exact absurd ⟨p, hp, he⟩ hE
        · exact h

theorem eval_congr {a b : Act} {o : Oper} {ops : Array Oper} (h : ∀ d ∈ o.looksAt ops, a.tmps[d]? = b.tmps[d]?) : ∀ x ∈ o.op.operands, a.eval x = b.eval x := by
  intro x hx
  cases x with
  | tmp t =>
    have ht : t ∈ o.looksAt ops := List.mem_append_left _ (List.mem_filterMap.2 ⟨.tmp t, by simpa using hx, rfl⟩)
    simp only [Act.eval]
    exact getD_eq (h t ht)
  | _ => rfl

theorem wanted_congr {a b : Act} {o : Oper} {ops : Array Oper} (h : ∀ g w t, o.guard = some (g, w) → (ops[g]?).bind (·.dst) = some t → a.tmps[t]? = b.tmps[t]?) :
    Region.wanted o (yielded ops a.tmps) = Region.wanted o (yielded ops b.tmps) := by
  unfold Region.wanted
  cases hg : o.guard with
  | none => rfl
  | some gw =>
    obtain ⟨g, want⟩ := gw
    have hy : yielded ops a.tmps g = yielded ops b.tmps g := by
      unfold yielded
      cases ht : (ops[g]?).bind (·.dst) with
      | none => rfl
      | some t => simp only [Option.bind_some]; rw [h g want t hg ht]
    simp only [hy]

/-! ### the table: what is known of each slot -/
section
variable {P : Program} {ops : Array Oper} {w0 : World} {k : Nat} {A : Nat → Act} {F : Nat → Facts}

def Rows (P : Program) (ops : Array Oper) (w0 : World) (k : Nat) (A : Nat → Act) (F : Nat → Facts) : Prop :=
  F 0 = [] ∧ ∀ (j : Nat) (o : Oper), j < k → ops[j]? = some o → Row P ops w0 o (A j) (F j) (A (j + 1)) (F (j + 1))

theorem Row.act {o : Oper} {a a' : Act} {E E' : Facts} (h : Row P ops w0 o a E a' E') : a'.tmps.size = a.tmps.size ∧ a'.defers = a.defers ∧ ∀ d, o.dst ≠ some d → a'.tmps[d]? = a.tmps[d]? := by
  obtain ⟨_, ⟨_, v, _, rfl, _⟩ | ⟨_, φ, d, _, _, _, _, rfl, _⟩ | ⟨_, rfl, _⟩⟩ := h
  · exact ⟨size_put .., defers_put .., fun d hd => slot_put_ne _ _ _ _ hd⟩
  · exact ⟨rfl, rfl, fun _ _ => rfl⟩
  · exact ⟨size_put .., defers_put .., fun d hd => slot_put_ne _ _ _ _ hd⟩

theorem Row.facts {o : Oper} {a a' : Act} {E E' : Facts} (h : Row P ops w0 o a E a' E') : E' = E ∨ ∃ φ d, o.dst = some d ∧ Persist φ ∧ E' = (d, φ) :: E := by
  obtain ⟨_, ⟨_, v, _, _, rfl⟩ | ⟨_, φ, d, h1, _, h2, _, _, rfl⟩ | ⟨_, _, rfl⟩⟩ := h
  · exact .inl rfl
  · exact .inr ⟨φ, d, h1, h2, rfl⟩
  · exact .inl rfl

theorem exists_op (hk : k ≤ ops.size) {j : Nat} (hj : j < k) : ∃ o : Oper, ops[j]? = some o :=
  ⟨ops[j]'(Nat.lt_of_lt_of_le hj hk), Array.getElem?_eq_getElem _⟩

theorem Rows.size (h : Rows P ops w0 k A F) (hk : k ≤ ops.size) : ∀ i, i ≤ k → (A i).tmps.size = (A 0).tmps.size ∧ (A i).defers = (A 0).defers
  | 0, _ => ⟨rfl, rfl⟩
  | i + 1, hi => by
    obtain ⟨o, ho⟩ := exists_op hk (show i < k by omega)
    have := (h.2 i o (by omega) ho).act
    have ih := Rows.size h hk i (by omega)
    exact ⟨this.1.trans ih.1, this.2.1.trans ih.2⟩

/-- a slot that no operation from i to j writes -/
theorem Rows.slot (h : Rows P ops w0 k A F) (hk : k ≤ ops.size) (d : Tmp) (i : Nat) : ∀ j, i ≤ j → j ≤ k → (∀ (m : Nat) (o : Oper), i ≤ m → m < j → ops[m]? = some o → o.dst ≠ some d) → (A j).tmps[d]? = (A i).tmps[d]? := by
  intro j
  induction j with
  | zero => intro hij _ _; have : i = 0 := by omega
            subst this; rfl
  | succ j ih =>
    intro hij hjk hw
    rcases Nat.lt_or_ge j i with hlt | hge
    · have : i = j + 1 := by omega
      subst this; rfl
    · obtain ⟨o, ho⟩ := exists_op hk (show j < k by omega)
      rw [(h.2 j o (by omega) ho).act.2.2 d (hw j o hge (by omega) ho)]
      exact ih hge (by omega) (fun m o h1 h2 h3 => hw m o h1 (by omega) h3)

theorem Rows.mono (h : Rows P ops w0 k A F) (hk : k ≤ ops.size) (i : Nat) : ∀ j, i ≤ j → j ≤ k → ∀ p ∈ F i, p ∈ F j := by
  intro j
  induction j with
  | zero => intro hij _ p hp; have : i = 0 := by omega
            subst this; exact hp
  | succ j ih =>
    intro hij hjk p hp
    rcases Nat.lt_or_ge j i with hlt | hge
    · have : i = j + 1 := by omega
      subst this; exact hp
    · obtain ⟨o, ho⟩ := exists_op hk (show j < k by omega)
      have := ih hge (by omega) p hp
      rcases (h.2 j o (by omega) ho).facts with e | ⟨φ, d, _, _, e⟩
      · rw [e]; exact this
      · rw [e]; exact List.mem_cons_of_mem _ this

/-- where a fact comes from -/
theorem Rows.origin (h : Rows P ops w0 k A F) (hk : k ≤ ops.size) : ∀ i, i ≤ k → ∀ p ∈ F i, ∃ (j : Nat) (o : Oper), j < i ∧ ops[j]? = some o ∧ o.dst = some p.1 ∧ p ∈ F (j + 1) ∧ p ∉ F j ∧ Persist p.2
  | 0, _, p, hp => by rw [h.1] at hp; cases hp
  | i + 1, hi, p, hp => by
    obtain ⟨o, ho⟩ := exists_op hk (show i < k by omega)
    by_cases hin : p ∈ F i
    · obtain ⟨j, o', h1, h2⟩ := Rows.origin h hk i (by omega) p hin
      exact ⟨j, o', by omega, h2⟩
    · rcases (h.2 i o (by omega) ho).facts with e | ⟨φ, d, hd, hp', e⟩
      · rw [e] at hp; exact absurd hp hin
      · refine ⟨i, o, by omega, ho, ?_, hp, hin, ?_⟩
        · rw [e] at hp
          rcases List.mem_cons.1 hp with rfl | hp
          · exact hd
          · exact absurd hp hin
        · rw [e] at hp
          rcases List.mem_cons.1 hp with rfl | hp
          · exact hp'
          · exact absurd hp hin

theorem RChk.same (hc : RChk ops k) {i j : Nat} {o p : Oper} {d : Tmp} (hi : i < k) (hj : j < k) (ho : ops[i]? = some o) (hp : ops[j]? = some p) (hod : o.dst = some d) (hpd : p.dst = some d) : i = j := by
  rcases Nat.lt_trichotomy i j with h | h | h
  · exact absurd hod (hc.dst j i p o d hp ho h hj hpd)
  · exact h
  · exact absurd hpd (hc.dst i j o p d ho hp h hi hod)
end

/-! ### what holds at any time of any order -/
section
variable {P : Program} {ops : Array Oper} {w0 : World} {k : Nat} {A : Nat → Act} {F : Nat → Facts}

structure Inv (ops : Array Oper) (w0 : World) (k : Nat) (A : Nat → Act) (F : Nat → Facts) (listed : Array Bool) (a : Act) (W : World) : Prop where
  lat : Below w0.heap.size w0 W
  size : a.tmps.size = (A 0).tmps.size
  defers : a.defers = (A 0).defers
  lsize : listed.size = ops.size
  vals : ∀ (j : Nat) (o : Oper) (d : Tmp), j < k → ops[j]? = some o → o.dst = some d → listed[j]? = some true →
    (∀ φ, (d, φ) ∈ F k → φ (a.tmps.getD d undef) W) ∧ ((∀ φ, (d, φ) ∉ F k) → a.tmps[d]? = (A k).tmps[d]?)
  closed : ∀ (j : Nat) (o : Oper), ops[j]? = some o → listed[j]? = some true → ∀ e ∈ o.after, Region.binds .any e = true → listed[e.on]? = some true
  rest : ∀ d : Tmp, (∀ (j : Nat) (o : Oper), j < k → ops[j]? = some o → listed[j]? = some true → o.dst ≠ some d) → a.tmps[d]? = (A 0).tmps[d]?
  low : ∀ j, k ≤ j → j < ops.size → listed[j]? = some false

theorem set_true {listed : Array Bool} {i j : Nat} (h : listed[j]? = some true) : (listed.setIfInBounds i true)[j]? = some true := by
  by_cases e : i = j
  · subst e
    rw [Array.getElem?_setIfInBounds_self]
    have := (Array.getElem?_eq_some_iff.1 h).1
    simp [this]
  · rw [Array.getElem?_setIfInBounds_ne e]; exact h

theorem Inv.step (hc : RChk ops k) (hr : Rows P ops w0 k A F) {listed : Array Bool} {a : Act} {W : World} (hI : Inv ops w0 k A F listed a W) {i : Nat} {o : Oper} (hi : i < k) (ho : ops[i]? = some o)
    (hun : listed[i]? = some false) (hedge : ∀ e ∈ o.after, Region.binds .any e = true → listed[e.on]? = some true) (v : Value) (W' : World) (hb : Below W.heap.size W W')
    (hnew : ∀ d, o.dst = some d → (∀ φ, (d, φ) ∈ F k → φ ((a.put o.dst v).tmps.getD d undef) W') ∧ ((∀ φ, (d, φ) ∉ F k) → (a.put o.dst v).tmps[d]? = (A k).tmps[d]?)) :
    Inv ops w0 k A F (listed.setIfInBounds i true) (a.put o.dst v) W' := by
  have hilt : i < listed.size := (Array.getElem?_eq_some_iff.1 hun).1
  have back : ∀ j, (listed.setIfInBounds i true)[j]? = some true → j = i ∨ listed[j]? = some true := fun j hj => by
    by_cases e : i = j
    · exact .inl e.symm
    · rw [Array.getElem?_setIfInBounds_ne e] at hj; exact .inr hj
  refine ⟨hI.lat.trans (hb.mono hI.lat.size), (size_put ..).trans hI.size, (defers_put ..).trans hI.defers, by simpa using hI.lsize, ?_, ?_, ?_, ?_⟩
  · intro j p d hj hp hd hl
    by_cases e : j = i
    · subst e
      obtain rfl : o = p := Option.some.inj (ho.symm.trans hp)
      exact hnew d hd
    · have hl' := (back j hl).resolve_left e
      obtain ⟨h1, h2⟩ := hI.vals j p d hj hp hd hl'
      have hne : o.dst ≠ some d := fun hod => e (hc.same hj hi hp ho hd hod)
      have hs := slot_put_ne a o.dst v d hne
      refine ⟨fun φ hφ => ?_, fun hn => hs.trans (h2 hn)⟩
      rw [getD_eq hs]
      obtain ⟨_, _, _, _, _, _, _, hper⟩ := hr.origin hc.le k (Nat.le_refl _) _ hφ
      exact hper _ _ _ (h1 φ hφ) hb
  · intro j p hp hl e he hbd
    by_cases ej : j = i
    · subst ej
      obtain rfl : o = p := Option.some.inj (ho.symm.trans hp)
      exact set_true (hedge e he hbd)
    · exact set_true (hI.closed j p hp ((back j hl).resolve_left ej) e he hbd)
  · intro d hd
    have hne : o.dst ≠ some d := hd i o hi ho (by rw [Array.getElem?_setIfInBounds_self]; simp [hilt])
    rw [slot_put_ne _ _ _ _ hne]
    exact hI.rest d (fun j p hj hp hl => hd j p hj hp (set_true hl))
  · intro j hj hjn
    rw [Array.getElem?_setIfInBounds_ne (by omega)]
    exact hI.low j hj hjn

/-- what an operation reads is what it reads in the order of the text -/
theorem Inv.agree (hc : RChk ops k) (hr : Rows P ops w0 k A F) {listed : Array Bool} {a : Act} {W : World} (hI : Inv ops w0 k A F listed a W) {i : Nat} {o : Oper} (hi : i < k) (ho : ops[i]? = some o)
    (hun : listed[i]? = some false) (hedge : ∀ e ∈ o.after, Region.binds .any e = true → listed[e.on]? = some true) (d : Tmp) (hd : d ∈ o.looksAt ops) :
    ((∃ p ∈ F i, p.1 = d) ∨ a.tmps[d]? = (A i).tmps[d]?) ∧ ∀ p ∈ F i, p.1 = d → p.2 (a.tmps.getD d undef) W := by
  by_cases hw : ∃ (j : Nat) (p : Oper), j < k ∧ ops[j]? = some p ∧ p.dst = some d
  · obtain ⟨j, p, hj, hp, hpd⟩ := hw
    have only : ∀ (m : Nat) (q : Oper), m < k → ops[m]? = some q → q.dst = some d → m = j := fun m q hm hq hqd => hc.same hm hj hq hp hqd hpd
    rcases Nat.lt_trichotomy j i with h | h | h
    · -- an operation ahead of it: it has been done
      have hl : listed[j]? = some true := by
        rcases hc.pair i j o p ho hp h with ⟨e, he, hbd, rfl⟩ | hap
        · exact hedge e he hbd
        · exact absurd hd ((Oper.apart_spec hap).1 d hpd)
      obtain ⟨h1, h2⟩ := hI.vals j p d hj hp hpd hl
      have hk : (A k).tmps[d]? = (A i).tmps[d]? := hr.slot hc.le d i k (by omega) (Nat.le_refl _) (fun m q hm1 hm2 hq hqd => by have := only m q hm2 hq hqd; omega)
      refine ⟨?_, fun q hq hqd => ?_⟩
      · by_cases hf : ∃ φ, (d, φ) ∈ F k
        · obtain ⟨φ, hφ⟩ := hf
          obtain ⟨m, q, hm, hq, hqd, hin, _⟩ := hr.origin hc.le k (Nat.le_refl _) _ hφ
          have hmj := only m q hm hq hqd
          subst hmj
          exact .inl ⟨(d, φ), hr.mono hc.le (m + 1) i (by omega) (by omega) _ hin, rfl⟩
        · exact .inr ((h2 (fun φ hφ => hf ⟨φ, hφ⟩)).trans hk)
      · obtain ⟨d', φ⟩ := q
        subst hqd
        exact h1 φ (hr.mono hc.le i k (by omega) (Nat.le_refl _) _ hq)
    · subst h
      obtain rfl : o = p := Option.some.inj (ho.symm.trans hp)
      exact absurd hd (hc.self j o d ho hpd)
    · -- an operation behind it: it has not been done
      have hl : listed[j]? ≠ some true := fun hl => by
        rcases hc.pair j i p o hp ho h with ⟨e, he, hbd, rfl⟩ | hap
        · rw [hI.closed j p hp hl e he hbd] at hun; cases hun
        · exact absurd hd ((Oper.apart_spec hap).2.2 d hpd)
      have h0 : a.tmps[d]? = (A 0).tmps[d]? := hI.rest d (fun m q hm hq hlm hqd => by
        have := only m q hm hq hqd
        subst this; exact hl hlm)
      have hA : (A i).tmps[d]? = (A 0).tmps[d]? := hr.slot hc.le d 0 i (Nat.zero_le _) (by omega) (fun m q _ hm2 hq hqd => by have := only m q (by omega) hq hqd; omega)
      refine ⟨.inr (h0.trans hA.symm), fun q hq hqd => ?_⟩
      obtain ⟨m, r, hm, hrr, hrd, _⟩ := hr.origin hc.le i (by omega) _ hq
      rw [hqd] at hrd
      have := only m r (by omega) hrr hrd
      omega
  · have h0 : a.tmps[d]? = (A 0).tmps[d]? := hI.rest d (fun m q hm hq _ hqd => hw ⟨m, q, hm, hq, hqd⟩)
    have hA : (A i).tmps[d]? = (A 0).tmps[d]? := hr.slot hc.le d 0 i (Nat.zero_le _) (by omega) (fun m q _ hm2 hq hqd => hw ⟨m, q, by omega, hq, hqd⟩)
    refine ⟨.inr (h0.trans hA.symm), fun q hq hqd => ?_⟩
    obtain ⟨m, r, hm, hrr, hrd, _⟩ := hr.origin hc.le i (by omega) _ hq
    rw [hqd] at hrd
    exact absurd ⟨m, r, by omega, hrr, hrd⟩ hw
end

section
variable {P : Program} {ops : Array Oper} {w0 : World} {k : Nat} {A : Nat → Act} {F : Nat → Facts}

theorem wp_of_quietR {o : Oper} {a : Act} {W : World} {v : Value} {K : Act → World → Prop} {Q : Exit → Act → World → Prop}
    (h : quietR P W v ((execOp a.eval o).run P W)) (hK : ∀ W', Below W.heap.size W W' → K (a.put o.dst v) W') : o.wp P a W K Q := by
  unfold Oper.wp
  generalize (execOp a.eval o).run P W = r at *
  cases r with
  | ok n W' =>
    cases n <;> simp only [quietR] at h <;> simp only [Oper.upon]
    case value u => obtain ⟨rfl, rfl⟩ := h; exact hK _ (Below.refl _ _)
    case skip => obtain ⟨rfl, rfl⟩ := h; exact hK _ (Below.refl _ _)
    case enter f args =>
      obtain ⟨rfl, hc⟩ := h
      exact hc.mono fun e W'' ⟨he, hb⟩ => by subst he; exact hK _ hb
  | halt x W' => simp only [quietR] at h

theorem wp_of_freshR {o : Oper} {a : Act} {W : World} {φ : Value → World → Prop} {K : Act → World → Prop} {Q : Exit → Act → World → Prop}
    (h : freshR P W φ ((execOp a.eval o).run P W)) (hK : ∀ v W', Below W.heap.size W W' → φ v W' → K (a.put o.dst v) W') : o.wp P a W K Q := by
  unfold Oper.wp
  generalize (execOp a.eval o).run P W = r at *
  cases r with
  | ok n W' =>
    cases n <;> simp only [freshR] at h <;> simp only [Oper.upon]
    case value u => exact hK _ _ h.1 h.2
    case enter f args =>
      obtain ⟨rfl, hc⟩ := h
      exact hc.mono fun e W'' ⟨u, he, hb, hu⟩ => by subst he; exact hK _ _ hb hu
  | halt x W' => simp only [freshR] at h

theorem Inv.op (hc : RChk ops k) (hr : Rows P ops w0 k A F) {listed : Array Bool} {a : Act} {W : World} (hI : Inv ops w0 k A F listed a W) {i : Nat} (hi : i < k)
    (hun : listed[i]? = some false) (hedge : ∀ o, ops[i]? = some o → ∀ e ∈ o.after, Region.binds .any e = true → listed[e.on]? = some true) {K : Act → World → Prop} {Q : Exit → Act → World → Prop}
    (hK : ∀ a' W', Inv ops w0 k A F (listed.setIfInBounds i true) a' W' → K a' W') : wpOp P ops Q i K a W := by
  obtain ⟨o, ho⟩ := exists_op hc.le hi
  have hedge := hedge o ho
  have hag := hI.agree hc hr hi ho hun hedge
  have hrow := hr.2 i o hi ho
  have hsz := hr.size hc.le i (by omega)
  have hsz1 := hr.size hc.le (i + 1) (by omega)
  have hnosel : ∀ cs b, o.op ≠ .select cs b := fun cs b => Region.noSelect_spec hc.sel i o cs b ho
  have hguard : guardOk ops o (F i) := hrow.1
  have hwant : Region.wanted o (yielded ops a.tmps) = Region.wanted o (yielded ops (A i).tmps) := by
    refine wanted_congr fun g w t hg ht => ?_
    have hd : t ∈ o.looksAt ops := by
      unfold Oper.looksAt
      rw [hg]
      refine List.mem_append_right _ ?_
      simp only [ht]; simp
    rcases (hag t hd).1 with ⟨p, hp, hpt⟩ | h
    · unfold guardOk at hguard
      rw [hg] at hguard
      exact absurd (by rw [ht, hpt]) (hguard p hp)
    · exact h
  -- the frame in which the operation was walked
  have hexec : execOp (puts a (need ops o (F i)) (A i)).eval o = execOp a.eval o := by
    refine execOp_congr o hnosel (eval_congr (ops := ops) fun d hd => ?_)
    refine puts_slot a d _ _ (hI.size.trans hsz.1.symm) ?_
    rcases (hag d hd).1 with ⟨p, hp, hpd⟩ | h
    · exact .inl ⟨p, List.mem_filter.2 ⟨hp, by rw [hpd]; simpa using hd⟩, hpd⟩
    · exact .inr h
  have hfacts : ∀ p ∈ need ops o (F i), p.2 (a.tmps.getD p.1 undef) W := fun p hp => by
    obtain ⟨h1, h2⟩ := List.mem_filter.1 hp
    exact (hag p.1 (by simpa using h2)).2 p h1 rfl
  -- behind the operation
  have behind : ∀ (v : Value) (W' : World), Below W.heap.size W W' → F (i + 1) = F i → A (i + 1) = (A i).put o.dst v → K (a.put o.dst v) W' := by
    intro v W' hb hF hA
    refine hK _ _ (hI.step hc hr hi ho hun hedge v W' hb fun d hd => ⟨fun φ hφ => ?_, fun _ => ?_⟩)
    · obtain ⟨m, q, hm, hq, hqd, hin, hnot, _⟩ := hr.origin hc.le k (Nat.le_refl _) _ hφ
      have hmi := hc.same hm hi hq ho hqd hd
      subst hmi
      rw [hF] at hin
      exact absurd hin hnot
    · have hk : (A k).tmps[d]? = (A (i + 1)).tmps[d]? := hr.slot hc.le d (i + 1) k (by omega) (Nat.le_refl _) (fun m q hm1 hm2 hq hqd => by
        have := hc.same hm2 hi hq ho hqd hd
        omega)
      rw [hk, hA, slot_put, slot_put, hsz.1, hI.size, hd]
      by_cases hl : d < (A 0).tmps.size
      · simp [hl]
      · have h1 : a.tmps.size ≤ d := by rw [hI.size]; exact Nat.le_of_not_lt hl
        have h2 : (A i).tmps.size ≤ d := by rw [hsz.1]; exact Nat.le_of_not_lt hl
        rw [if_neg (fun h => hl h.2), if_neg (fun h => hl h.2), Array.getElem?_eq_none h1, Array.getElem?_eq_none h2]
  unfold wpOp
  simp only [ho]
  rcases hrow.2 with ⟨hw, v, hv, hA, hF⟩ | ⟨hw, φ, d, hd, hdl, hper, hv, hA, hF⟩ | ⟨hw, hA, hF⟩
  · rw [if_pos (hwant.trans hw)]
    refine .inl ?_
    have h1 := close_at a _ _ (hv ⟨W, hI.lat⟩) hfacts
    rw [hexec] at h1
    exact wp_of_quietR h1 fun W' hb => behind v W' hb hF hA
  · rw [if_pos (hwant.trans hw)]
    refine .inl ?_
    have h1 := close_at a _ _ (hv ⟨W, hI.lat⟩) hfacts
    rw [hexec] at h1
    refine wp_of_freshR h1 fun v W' hb hu => ?_
    refine hK _ _ (hI.step hc hr hi ho hun hedge v W' hb fun e he => ⟨fun ψ hψ => ?_, fun hn => ?_⟩)
    · obtain rfl : d = e := Option.some.inj (hd.symm.trans he)
      obtain ⟨m, q, hm, hq, hqd, hin, hnot, _⟩ := hr.origin hc.le k (Nat.le_refl _) _ hψ
      have hmi := hc.same hm hi hq ho hqd hd
      subst hmi
      rw [hF] at hin
      rcases List.mem_cons.1 hin with e | hin
      · obtain rfl : ψ = φ := (Prod.mk.inj e).2
        have hdl' : d < a.tmps.size := by rw [hI.size, ← hsz.1]; exact hdl
        have : (a.put o.dst v).tmps.getD d undef = v := by
          rw [Array.getD_eq_getD_getElem?, slot_put, if_pos ⟨hd, hdl'⟩]; rfl
        rw [this]; exact hu
      · exact absurd hin hnot
    · obtain rfl : d = e := Option.some.inj (hd.symm.trans he)
      refine absurd ?_ (hn φ)
      exact hr.mono hc.le (i + 1) k (by omega) (Nat.le_refl _) _ (by rw [hF]; exact List.mem_cons_self ..)
  · rw [if_neg (by rw [hwant, hw]; simp)]
    exact behind undef W (Below.refl _ _) hF hA
end

section
variable {P : Program} {ops : Array Oper} {w0 : World} {k : Nat} {A : Nat → Act} {F : Nat → Facts} {Q : Exit → Act → World → Prop}

theorem getD_true {listed : Array Bool} {i : Nat} (h : listed.getD i true = false) : listed[i]? = some false := by
  rw [Array.getD_eq_getD_getElem?] at h
  cases hl : listed[i]? with
  | none => rw [hl] at h; simp at h
  | some b => rw [hl] at h; simp at h; rw [h]
theorem getD_false {listed : Array Bool} {i : Nat} (h : listed.getD i false = true) : listed[i]? = some true := by
  rw [Array.getD_eq_getD_getElem?] at h
  cases hl : listed[i]? with
  | none => rw [hl] at h; simp at h
  | some b => rw [hl] at h; simp at h; rw [h]
theorem getD_of {listed : Array Bool} {i : Nat} {b c : Bool} (h : listed[i]? = some b) : listed.getD i c = b := by
  rw [Array.getD_eq_getD_getElem?, h]; rfl

theorem ready_of {listed : Array Bool} {i : Nat} {o : Oper} (ho : ops[i]? = some o) (hun : listed[i]? = some false) (hedge : ∀ e ∈ o.after, Region.binds .any e = true → listed[e.on]? = some true) : i ∈ Region.ready .any ops listed :=
  mem_ready.2 ⟨getD_of hun, o, ho, fun e he hb => getD_of (hedge e he hb)⟩

theorem wpAny_tail (hc : RChk ops k) : ∀ (fuel i : Nat) (listed : Array Bool) (a : Act) (W : World), k ≤ i → i ≤ ops.size → ops.size ≤ fuel + i → listed.size = ops.size →
    (∀ j, j < i → listed[j]? = some true) → (∀ j, i ≤ j → j < ops.size → listed[j]? = some false) → wpList P ops Q (ops.toList.drop i) a W → wpAny P .any ops Q fuel listed a W := by
  intro fuel
  have none_of : ∀ (listed : Array Bool), (∀ j, j < ops.size → listed[j]? = some true) → Region.ready .any ops listed = [] := by
    intro listed hl
    apply List.eq_nil_iff_forall_not_mem.2
    intro j hj
    obtain ⟨h1, o, ho, _⟩ := mem_ready.1 hj
    have := getD_true h1
    rw [hl j (Array.getElem?_eq_some_iff.1 ho).1] at this
    cases this
  induction fuel with
  | zero =>
    intro i listed a W hki hin hf hls ht hu h
    have : i = ops.size := by omega
    subst this
    rw [List.drop_of_length_le (by simp)] at h
    exact ⟨none_of listed (fun j hj => ht j hj), h⟩
  | succ fuel ih =>
    intro i listed a W hki hin hf hls ht hu h
    rcases Nat.lt_or_ge i ops.size with hlt | hge
    · have ho : ops[i]? = some ops[i] := Array.getElem?_eq_getElem hlt
      have hdrop : ops.toList.drop i = ops[i] :: ops.toList.drop (i + 1) := by
        rw [List.drop_eq_getElem_cons (by simpa using hlt)]; simp
      rw [hdrop] at h
      have hri : i ∈ Region.ready .any ops listed := ready_of ho (hu i (Nat.le_refl _) hlt) (fun e he hb => ht _ (hc.below i _ ho e he hb))
      refine ⟨fun h0 => (by rw [h0] at hri; cases hri), fun j hj => ?_⟩
      obtain ⟨h1, o, hoj, hall⟩ := mem_ready.1 hj
      have hji : j = i := by
        have hjl := (Array.getElem?_eq_some_iff.1 hoj).1
        have hjf := getD_true h1
        rcases Nat.lt_trichotomy j i with h | h | h
        · rw [ht j h] at hjf; cases hjf
        · exact h
        · exfalso
          have hcj := hc.tail j i o ops[i] hoj ho h (by omega)
          have first : ∀ {m n : Nat}, Chain ops m n → n < m ∧ ∀ (p : Oper), ops[m]? = some p → ∃ e ∈ p.after, Region.binds .any e = true ∧ n ≤ e.on ∧ e.on < m := by
            intro m n hch
            induction hch with
            | one ho he hb => exact ⟨hc.below _ _ ho _ he hb, fun p hp => by obtain rfl := Option.some.inj (hp.symm.trans ho); exact ⟨_, he, hb, Nat.le_refl _, hc.below _ _ ho _ he hb⟩⟩
            | step ho he hb _ ih => exact ⟨Nat.lt_trans ih.1 (hc.below _ _ ho _ he hb), fun p hp => by obtain rfl := Option.some.inj (hp.symm.trans ho); exact ⟨_, he, hb, Nat.le_of_lt ih.1, hc.below _ _ ho _ he hb⟩⟩
          obtain ⟨e, he, hb, h1, h2⟩ := (first hcj).2 o hoj
          have := getD_false (hall e he hb)
          rw [hu e.on h1 (by omega)] at this
          cases this
      subst hji
      unfold wpOp
      simp only [ho]
      have next : ∀ a' W', wpList P ops Q (ops.toList.drop (j + 1)) a' W' → wpAny P .any ops Q fuel (listed.setIfInBounds j true) a' W' := fun a' W' h' => by
        refine ih (j + 1) _ a' W' (by omega) (by omega) (by omega) (by simpa using hls) (fun m hm => ?_) (fun m hm hmn => ?_) h'
        · by_cases e : m = j
          · subst e; rw [Array.getElem?_setIfInBounds_self]; simp [hls, hlt]
          · exact set_true (ht m (by omega))
        · rw [Array.getElem?_setIfInBounds_ne (by omega)]; exact hu m (by omega) hmn
      simp only [wpList] at h
      split
      · rename_i hw
        rw [if_pos hw] at h
        exact h.imp (Oper.wp_mono next) id
      · rename_i hw
        rw [if_neg hw] at h
        exact next _ _ h
    · have : i = ops.size := by omega
      subst this
      rw [List.drop_of_length_le (by simp)] at h
      have h0 := none_of listed (fun j hj => ht j hj)
      exact ⟨fun _ => h, fun j hj => (by rw [h0] at hj; cases hj)⟩
end

section
variable {P : Program} {ops : Array Oper} {w0 : World} {k : Nat} {A : Nat → Act} {F : Nat → Facts} {Q : Exit → Act → World → Prop}

theorem Inv.done (hc : RChk ops k) (hr : Rows P ops w0 k A F) {listed : Array Bool} {a : Act} {W : World} (hI : Inv ops w0 k A F listed a W) (hall : ∀ j, j < k → listed[j]? = some true)
    (hend : ∀ x : Lat w0, close (F k) (A k) x.1 (fun a' W => wpList P ops Q (ops.toList.drop k) a' W)) : wpList P ops Q (ops.toList.drop k) a W := by
  have hsz := hr.size hc.le k (Nat.le_refl _)
  have hfacts : ∀ p ∈ F k, p.2 (a.tmps.getD p.1 undef) W := fun p hp => by
    obtain ⟨m, q, hm, hq, hqd, _⟩ := hr.origin hc.le k (Nat.le_refl _) p hp
    exact (hI.vals m q p.1 hm hq hqd (hall m hm)).1 p.2 hp
  have h1 := close_at a _ _ (hend ⟨W, hI.lat⟩) hfacts
  have he : puts a (F k) (A k) = a := by
    have ht : (puts a (F k) (A k)).tmps = a.tmps := by
      apply Array.ext_getElem?
      intro d
      refine puts_slot a d _ _ (hI.size.trans hsz.1.symm) ?_
      by_cases hf : ∃ φ, (d, φ) ∈ F k
      · obtain ⟨φ, hφ⟩ := hf
        exact .inl ⟨_, hφ, rfl⟩
      · right
        by_cases hw : ∃ (j : Nat) (p : Oper), j < k ∧ ops[j]? = some p ∧ p.dst = some d
        · obtain ⟨j, p, hj, hp, hpd⟩ := hw
          exact (hI.vals j p d hj hp hpd (hall j hj)).2 fun φ hφ => hf ⟨φ, hφ⟩
        · have h0 := hI.rest d fun m q hm hq _ hqd => hw ⟨m, q, hm, hq, hqd⟩
          exact h0.trans (hr.slot hc.le d 0 k (Nat.zero_le _) (Nat.le_refl _) fun m q _ hm hq hqd => hw ⟨m, q, hm, hq, hqd⟩).symm
    have hd : (puts a (F k) (A k)).defers = a.defers := by rw [puts_defers, hsz.2, hI.defers]
    generalize puts a (F k) (A k) = b at *
    cases a; cases b
    simp only at ht hd
    subst ht; subst hd
    rfl
  rw [he] at h1
  exact h1

theorem count_set {l : List Bool} : ∀ {i : Nat}, l[i]? = some false → (l.set i true).count false + 1 = l.count false := by
  induction l with
  | nil => intro i h; simp at h
  | cons b l ih =>
    intro i h
    cases i with
    | zero =>
      simp at h
      subst h
      simp
    | succ i =>
      simp at h
      have := ih h
      simp only [List.set_cons_succ, List.count_cons]
      omega

theorem wpAny_of_inv (hc : RChk ops k) (hr : Rows P ops w0 k A F) (hend : ∀ x : Lat w0, close (F k) (A k) x.1 (fun a' W => wpList P ops Q (ops.toList.drop k) a' W)) :
    ∀ (fuel : Nat) (listed : Array Bool) (a : Act) (W : World), listed.toList.count false ≤ fuel → Inv ops w0 k A F listed a W → wpAny P .any ops Q fuel listed a W := by
  intro fuel
  -- where all that are not of the tail have been done
  have full : ∀ (fuel : Nat) (listed : Array Bool) (a : Act) (W : World), listed.toList.count false ≤ fuel → Inv ops w0 k A F listed a W → (∀ j, j < k → listed[j]? = some true) → wpAny P .any ops Q fuel listed a W := by
    intro fuel listed a W hf hI hall
    refine wpAny_tail hc fuel k listed a W (Nat.le_refl _) hc.le ?_ hI.lsize hall hI.low (hI.done hc hr hall hend)
    have : (listed.toList.drop k).count false = ops.size - k := by
      have he : listed.toList.drop k = List.replicate (ops.size - k) false := by
        apply List.ext_getElem?
        intro j
        rw [List.getElem?_drop]
        by_cases h : k + j < ops.size
        · have h1 := hI.low (k + j) (by omega) h
          have h2 : j < ops.size - k := by omega
          simp [h1, h2]
        · rw [List.getElem?_eq_none (by simp [hI.lsize]; omega), List.getElem?_eq_none (by simp; omega)]
      rw [he]; simp
    have h2 : (listed.toList.drop k).count false ≤ listed.toList.count false := List.Sublist.count_le false (List.drop_sublist k _)
    omega
  -- the first that has not been done
  have first : ∀ (listed : Array Bool) (a : Act) (W : World), Inv ops w0 k A F listed a W → ¬ (∀ j, j < k → listed[j]? = some true) → ∃ j, j < k ∧ listed[j]? = some false ∧ ∀ m, m < j → listed[m]? = some true := by
    intro listed a W hI hn
    have ex : ∀ n, n ≤ k → (∀ m, m < n → listed[m]? = some true) ∨ ∃ j, j < n ∧ listed[j]? = some false ∧ ∀ m, m < j → listed[m]? = some true := by
      intro n
      induction n with
      | zero => intro _; exact .inl fun m hm => by omega
      | succ n ih =>
        intro hnk
        rcases ih (by omega) with h | ⟨j, hj, h⟩
        · have hlt : n < listed.size := by rw [hI.lsize]; have := hc.le; omega
          cases hb : listed[n]'hlt with
          | true =>
            left
            intro m hm
            by_cases e : m = n
            · subst e; rw [Array.getElem?_eq_getElem hlt, hb]
            · exact h m (by omega)
          | false => exact .inr ⟨n, by omega, by rw [Array.getElem?_eq_getElem hlt, hb], h⟩
        · exact .inr ⟨j, by omega, h⟩
    rcases ex k (Nat.le_refl _) with h | h
    · exact absurd h hn
    · exact h
  induction fuel with
  | zero =>
    intro listed a W hf hI
    by_cases hall : ∀ j, j < k → listed[j]? = some true
    · exact full 0 listed a W hf hI hall
    · obtain ⟨j, hj, hl, _⟩ := first listed a W hI hall
      exfalso
      have : false ∈ listed.toList := by
        rw [← Array.getElem?_toList] at hl
        exact List.mem_of_getElem? hl
      have := List.count_pos_iff.2 this
      omega
  | succ fuel ih =>
    intro listed a W hf hI
    by_cases hall : ∀ j, j < k → listed[j]? = some true
    · exact full (fuel + 1) listed a W hf hI hall
    · obtain ⟨j, hj, hl, hm⟩ := first listed a W hI hall
      obtain ⟨o, ho⟩ := exists_op hc.le hj
      have hrj : j ∈ Region.ready .any ops listed := ready_of ho hl (fun e he hb => hm _ (hc.below j o ho e he hb))
      refine ⟨fun h0 => (by rw [h0] at hrj; cases hrj), fun i hi => ?_⟩
      obtain ⟨h1, p, hp, hedge⟩ := mem_ready.1 hi
      have hun := getD_true h1
      have hik : i < k := by
        rcases Nat.lt_or_ge i k with h | h
        · exact h
        · exfalso
          have hci := hc.tail i j p o hp ho (by omega) h
          have clo : ∀ {m n : Nat}, Chain ops m n → listed[m]? = some true → listed[n]? = some true := by
            intro m n hch
            induction hch with
            | one ho he hb => exact fun h => hI.closed _ _ ho h _ he hb
            | step ho he hb _ ih => exact fun h => ih (hI.closed _ _ ho h _ he hb)
          have all : listed[j]? = some true := by
            cases hci with
            | one ho' he hb => obtain rfl := Option.some.inj (hp.symm.trans ho'); exact getD_false (hedge _ he hb)
            | step ho' he hb hch => obtain rfl := Option.some.inj (hp.symm.trans ho'); exact clo hch (getD_false (hedge _ he hb))
          rw [hl] at all
          cases all
      refine hI.op hc hr hik hun (fun q hq e he hb => ?_) (fun a' W' hI' => ih _ a' W' ?_ hI')
      · obtain rfl : p = q := Option.some.inj (hp.symm.trans hq)
        exact getD_false (hedge e he hb)
      · have := count_set (l := listed.toList) (i := i) (by rw [Array.getElem?_toList]; exact hun)
        rw [Array.toList_setIfInBounds]
        omega

/-- ONE WALK IN THE ORDER OF THE TEXT SERVES EVERY ORDER. -/
theorem wp_region_rely {id : Nat} {a : Act} {w : World} (k : Nat) (hm : P.follows .mixedOrders = true) (hB : relyB ops k = true)
    (h : wpR P ops w.drew (fun a' W => wpList P ops Q (ops.toList.drop k) a' W) (ops.toList.take k) [] a) : (Code.region id ops true).wp P Q a w := by
  have hc := RChk.of hB
  obtain ⟨A, F, hA, hF, hrows, hend⟩ := table _ _ _ h
  have hlen : (ops.toList.take k).length = k := by rw [List.length_take, Array.length_toList]; exact Nat.min_eq_left hc.le
  rw [hlen] at hend
  have hr : Rows P ops w.drew k A F := ⟨hF, fun j o hj ho => hrows j o (by rw [List.getElem?_take, if_pos hj, Array.getElem?_toList]; exact ho)⟩
  refine wp_region_any hm (wpAny_of_inv hc hr hend ops.size _ a _ (by simp) ?_)
  have hno : ∀ j : Nat, (Array.replicate ops.size false)[j]? ≠ some true := fun j hj => by
    have := (Array.getElem?_eq_some_iff.1 hj)
    simp at this
  refine ⟨Below.refl _ _, by rw [hA], by rw [hA], by simp, fun j o d _ _ _ hl => absurd hl (hno j), fun j o _ hl => absurd hl (hno j), fun d _ => by rw [hA], fun j _ hjn => by simp [hjn]⟩
end

/-! ### one operation of the walk -/
section
variable {P : Program} {ops : Array Oper} {w0 : World} {Q : Act → World → Prop} {o : Oper} {rest : List Oper} {E : Facts} {a : Act}

/-- an operation whose value is fixed, that reads no slot of which only a fact is known -/
@[go_sem] def quietK (P : Program) (w0 : World) (o : Oper) (a : Act) (K : Act → Prop) : Prop := ∃ v, (∀ x : Lat w0, quietR P x.1 v ((execOp a.eval o).run P x.1)) ∧ K (a.put o.dst v)
attribute [go_sem] quietR

def guardB (ops : Array Oper) (o : Oper) (ts : List Tmp) : Bool := match o.guard with
  | none => true
  | some (g, _) => match (ops[g]?).bind (·.dst) with
    | none => true
    | some t => !ts.contains t
theorem guard_of (h : guardB ops o (E.map (·.1)) = true) : guardOk ops o E := by
  unfold guardB at h
  unfold guardOk
  cases hg : o.guard with
  | none => trivial
  | some gw =>
    obtain ⟨g, want⟩ := gw
    simp only [hg] at h
    intro p hp he
    simp only [he] at h
    simp at h
    exact h p.2 hp
def needB (ops : Array Oper) (o : Oper) (ts : List Tmp) : Bool := ts.all fun t => !(o.looksAt ops).contains t
theorem need_none (h : needB ops o (E.map (·.1)) = true) : need ops o E = [] := by
  unfold need
  apply List.filter_eq_nil_iff.2
  intro p hp
  unfold needB at h
  rw [List.all_eq_true] at h
  have := h p.1 (List.mem_map_of_mem hp)
  simpa using this

theorem wpR_step0 (hg : guardB ops o (E.map (·.1)) = true) (hn : needB ops o (E.map (·.1)) = true)
    (h : ∀ K : Act → Prop, (∀ a, wpR P ops w0 Q rest E a → K a) → if Region.wanted o (yielded ops a.tmps) then quietK P w0 o a K else K (a.put o.dst undef)) : wpR P ops w0 Q (o :: rest) E a := by
  refine ⟨guard_of hg, ?_⟩
  have h := h _ (fun _ h => h)
  rw [need_none hn]
  split
  · rename_i hw
    rw [if_pos hw] at h
    obtain ⟨v, h1, h2⟩ := h
    exact .inl ⟨v, h1, h2⟩
  · rename_i hw
    rw [if_neg hw] at h
    exact h
/-- an operation of whose value a fact that lasts is known -/
theorem wpR_fresh (φ : Value → World → Prop) (d : Tmp) (hg : guardB ops o (E.map (·.1)) = true) (hn : needB ops o (E.map (·.1)) = true) (hw : Region.wanted o (yielded ops a.tmps) = true) (hd : o.dst = some d) (hs : d < a.tmps.size) (hp : Persist φ)
    (h : ∀ x : Lat w0, freshR P x.1 φ ((execOp a.eval o).run P x.1)) (hk : wpR P ops w0 Q rest ((d, φ) :: E) a) : wpR P ops w0 Q (o :: rest) E a := by
  refine ⟨guard_of hg, ?_⟩
  rw [if_pos hw, need_none hn]
  exact .inr ⟨φ, d, hd, hs, hp, h, hk⟩
/-- the same for an operation that reads slots of which only facts are known: 'E'': those facts -/
theorem wpR_freshE (φ : Value → World → Prop) (d : Tmp) (E' : Facts) (hg : guardB ops o (E.map (·.1)) = true) (hn : need ops o E = E') (hw : Region.wanted o (yielded ops a.tmps) = true) (hd : o.dst = some d) (hs : d < a.tmps.size) (hp : Persist φ)
    (h : ∀ x : Lat w0, close E' a x.1 (fun a' W => freshR P W φ ((execOp a'.eval o).run P W))) (hk : wpR P ops w0 Q rest ((d, φ) :: E) a) : wpR P ops w0 Q (o :: rest) E a := by
  refine ⟨guard_of hg, ?_⟩
  rw [if_pos hw, hn]
  exact .inr ⟨φ, d, hd, hs, hp, h, hk⟩
/-- an operation whose value is fixed, that reads slots of which only facts are known -/
theorem wpR_settled (v : Value) (E' : Facts) (hg : guardB ops o (E.map (·.1)) = true) (hn : need ops o E = E') (hw : Region.wanted o (yielded ops a.tmps) = true)
    (h : ∀ x : Lat w0, close E' a x.1 (fun a' W => quietR P W v ((execOp a'.eval o).run P W))) (hk : wpR P ops w0 Q rest E (a.put o.dst v)) : wpR P ops w0 Q (o :: rest) E a := by
  refine ⟨guard_of hg, ?_⟩
  rw [if_pos hw, hn]
  exact .inl ⟨v, h, hk⟩
attribute [go_sem] freshR
theorem wpR_nil (h : ∀ x : Lat w0, close E a x.1 Q) : wpR P ops w0 Q [] E a := h
end
end Go.Proofs.Ytibpipppabommaa.RelyT
