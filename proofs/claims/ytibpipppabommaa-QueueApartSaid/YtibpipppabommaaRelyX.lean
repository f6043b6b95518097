/- The same for a region that goes by the text's order: operations whose value is fixed, or known by a fact that lasts, then whatever comes. -/
import Derived.Test.YtibpipppabommaaRely
set_option linter.unusedVariables false
set_option linter.unusedSimpArgs false
namespace Go.Proofs.Ytibpipppabommaa.Rely
open Go Go.RowKit

def Agree (E : Facts) (a c : Act) (W : World) : Prop :=
  c.tmps.size = a.tmps.size ∧ c.defers = a.defers ∧ (∀ d, (∀ p ∈ E, p.1 ≠ d) → c.tmps[d]? = a.tmps[d]?) ∧ ∀ p ∈ E, p.2 (c.tmps.getD p.1 undef) W ∧ Persist p.2

def DistinctD : List Oper → Prop
  | [] => True
  | o :: l => (∀ d, o.dst = some d → ∀ p ∈ l, p.dst ≠ some d) ∧ (∀ cs b, o.op ≠ .select cs b) ∧ DistinctD l
def distinctB : List Oper → Bool
  | [] => true
  | o :: l => (match o.dst with | some d => l.all (fun p => p.dst != some d) | none => true) && (match o.op with | .select _ _ => false | _ => true) && distinctB l
theorem distinct_of : ∀ {l : List Oper}, distinctB l = true → DistinctD l
  | [], _ => trivial
  | o :: l, h => by
    simp only [distinctB, Bool.and_eq_true] at h
    refine ⟨fun d hd p hp => ?_, fun cs b e => ?_, distinct_of h.2⟩
    rotate_left
    · have h2 := h.1.2
      rw [e] at h2
      simp at h2
    have h1 := h.1.1
    rw [hd] at h1
    simp only [List.all_eq_true] at h1
    simpa using h1 p hp

theorem Agree.puts {E : Facts} {a c : Act} {W : World} (h : Agree E a c W) : puts c E a = c := by
  obtain ⟨h1, h2, h3, h4⟩ := h
  obtain ⟨ct, cd⟩ := c
  have e1 : (Rely.puts ⟨ct, cd⟩ E a).tmps = ct := by
    apply Array.ext_getElem?
    intro d
    refine puts_slot ⟨ct, cd⟩ d E a h1 ?_
    by_cases hE : ∃ p ∈ E, p.1 = d
    · exact .inl hE
    · exact .inr (h3 d (fun p hp he => hE ⟨p, hp, he⟩))
  have e2 : (Rely.puts ⟨ct, cd⟩ E a).defers = cd := (puts_defers _ _ _).trans h2.symm
  have : ∀ x : Act, x.tmps = ct → x.defers = cd → x = ⟨ct, cd⟩ := by rintro ⟨_, _⟩ rfl rfl; rfl
  exact this _ e1 e2

theorem Agree.need {E : Facts} {a c : Act} {W : World} {ops : Array Oper} {o : Oper} (h : Agree E a c W) : ∀ d ∈ o.looksAt ops, (Rely.puts c (Rely.need ops o E) a).tmps[d]? = c.tmps[d]? := by
  intro d hd
  refine puts_slot c d _ a h.1 ?_
  by_cases hE : ∃ p ∈ E, p.1 = d
  · obtain ⟨p, hp, rfl⟩ := hE
    refine .inl ⟨p, List.mem_filter.2 ⟨hp, by simpa using hd⟩, rfl⟩
  · exact .inr (h.2.2.1 d (fun p hp he => hE ⟨p, hp, he⟩))

theorem Agree.close {E : Facts} {a c : Act} {W : World} {ops : Array Oper} {o : Oper} (h : Agree E a c W) {K : Act → World → Prop} (hk : Rely.close (Rely.need ops o E) a W K) : K (Rely.puts c (Rely.need ops o E) a) W :=
  close_at c _ a hk (fun p hp => (h.2.2.2 p (List.mem_filter.1 hp).1).1)

theorem Agree.put {E : Facts} {a c : Act} {W W' : World} (h : Agree E a c W) (hb : Below W.heap.size W W') (t : Option Tmp) (v : Value) (ht : ∀ d, t = some d → ∀ p ∈ E, p.1 ≠ d) : Agree E (a.put t v) (c.put t v) W' := by
  obtain ⟨h1, h2, h3, h4⟩ := h
  refine ⟨by rw [size_put, size_put]; exact h1, by rw [defers_put, defers_put]; exact h2, fun d hd => ?_, fun p hp => ?_⟩
  · rw [slot_put, slot_put, h1, h3 d hd]
  · obtain ⟨k1, k2⟩ := h4 p hp
    refine ⟨?_, k2⟩
    rw [getD_eq (slot_put_ne c t v p.1 (fun e => ht _ e p hp rfl))]
    exact k2 _ _ _ k1 hb

theorem Agree.fresh {E : Facts} {a c : Act} {W W' : World} (h : Agree E a c W) (hb : Below W.heap.size W W') (d : Tmp) (hd : d < a.tmps.size) (φ : Value → World → Prop) (hφ : Persist φ) (v : Value) (hv : φ v W') (ht : ∀ p ∈ E, p.1 ≠ d) : Agree ((d, φ) :: E) a (c.put (some d) v) W' := by
  obtain ⟨h1, h2, h3, h4⟩ := h
  refine ⟨by rw [size_put]; exact h1, by rw [defers_put]; exact h2, fun e he => ?_, fun p hp => ?_⟩
  · rw [slot_put_ne c _ v e (fun x => he _ (List.mem_cons_self ..) (Option.some.inj x))]
    exact h3 e (fun p hp => he p (List.mem_cons_of_mem _ hp))
  · rcases List.mem_cons.1 hp with rfl | hp
    · refine ⟨?_, hφ⟩
      have : (c.put (some d) v).tmps.getD d undef = v := by
        rw [Array.getD_eq_getD_getElem?, slot_put, if_pos ⟨rfl, by rw [h1]; exact hd⟩]; rfl
      show φ ((c.put (some d) v).tmps.getD d undef) W'
      rw [this]; exact hv
    · obtain ⟨k1, k2⟩ := h4 p hp
      refine ⟨?_, k2⟩
      rw [getD_eq (slot_put_ne c _ v p.1 (fun x => ht p hp (Option.some.inj x).symm))]
      exact k2 _ _ _ k1 hb

section
variable {P : Program} {ops : Array Oper} {w0 : World} {Q : Exit → Act → World → Prop}

theorem text_walk (rest : List Oper) : ∀ (l : List Oper) (E : Facts) (a c : Act) (W : World), Below w0.heap.size w0 W → Agree E a c W → (∀ p ∈ E, ∀ o ∈ l, o.dst ≠ some p.1) → DistinctD l →
    wpR P ops w0 (fun a' W => wpList P ops Q rest a' W) l E a → wpList P ops Q (l ++ rest) c W
  | [], E, a, c, W, hb, hA, _, _, h => by
    have := close_at c E a (h ⟨W, hb⟩) (fun p hp => (hA.2.2.2 p hp).1)
    rwa [hA.puts] at this
  | o :: l, E, a, c, W, hb, hA, hE, hD, h => by
    obtain ⟨hg, h⟩ := h
    have hwant : Region.wanted o (yielded ops c.tmps) = Region.wanted o (yielded ops a.tmps) := by
      refine wanted_congr fun g w t hgd ht => hA.2.2.1 t fun p hp he => ?_
      unfold guardOk at hg
      rw [hgd] at hg
      exact hg p hp (by rw [ht, he])
    have hdst : ∀ d, o.dst = some d → ∀ p ∈ E, p.1 ≠ d := fun d hd p hp he => hE p hp o (List.mem_cons_self ..) (by rw [hd, he])
    have hE' : ∀ p ∈ E, ∀ q ∈ l, q.dst ≠ some p.1 := fun p hp q hq => hE p hp q (List.mem_cons_of_mem _ hq)
    show (if Region.wanted o (yielded ops c.tmps) then _ else _)
    rw [hwant]
    by_cases hw : Region.wanted o (yielded ops a.tmps) = true
    · rw [if_pos hw] at h ⊢
      refine .inl ?_
      rcases h with ⟨v, h1, h2⟩ | ⟨φ, d, h1, h2, h3, h4, h5⟩
      · have hq := hA.close (h1 ⟨W, hb⟩)
        rw [execOp_congr o hD.2.1 (eval_congr (ops := ops) hA.need)] at hq
        exact wp_of_quietR hq fun W' hb' => text_walk rest l E _ _ W' (hb.trans (hb'.mono hb.size)) (hA.put hb' _ _ hdst) hE' hD.2.2 h2
      · have hq := hA.close (h4 ⟨W, hb⟩)
        rw [execOp_congr o hD.2.1 (eval_congr (ops := ops) hA.need)] at hq
        refine wp_of_freshR hq fun v W' hb' hv => ?_
        rw [h1]
        refine text_walk rest l ((d, φ) :: E) a _ W' (hb.trans (hb'.mono hb.size)) (hA.fresh hb' d h2 φ h3 v hv (hdst d h1)) (fun p hp q hq => ?_) hD.2.2 h5
        rcases List.mem_cons.1 hp with rfl | hp
        · exact hD.1 d h1 q hq
        · exact hE' p hp q hq
    · rw [if_neg hw] at h ⊢
      exact text_walk rest l E _ _ W hb (hA.put (Below.refl _ _) _ _ hdst) hE' hD.2.2 h

/-- A REGION IN THE TEXT's ORDER. -/
theorem wp_region_text {id : Nat} {a : Act} {w : World} (k : Nat) (hB : distinctB (ops.toList.take k) = true)
    (h : wpR P ops w (fun a' W => wpList P ops Q (ops.toList.drop k) a' W) (ops.toList.take k) [] a) : (Code.region id ops false).wp P Q a w := by
  refine wp_region_list ?_
  have := text_walk (Q := Q) (ops.toList.drop k) (ops.toList.take k) [] a a w (Below.refl _ _) ⟨rfl, rfl, fun _ _ => rfl, fun p hp => by cases hp⟩ (fun p hp => by cases hp) (distinct_of hB) h
  rwa [List.take_append_drop] at this
end
end Go.Proofs.Ytibpipppabommaa.Rely
