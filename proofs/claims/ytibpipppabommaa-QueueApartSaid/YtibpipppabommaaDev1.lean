/- Bytes that are not written any more, by the type of their block; lists of texts that somebody owns. -/
import Derived.Test.YtibpipppabommaaFrm
set_option linter.unusedVariables false
set_option linter.unusedSimpArgs false
namespace Go.Proofs.Ytibpipppabommaa.Cl
open Go Go.Proofs Go.RowKit Fl

/-! ### rows of bytes stay as they are -/
def IsB (w : World) (k : Nat) : Prop := ∃ cs fr, w.heap[k]? = some (.cells cs 5 fr)
def Keep8 (w w' : World) : Prop := ∀ k, IsB w k → w'.heap[k]? = w.heap[k]?
theorem IsB.lt {w : World} {k : Nat} (h : IsB w k) : k < w.heap.size := by
  obtain ⟨cs, fr, h⟩ := h
  exact (Array.getElem?_eq_some_iff.1 h).1
theorem IsB.keep {w w' : World} {k : Nat} (h : IsB w k) (hk : Keep8 w w') : IsB w' k := by
  have e := hk k h
  obtain ⟨cs, fr, h⟩ := h
  exact ⟨cs, fr, e.trans h⟩
theorem Keep8.refl (w : World) : Keep8 w w := fun _ _ => rfl
theorem Keep8.trans {w w1 w2 : World} (h : Keep8 w w1) (k : Keep8 w1 w2) : Keep8 w w2 := fun j hj => (k j (hj.keep h)).trans (h j hj)
theorem Keep8.of_below {w w' : World} (h : Below w.heap.size w w') : Keep8 w w' := fun k hk => h.block k hk.lt
theorem Keep8.of_grown {w w' : World} {r : Option Nat} (h : w.grownBy w' r) (hr : ∀ k, r = some k → ¬ IsB w k) : Keep8 w w' := fun k hk => h.block k hk.lt fun e => hr k e.symm hk
theorem RowAt.notB {w : World} {g : Nat} {t : TypeId} {cs : Array Value} (h : RowAt w g t cs) (ht : t ≠ 5) : ¬ IsB w g := by
  rintro ⟨cs', fr, e⟩
  unfold RowAt at h
  rw [h] at e
  injection e with e
  injection e with _ e2 _
  exact ht e2
theorem own_notB {w : World} {B e s n : Nat} {v : Value} {xs : List Value} (h : w.ownsRow B e s v n xs) (ht : e ≠ 5) : ∀ k, v.ownBlock = some k → ¬ IsB w k := by
  intro k hk
  rcases h.2 with ⟨rfl, _⟩ | ⟨g, cap, cur, rfl, _, hg, _⟩
  · cases hk
  · obtain rfl := Option.some.inj hk
    rintro ⟨cs', fr, e'⟩
    rw [hg] at e'
    injection e' with e'
    injection e' with _ e2 _
    exact ht e2

/-! ### bytes to be read -/
def Byt (w : World) (v : Value) (b : List UInt8) : Prop := Rd w v (bs b) ∧ ∀ a n c, v = .slice (some a) n c → 0 < n → IsB w a.block
theorem Byt.keep {w w' : World} {v : Value} {b : List UInt8} (h : Byt w v b) (hk : Keep8 w w') : Byt w' v b := by
  obtain ⟨⟨a, cap, rfl, h1, h2, h3, h4⟩, h5⟩ := h
  refine ⟨⟨a, cap, rfl, h1, h2, fun j hj => ?_, h4⟩, fun a' n c e hn => (h5 a' n c e hn).keep hk⟩
  obtain ⟨ad, rfl, hc⟩ := h3 j hj
  refine ⟨ad, rfl, ?_⟩
  have hB := h5 ad _ _ rfl (by omega)
  have hb : (ad.add j).block = ad.block := by unfold Addr.add; split <;> rfl
  rw [← hc]
  simp only [World.cell?, hb, hk _ hB]
theorem Byt.below {w w' : World} {v : Value} {b : List UInt8} (h : Byt w v b) (hb : Below w.heap.size w w') : Byt w' v b := h.keep (Keep8.of_below hb)
theorem Byt.of_OB {w : World} {B : Nat} {v : Value} {b : List UInt8} (h : OB w B v b) : Byt w v b := by
  refine ⟨h.rd, fun a n c e hn => ?_⟩
  subst e
  rcases h.2 with ⟨e, h0⟩ | ⟨g, cap, cur, e, _, hg, _⟩
  · cases e
  · injection e with e1 _ _
    obtain rfl := Option.some.inj e1
    exact ⟨cur, _, hg⟩
theorem Byt.rd {w : World} {v : Value} {b : List UInt8} (h : Byt w v b) : Rd w v (bs b) := h.1

/-! ### a step of who owns F -/
def Step (F : Nat → Prop) (w w' : World) (F' : Nat → Prop) : Prop := Frm F w w' ∧ Keep8 w w' ∧ ∀ k, F' k → F k ∨ w.heap.size ≤ k
theorem Step.refl (F : Nat → Prop) (w : World) : Step F w w F := ⟨Frm.refl _ _, Keep8.refl _, fun k h => .inl h⟩
theorem Step.trans {F F1 F2 : Nat → Prop} {w w1 w2 : World} (h : Step F w w1 F1) (k : Step F1 w1 w2 F2) : Step F w w2 F2 :=
  ⟨h.1.step k.1 fun j hj hf => (h.2.2 j hf).elim id fun e => absurd e (by omega), h.2.1.trans k.2.1, fun j hj => by
    rcases k.2.2 j hj with e | e
    · exact h.2.2 j e
    · exact .inr (Nat.le_trans h.1.size e)⟩
theorem Step.of_below {F : Nat → Prop} {w w' : World} (h : Below w.heap.size w w') : Step F w w' F := ⟨Frm.of_below F h, Keep8.of_below h, fun k hk => .inl hk⟩
theorem Step.of_grown {F : Nat → Prop} {w w' : World} {r : Option Nat} (h : w.grownBy w' r) (hF : ∀ k, r = some k → F k) (hB : ∀ k, r = some k → ¬ IsB w k) : Step F w w' F :=
  ⟨Frm.of_grown h hF, Keep8.of_grown h hB, fun k hk => .inl hk⟩
theorem Step.size {F F' : Nat → Prop} {w w' : World} (h : Step F w w' F') : w.heap.size ≤ w'.heap.size := h.1.size
/-- who was apart stays apart -/
theorem Step.apart {F F' G : Nat → Prop} {w w' : World} (h : Step F w w' F') (hG : ∀ k, G k → k < w.heap.size) (hd : ∀ k, F k → ¬ G k) : ∀ k, F' k → ¬ G k := fun k hk hg => by
  rcases h.2.2 k hk with e | e
  · exact hd k e hg
  · have := hG k hg; omega

/-! ### lists of texts -/
end Go.Proofs.Ytibpipppabommaa.Cl
