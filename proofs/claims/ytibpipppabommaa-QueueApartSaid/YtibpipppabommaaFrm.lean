/- Frames: which blocks a piece of a walk may have written. -/
import Derived.Test.YtibpipppabommaaOnto
set_option linter.unusedVariables false
set_option linter.unusedSimpArgs false
namespace Go.Proofs.Ytibpipppabommaa.Cl
open Go Go.Proofs Go.RowKit Fl

/-- from w to w' nothing was written but blocks of F, and new ones -/
structure Frm (F : Nat → Prop) (w w' : World) : Prop where
  os : w'.os = w.os
  tape : w'.tape = w.tape
  output : w'.output = w.output
  size : w.heap.size ≤ w'.heap.size
  block : ∀ k, k < w.heap.size → ¬ F k → w'.heap[k]? = w.heap[k]?
theorem Frm.refl (F : Nat → Prop) (w : World) : Frm F w w := ⟨rfl, rfl, rfl, Nat.le_refl _, fun _ _ _ => rfl⟩
theorem Frm.step {F G : Nat → Prop} {w w1 w2 : World} (h : Frm F w w1) (k : Frm G w1 w2) (hG : ∀ j, j < w.heap.size → G j → F j) : Frm F w w2 :=
  ⟨k.os.trans h.os, k.tape.trans h.tape, k.output.trans h.output, Nat.le_trans h.size k.size, fun j hj hn => (k.block j (Nat.lt_of_lt_of_le hj h.size) fun hg => hn (hG j hj hg)).trans (h.block j hj hn)⟩
theorem Frm.mono {F G : Nat → Prop} {w w1 : World} (h : Frm F w w1) (hG : ∀ j, j < w.heap.size → F j → G j) : Frm G w w1 :=
  ⟨h.os, h.tape, h.output, h.size, fun j hj hn => h.block j hj fun hf => hn (hG j hj hf)⟩
theorem Frm.of_below {w w1 : World} (F : Nat → Prop) (h : Below w.heap.size w w1) : Frm F w w1 := ⟨h.os, h.tape, h.output, h.size, fun j hj _ => h.block j hj⟩
theorem Frm.of_grown {w w1 : World} {r : Option Nat} {F : Nat → Prop} (h : w.grownBy w1 r) (hF : ∀ k, r = some k → F k) : Frm F w w1 := ⟨h.os, h.tape, h.output, h.size, fun j hj hn => h.block j hj fun e => hn (hF j e.symm)⟩
theorem Frm.below {F : Nat → Prop} {w w1 : World} (h : Frm F w w1) (B : Nat) (hB : ∀ k, k < w.heap.size → F k → B ≤ k) (hw : B ≤ w.heap.size) : Below B w w1 :=
  ⟨h.os, h.tape, h.output, h.size, fun j hj => h.block j (by omega) fun hf => by have := hB j (by omega) hf; omega⟩
theorem Frm.row {F : Nat → Prop} {w w1 : World} (h : Frm F w w1) {g : Nat} {t : TypeId} {cs : Array Value} (hr : RowAt w g t cs) (hg : ¬ F g) : RowAt w1 g t cs := (h.block g hr.lt hg).trans hr
theorem Frm.cell {F : Nat → Prop} {w w1 : World} (h : Frm F w w1) {a : Addr} {v : Value} (hr : w.cell? a = some v) (hg : ¬ F a.block) : w1.cell? a = some v := by
  rw [← hr]
  simp only [World.cell?, h.block a.block (World.block_lt_of_cell? _ _ hr) hg]
theorem Frm.rd {F : Nat → Prop} {w w1 : World} (h : Frm F w w1) {g n c : Nat} {xs : List Value} (hr : Rd w (.slice (some ⟨g, 0, none⟩) n c) xs) (hg : ¬ F g) : Rd w1 (.slice (some ⟨g, 0, none⟩) n c) xs := by
  obtain ⟨a', cap, e, h1, h2, h3, h4⟩ := hr
  injection e with e1 e2 e3
  subst e1
  refine ⟨_, cap, by rw [e2, e3], h1, h2, fun j hj => ?_, h4⟩
  obtain ⟨ad, ha, hc⟩ := h3 j hj
  obtain rfl := Option.some.inj ha
  refine ⟨_, rfl, ?_⟩
  rw [Addr.add_lit] at *
  exact h.cell hc hg
theorem Frm.own {F : Nat → Prop} {w w1 : World} (h : Frm F w w1) {B e s n : Nat} {v : Value} {xs : List Value} (ho : w.ownsRow B e s v n xs) (hv : ∀ k, v.ownBlock = some k → ¬ F k) : w1.ownsRow B e s v n xs := by
  refine ⟨ho.1, ?_⟩
  rcases ho.2 with h1 | ⟨g, cap, cur, rfl, hb, hg, h2⟩
  · exact .inl h1
  · exact .inr ⟨g, cap, cur, rfl, hb, (h.block g (Array.getElem?_eq_some_iff.1 hg).1 (hv g rfl)).trans hg, h2⟩
theorem Onto.frm {w w' : World} {v v' : Value} (h : Onto w v w' v') : Frm (fun k => v.ownBlock = some k) w w' := Frm.of_grown h.1 fun _ e => e
/-- where v' lies: where v lay, or in new memory -/
def Lies (w : World) (v v' : Value) : Prop := ∀ g, v'.ownBlock = some g → v.ownBlock = some g ∨ w.heap.size ≤ g
theorem Lies.refl (w : World) (v : Value) : Lies w v v := fun g h => .inl h
theorem Lies.trans {w w1 : World} {v v1 v2 : Value} (h : Lies w v v1) (k : Lies w1 v1 v2) (hs : w.heap.size ≤ w1.heap.size) : Lies w v v2 := fun g hg => by
  rcases k g hg with e | e
  · exact h g e
  · exact .inr (Nat.le_trans hs e)
end Go.Proofs.Ytibpipppabommaa.Cl
