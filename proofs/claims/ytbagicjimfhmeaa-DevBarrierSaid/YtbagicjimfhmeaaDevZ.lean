/- dev: one device beside blocks that others write. -/
import Derived.Test.YtbagicjimfhmeaaDevO
import Derived.Test.YtbagicjimfhmeaaDevM
set_option linter.unusedVariables false
set_option linter.unusedSimpArgs false
namespace Go.Proofs.Ytbagicjimfhmeaa.Cl
open Go Go.Proofs Go.RowKit Fl

theorem DZ.start {B : Nat} {Z : Nat → Prop} {w w' : World} {g n : Nat} {D : Dv} (h : DAt B w g n D) (hb : Below w.heap.size w w') (hZ : ∀ k, Z k → w.heap.size ≤ k) : DZ B Z w' g n D := by
  obtain ⟨o, F, a, b⟩ := h
  exact ⟨o, fun k => F k ∧ k < w.heap.size, (a.mono fun k hk hF => ⟨hF, hk⟩).below hb, fun k hk => ⟨b k hk.1, Nat.lt_of_lt_of_le hk.2 hb.size, fun hz => by have := hZ k hz; have := hk.2; omega⟩⟩
/-- new memory is beside it too -/
theorem DZ.wide {B : Nat} {Z : Nat → Prop} {w w' : World} {g n : Nat} {D : Dv} (h : DZ B Z w g n D) (hb : Below w.heap.size w w') (Z' : Nat → Prop) (hZ : ∀ k, Z' k → Z k ∨ w.heap.size ≤ k) : DZ B Z' w' g n D := by
  obtain ⟨o, F, a, b⟩ := h
  exact ⟨o, F, a.below hb, fun k hk => ⟨(b k hk).1, Nat.lt_of_lt_of_le (b k hk).2.1 hb.size, fun hz => by
    rcases hZ k hz with e | e
    · exact (b k hk).2.2 e
    · have := (b k hk).2.1
      omega⟩⟩
/-- who writes one of the blocks beside it -/
theorem DZ.put {B : Nat} {Z : Nat → Prop} {w w' : World} {g n k : Nat} {D : Dv} {t : TypeId} {cs : Array Value} (h : DZ B Z w g n D) (hb : w.grownBy w' (some k)) (hZ : Z k) (hr : RowAt w k t cs) (ht : t ≠ 5) : DZ B Z w' g n D := by
  obtain ⟨o, F, a, b⟩ := h
  refine ⟨o, F, a.frm (Frm.of_grown (F := fun j => j = k) hb fun j hj => (Option.some.inj hj).symm) (Keep8.of_grown hb fun j hj => by obtain rfl := Option.some.inj hj; exact hr.notB ht) fun j _ hF e => (b j hF).2.2 (e ▸ hZ), fun j hj => ⟨(b j hj).1, Nat.lt_of_lt_of_le (b j hj).2.1 hb.size, (b j hj).2.2⟩⟩
theorem CZ.row {B : Nat} {Z : Nat → Prop} {w w' : World} {k : Nat} {t : TypeId} {cs : Array Value} (h : CZ B Z w w') (hr : RowAt w k t cs) (hZ : Z k) : RowAt w' k t cs := h.2.row hr fun hn => hn hZ
theorem below_grown {B : Nat} {w0 w w' : World} {k : Nat} (h : Below B w0 w) (hg : w.grownBy w' (some k)) (hB : B ≤ w.heap.size) (hk : B ≤ k) : Below B w0 w' := below_row h hg hB hk
theorem zCrash {B : Nat} {Z : Nat → Prop} {w : World} {g n : Nat} {D : Dv} (h : DZ B Z w g n D) (hZ : ∀ k, Z k → k < w.heap.size) (hB : B ≤ w.heap.size) (hn : n ≤ 100000) (keep : List (List UInt8)) (v : Value)
    (hv : ∃ sl : List Value, sl.length = keep.length ∧ ∀ w', CZ B Z w w' → Rd w' v sl ∧ ∀ j (h : j < sl.length) (h' : j < keep.length), Rd w' sl[j] (bs keep[j])) :
    Calls Try.prog 17 #[ptr g, v] w fun e w' => e = .returned (.tuple #[]) ∧ DZ B Z w' g n (crashD D keep) ∧ CZ B Z w w' := by
  obtain ⟨o, F, a, c⟩ := id h
  obtain ⟨sl, hsl, hv⟩ := hv
  refine (crashZ_any a o hn keep v ⟨sl, hsl, fun w' F' k => hv w' ⟨(step_ch k (fun j hj => (c j hj).1) hB).1, k.1.mono fun j _ hj => (c j hj).2.2⟩⟩).mono ?_
  rintro e' w' ⟨rfl, F', k1, k2⟩
  exact ⟨rfl, step_z (o.crash keep) k1 k2 c hZ hB⟩
theorem CZ.rd {B : Nat} {Z : Nat → Prop} {w w' : World} (h : CZ B Z w w') {g n c : Nat} {xs : List Value} (hr : Rd w (.slice (some ⟨g, 0, none⟩) n c) xs) (hg : Z g) : Rd w' (.slice (some ⟨g, 0, none⟩) n c) xs := h.2.rd hr fun hn => hn hg
end Go.Proofs.Ytbagicjimfhmeaa.Cl
