/- A scope with three labels, where what stands behind a label is walked once. -/
import Derived.Test.YtgeiafijibgdhaaScope3
set_option linter.unusedVariables false
set_option linter.unusedSimpArgs false
namespace Go.Proofs.Ytgeiafijibgdhaa
open Go

theorem jumps3_mono {A B C A' B' C' : Act → World → Prop} {Q : Exit → Act → World → Prop} (hA : ∀ a w, A a w → A' a w) (hB : ∀ a w, B a w → B' a w) (hC : ∀ a w, C a w → C' a w) : ∀ e a w, jumps3 A B C Q e a w → jumps3 A' B' C' Q e a w
  | .goto 0, a, w, h => hA a w h
  | .goto 1, a, w, h => hB a w h
  | .goto 2, a, w, h => hC a w h
  | .goto (_ + 3), _, _, h => h.elim
  | .normal, _, _, h => h
  | .exit _, _, _, h => h
  | .ret, _, _, h => h
  | .panic _, _, _, h => h
  | .outgrown, _, _, h => h
theorem wp_skip_seq {P : Program} {a : Act} {w : World} {Q : Exit → Act → World → Prop} {R : Code} (h : R.wp P Q a w) : (Code.seq .skip R).wp P Q a w := wp_seq (wp_skip h)
theorem wp_fall {P : Program} {a : Act} {w : World} {Q : Exit → Act → World → Prop} {R : Code} {l : Nat} (h : R.wp P Q a w) : (Code.seq (.label l) R).wp P Q a w := wp_seq (wp_label h)

theorem wp_scope3b {P : Program} {a : Act} {w : World} {Q : Exit → Act → World → Prop} {c : Code} (J0 J1 J2 : Act → World → Prop) (μ1 μ2 : Act → World → Nat) {r0 R1 R2 : Code} (h0 : findLabel c 0 = some r0) (h1 : findLabel c 1 = some (.seq .skip R1)) (h2 : findLabel c 2 = some (.seq .skip R2))
    (pass0 : ∀ a w, J0 a w → r0.wp P (jumps3 (fun _ _ => False) (fun _ _ => False) (fun _ _ => False) Q) a w)
    (pass2 : ∀ a w, J2 a w → R2.wp P (jumps3 J0 (fun _ _ => False) (fun a' w' => J2 a' w' ∧ μ2 a' w' < μ2 a w) Q) a w)
    (pass1 : (∀ X a w, J2 a w → R2.wp P (jumps3 J0 X J2 Q) a w) → ∀ a w, J1 a w → R1.wp P (jumps3 J0 (fun a' w' => J1 a' w' ∧ μ1 a' w' < μ1 a w) J2 Q) a w)
    (first : (∀ a w, J1 a w → R1.wp P (jumps3 J0 J1 J2 Q) a w) → c.wp P (jumps3 J0 J1 J2 Q) a w) : (Code.scope c).wp P Q a w := by
  have p2 : ∀ X a w, J2 a w → R2.wp P (jumps3 J0 X J2 Q) a w := fun X a w h => wp_mono (pass2 a w h) (jumps3_mono (fun _ _ h => h) (fun _ _ h => h.elim) (fun _ _ h => h.1))
  have p1 := pass1 p2
  refine wp_scope3 J0 J1 J2 μ1 μ2 h0 h1 h2 (first fun a w h => wp_mono (p1 a w h) (jumps3_mono (fun _ _ h => h) (fun _ _ h => h.1) (fun _ _ h => h))) (fun a w h => wp_skip_seq (p1 a w h)) (fun a w h => wp_skip_seq (pass2 a w h)) pass0
end Go.Proofs.Ytgeiafijibgdhaa
