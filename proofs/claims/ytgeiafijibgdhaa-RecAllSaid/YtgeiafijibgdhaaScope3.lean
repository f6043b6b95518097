/- A scope with three labels: 1 and 2 are jumped back to, 2 behind 1, 0 last. -/
import Derived.ScopeJumps
set_option linter.unusedVariables false
set_option linter.unusedSimpArgs false
namespace Go.Proofs.Ytgeiafijibgdhaa
open Go

def jumps3 (J0 J1 J2 : Act → World → Prop) (Q : Exit → Act → World → Prop) : Exit → Act → World → Prop
  | .goto 0, a, w => J0 a w
  | .goto 1, a, w => J1 a w
  | .goto 2, a, w => J2 a w
  | .goto _, _, _ => False
  | e, a, w => Q e a w
theorem wp_scope3 {P : Program} {a : Act} {w : World} {Q : Exit → Act → World → Prop} {c : Code} (J0 J1 J2 : Act → World → Prop) (μ1 μ2 : Act → World → Nat) {r0 r1 r2 : Code} (h0 : findLabel c 0 = some r0) (h1 : findLabel c 1 = some r1) (h2 : findLabel c 2 = some r2)
    (first : c.wp P (jumps3 J0 J1 J2 Q) a w)
    (pass1 : ∀ a w, J1 a w → r1.wp P (jumps3 J0 (fun a' w' => J1 a' w' ∧ μ1 a' w' < μ1 a w) J2 Q) a w)
    (pass2 : ∀ a w, J2 a w → r2.wp P (jumps3 J0 (fun _ _ => False) (fun a' w' => J2 a' w' ∧ μ2 a' w' < μ2 a w) Q) a w)
    (pass0 : ∀ a w, J0 a w → r0.wp P (jumps3 (fun _ _ => False) (fun _ _ => False) (fun _ _ => False) Q) a w) : (Code.scope c).wp P Q a w := by
  intro b k cs
  have hg : ∀ (l : Nat) (r : Code), findLabel c l = some r → gotoIn l (.inScope c :: k) = some (.code r :: .inScope c :: k) := fun l r h => by simp [gotoIn, h]
  -- the end of one pass
  have fin : ∀ (A B C : Act → World → Prop) (m : Machine) (e : Exit) (a₁ : Act) (w₁ : World), jumps3 A B C Q e a₁ w₁ → Arrives P m b (.inScope c :: k) cs e a₁ w₁ →
      (∀ a w, A a w → ∃ e a' w', Q e a' w' ∧ Arrives P (lone (b.at a (.code r0 :: .inScope c :: k)) cs w) b k cs e a' w') →
      (∀ a w, B a w → ∃ e a' w', Q e a' w' ∧ Arrives P (lone (b.at a (.code r1 :: .inScope c :: k)) cs w) b k cs e a' w') →
      (∀ a w, C a w → ∃ e a' w', Q e a' w' ∧ Arrives P (lone (b.at a (.code r2 :: .inScope c :: k)) cs w) b k cs e a' w') → ∃ e a' w', Q e a' w' ∧ Arrives P m b k cs e a' w' := by
    intro A B C m e a₁ w₁ hq harr ha hb hc
    cases e with
    | normal => exact ⟨.normal, a₁, w₁, hq, Steps.trans harr (.one step_inScope)⟩
    | exit id => exact ⟨.exit id, a₁, w₁, hq, fun k' hk => harr k' (by simp [exitTo, hk])⟩
    | goto l' =>
      match l', hq, harr with
      | 0, hq, harr => obtain ⟨e₂, a₂, w₂, hq₂, harr₂⟩ := ha a₁ w₁ hq; exact ⟨e₂, a₂, w₂, hq₂, .of_steps (harr _ (hg 0 r0 h0)) harr₂⟩
      | 1, hq, harr => obtain ⟨e₂, a₂, w₂, hq₂, harr₂⟩ := hb a₁ w₁ hq; exact ⟨e₂, a₂, w₂, hq₂, .of_steps (harr _ (hg 1 r1 h1)) harr₂⟩
      | 2, hq, harr => obtain ⟨e₂, a₂, w₂, hq₂, harr₂⟩ := hc a₁ w₁ hq; exact ⟨e₂, a₂, w₂, hq₂, .of_steps (harr _ (hg 2 r2 h2)) harr₂⟩
      | _ + 3, hq, _ => exact hq.elim
    | ret => exact ⟨_, a₁, w₁, hq, harr⟩
    | panic ch => exact ⟨_, a₁, w₁, hq, harr⟩
    | outgrown => exact ⟨_, a₁, w₁, hq, harr⟩
  have k0 : ∀ a w, J0 a w → ∃ e a' w', Q e a' w' ∧ Arrives P (lone (b.at a (.code r0 :: .inScope c :: k)) cs w) b k cs e a' w' := by
    intro a w hJ
    obtain ⟨e, a₁, w₁, hq, harr⟩ := pass0 a w hJ b (.inScope c :: k) cs
    exact fin _ _ _ _ e a₁ w₁ hq harr (fun _ _ h => h.elim) (fun _ _ h => h.elim) (fun _ _ h => h.elim)
  have k2 : ∀ n a w, μ2 a w = n → J2 a w → ∃ e a' w', Q e a' w' ∧ Arrives P (lone (b.at a (.code r2 :: .inScope c :: k)) cs w) b k cs e a' w' := by
    intro n
    induction n using Nat.strongRecOn with
    | _ n ih =>
      intro a w hn hJ
      obtain ⟨e, a₁, w₁, hq, harr⟩ := pass2 a w hJ b (.inScope c :: k) cs
      exact fin _ _ _ _ e a₁ w₁ hq harr k0 (fun _ _ h => h.elim) (fun a' w' h => ih _ (by omega) a' w' rfl h.1)
  have k1 : ∀ n a w, μ1 a w = n → J1 a w → ∃ e a' w', Q e a' w' ∧ Arrives P (lone (b.at a (.code r1 :: .inScope c :: k)) cs w) b k cs e a' w' := by
    intro n
    induction n using Nat.strongRecOn with
    | _ n ih =>
      intro a w hn hJ
      obtain ⟨e, a₁, w₁, hq, harr⟩ := pass1 a w hJ b (.inScope c :: k) cs
      exact fin _ _ _ _ e a₁ w₁ hq harr k0 (fun a' w' h => ih _ (by omega) a' w' rfl h.1) (fun a' w' h => k2 _ a' w' rfl h)
  obtain ⟨e, a₁, w₁, hq, harr⟩ := first b (.inScope c :: k) cs
  obtain ⟨e', a', w', h1, h2⟩ := fin _ _ _ _ e a₁ w₁ hq harr k0 (fun a' w' h => k1 _ a' w' rfl h) (fun a' w' h => k2 _ a' w' rfl h)
  exact ⟨e', a', w', h1, .of_steps (.one step_scope) h2⟩
end Go.Proofs.Ytgeiafijibgdhaa
