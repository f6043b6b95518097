/- Labels as pairs: the contracts. -/
import Derived.Test.YtibpipppabommaaLab7
set_option linter.unusedVariables false
set_option linter.unusedSimpArgs false
namespace Go.Proofs.Ytibpipppabommaa.Cl
open Go Go.Proofs Go.RowKit Fl Rely

abbrev lvp (x : Nat × Nat) : Value := lv (x.1 : Int) (x.2 : Int)
theorem ok_lab {x : Nat × Nat} (h : OkP x) : labOK (x.1 : Int) (x.2 : Int) = true := labOK_mk (by have := h.1; omega) (by have := h.2; omega)
theorem may_p (x : Nat × Nat) (hx : OkP x) (w : World) : Calls Try.prog 36 #[lvp x] w fun e w' => e = .returned (.bool true) ∧ Below w.heap.size w w' := by
  have h := labMay_any x.1 x.2 w
  rwa [ok_lab hx] at h
theorem join_p (x y : Nat × Nat) (hx : OkP x) (hy : OkP y) (w : World) : Calls Try.prog 40 #[lvp x, lvp y] w fun e w' => e = .returned (lvp (jn x y)) ∧ Below w.heap.size w w' := by
  have h := join_yes x.1 x.2 y.1 y.2 w hx.1 hx.2 hy.1 hy.2
  rwa [show max (x.1 : Int) (y.1 : Int) = ((max x.1 y.1 : Nat) : Int) from by omega] at h
theorem meet_p (x y : Nat × Nat) (hx : OkP x) (hy : OkP y) (w : World) : Calls Try.prog 42 #[lvp x, lvp y] w fun e w' => e = .returned (lvp (mt x y)) ∧ Below w.heap.size w w' := by
  have h := meet_yes x.1 x.2 y.1 y.2 w hx.1 hx.2 hy.1 hy.2
  rwa [show min (x.1 : Int) (y.1 : Int) = ((min x.1 y.1 : Nat) : Int) from by omega] at h
theorem aboveB_p {x y : Nat × Nat} (hx : OkP x) (hy : OkP y) : aboveB x.1 x.2 y.1 y.2 = ab x y := by
  unfold aboveB jL jC
  rw [ok_lab hx, ok_lab hy]
  simp only [Bool.true_and, if_true, Int.toNat_natCast]
  unfold ab
  rw [decide_eq_decide]
  constructor
  · rintro ⟨h1, h2⟩
    exact Prod.ext (by show max x.1 y.1 = x.1; omega) (by show x.2 ||| y.2 = x.2; omega)
  · intro h
    have h1 : max x.1 y.1 = x.1 := congrArg Prod.fst h
    have h2 : x.2 ||| y.2 = x.2 := congrArg Prod.snd h
    exact ⟨by omega, by rw [h2]⟩
theorem above_p (x y : Nat × Nat) (hx : OkP x) (hy : OkP y) (w : World) : Calls Try.prog 38 #[lvp x, lvp y] w fun e w' => e = .returned (.bool (ab x y)) ∧ Below w.heap.size w w' := by
  have h := above_any x.1 x.2 y.1 y.2 w
  rwa [aboveB_p hx hy] at h
theorem lex_p (x y : Nat × Nat) : decide (orI [cmpI x.1 y.1, cmpI (pop x.2) (pop y.2), cmpI x.2 y.2] < 0) = ls x y := by
  unfold ls
  rw [decide_eq_decide, or3_lex]
  unfold LsP
  omega
theorem less_p (x y : Nat × Nat) (hx : OkP x) (hy : OkP y) (w : World) : Calls Try.prog 44 #[lvp x, lvp y] w fun e w' => e = .returned (.bool (ls x y)) ∧ Below w.heap.size w w' := by
  have h := less_yes x.1 x.2 y.1 y.2 w hx.1 hx.2 hy.1 hy.2
  rwa [lex_p] at h
theorem refJoin_p (x y : Nat × Nat) (hx : OkP x) (hy : OkP y) (w : World) : Calls Try.prog 41 #[lvp x, lvp y] w fun e w' => e = .returned (lvp (jn x y)) ∧ Below w.heap.size w w' := by
  have h := refJoin_any x.1 x.2 y.1 y.2 w hx.1 hx.2 hy.1 hy.2
  rwa [show max (x.1 : Int) (y.1 : Int) = ((max x.1 y.1 : Nat) : Int) from by omega] at h
theorem refMeet_p (x y : Nat × Nat) (hx : OkP x) (hy : OkP y) (w : World) : Calls Try.prog 43 #[lvp x, lvp y] w fun e w' => e = .returned (lvp (mt x y)) ∧ Below w.heap.size w w' := by
  have h := refMeet_any x.1 x.2 y.1 y.2 w hx.1 hx.2 hy.1 hy.2
  rwa [show min (x.1 : Int) (y.1 : Int) = ((min x.1 y.1 : Nat) : Int) from by omega] at h
theorem refAbove_p (x y : Nat × Nat) (hx : OkP x) (hy : OkP y) (w : World) : Calls Try.prog 39 #[lvp x, lvp y] w fun e w' => e = .returned (.bool (ab x y)) ∧ Below w.heap.size w w' := by
  have h := refAbove_any x.1 x.2 y.1 y.2 w hx.1 hx.2 hy.1 hy.2
  have hx2 := hx.2
  have hy2 := hy.2
  rw [subB_or x.2 (by omega) y.2 (by omega), ← Bool.decide_and] at h
  rwa [show decide (y.1 ≤ x.1 ∧ x.2 ||| y.2 = x.2) = ab x y from by
    unfold ab
    rw [decide_eq_decide]
    constructor
    · rintro ⟨h1, h2⟩
      exact Prod.ext (by show max x.1 y.1 = x.1; omega) h2
    · intro h
      have h1 : max x.1 y.1 = x.1 := congrArg Prod.fst h
      exact ⟨by omega, congrArg Prod.snd h⟩] at h
theorem refLess_p (x y : Nat × Nat) (hx : OkP x) (hy : OkP y) (w : World) : Calls Try.prog 45 #[lvp x, lvp y] w fun e w' => e = .returned (.bool (ls x y)) ∧ Below w.heap.size w w' := by
  have h := refLess_any x.1 x.2 y.1 y.2 w hx.1 hx.2 hy.1 hy.2
  rwa [lex_p] at h
theorem lawOf_p (n : Nat) (hn : n < 256) : ∃ x : Nat × Nat, OkP x ∧ ∀ w, Calls Try.prog 46 #[.int .u8 n] w fun e w' => e = .returned (lvp x) ∧ Below w.heap.size w w' :=
  ⟨(n / 16 % 4, n % 16), ⟨by show n / 16 % 4 ≤ 3; omega, by show n % 16 ≤ 15; omega⟩, fun w => lawOf_any n hn w⟩
theorem eq_p (x y : Nat × Nat) (r : Bool) (hr : decide (x = y) = r) (w : World) : (binOp .eql 63 (lvp x) (lvp y)).run Try.prog w = .ok (.bool r) w := by
  rw [eq_lv, ← hr]
  congr 2
  rw [decide_eq_decide]
  exact ⟨fun h => Prod.ext (by omega) (by omega), fun h => by subst h; exact ⟨rfl, rfl⟩⟩
theorem ne_p (x y : Nat × Nat) (r : Bool) (hr : (!decide (x = y)) = r) (w : World) : (binOp .neq 63 (lvp x) (lvp y)).run Try.prog w = .ok (.bool r) w := by
  rw [ne_lv, ← hr]
  congr 3
  rw [decide_eq_decide]
  exact ⟨fun h => Prod.ext (by omega) (by omega), fun h => by subst h; exact ⟨rfl, rfl⟩⟩
end Go.Proofs.Ytibpipppabommaa.Cl
