/- Labels as pairs: the plain laws (no program). -/
set_option linter.unusedVariables false
set_option linter.unusedSimpArgs false
namespace Go.Proofs.Ytibpipppabommaa.Cl

def jn (x y : Nat × Nat) : Nat × Nat := (max x.1 y.1, x.2 ||| y.2)
def mt (x y : Nat × Nat) : Nat × Nat := (min x.1 y.1, x.2 &&& y.2)
def ab (x y : Nat × Nat) : Bool := decide (jn x y = x)
def pop (c : Nat) : Nat := c % 2 + c / 2 % 2 + c / 4 % 2 + c / 8 % 2
def LsP (x y : Nat × Nat) : Prop := x.1 < y.1 ∨ x.1 = y.1 ∧ (pop x.2 < pop y.2 ∨ pop x.2 = pop y.2 ∧ x.2 < y.2)
instance (x y : Nat × Nat) : Decidable (LsP x y) := by unfold LsP; infer_instance
def ls (x y : Nat × Nat) : Bool := decide (LsP x y)
def OkP (x : Nat × Nat) : Prop := x.1 ≤ 3 ∧ x.2 ≤ 15

theorem or_15 {a b : Nat} (ha : a ≤ 15) (hb : b ≤ 15) : a ||| b ≤ 15 := by
  have : a ||| b < 2 ^ 4 := Nat.or_lt_two_pow (by omega) (by omega)
  omega
theorem and_15 {a b : Nat} (ha : a ≤ 15) : a &&& b ≤ 15 := Nat.le_trans Nat.and_le_left ha
theorem jn_ok {x y : Nat × Nat} (hx : OkP x) (hy : OkP y) : OkP (jn x y) := ⟨by have := hx.1; have := hy.1; show max _ _ ≤ 3; omega, or_15 hx.2 hy.2⟩
theorem mt_ok {x y : Nat × Nat} (hx : OkP x) (hy : OkP y) : OkP (mt x y) := ⟨by have := hx.1; show min _ _ ≤ 3; omega, and_15 hx.2⟩

theorem bits_eq {a b : Nat} (h : ∀ i, a.testBit i = b.testBit i) : a = b := Nat.eq_of_testBit_eq h
theorem jn_assoc (x y z : Nat × Nat) : jn (jn x y) z = jn x (jn y z) := Prod.ext (by simp only [jn]; omega) (by simp only [jn, Nat.or_assoc])
theorem mt_assoc (x y z : Nat × Nat) : mt (mt x y) z = mt x (mt y z) := Prod.ext (by simp only [mt]; omega) (by simp only [mt, Nat.and_assoc])
theorem jn_self (x : Nat × Nat) : jn x x = x := Prod.ext (by simp only [jn]; omega) (by simp [jn])
theorem mt_self (x : Nat × Nat) : mt x x = x := Prod.ext (by simp only [mt]; omega) (by simp [mt])
theorem jn_comm (x y : Nat × Nat) : jn x y = jn y x := Prod.ext (by simp only [jn]; omega) (Nat.or_comm _ _)
theorem mt_comm (x y : Nat × Nat) : mt x y = mt y x := Prod.ext (by simp only [mt]; omega) (Nat.and_comm _ _)
theorem mt_jn (x y z : Nat × Nat) : mt x (jn y z) = jn (mt x y) (mt x z) := Prod.ext (by simp only [mt, jn]; omega) (Nat.and_or_distrib_left ..)
theorem jn_mt_absorb (x y : Nat × Nat) : jn x (mt x y) = x := Prod.ext (by simp only [mt, jn]; omega) (bits_eq fun i => by simp only [jn, mt, Nat.testBit_or, Nat.testBit_and]; cases x.2.testBit i <;> cases y.2.testBit i <;> rfl)
theorem mt_jn_absorb (x y : Nat × Nat) : mt x (jn x y) = x := Prod.ext (by simp only [mt, jn]; omega) (bits_eq fun i => by simp only [jn, mt, Nat.testBit_or, Nat.testBit_and]; cases x.2.testBit i <;> cases y.2.testBit i <;> rfl)

theorem ab_iff {x y : Nat × Nat} : ab x y = true ↔ jn x y = x := by unfold ab; exact decide_eq_true_iff
theorem ab_self (x : Nat × Nat) : ab x x = true := ab_iff.2 (jn_self x)
theorem ab_anti {x y : Nat × Nat} (h : ab x y = true) (k : ab y x = true) : x = y := by rw [← ab_iff.1 h, jn_comm]; exact ab_iff.1 k
theorem ab_trans {x y z : Nat × Nat} (h : ab x y = true) (k : ab y z = true) : ab x z = true := by
  have h := ab_iff.1 h; have k := ab_iff.1 k
  exact ab_iff.2 (by rw [← h, jn_assoc, k])
theorem ab_jn1 (x y : Nat × Nat) : ab (jn x y) x = true := ab_iff.2 (by rw [jn_comm, ← jn_assoc, jn_self])
theorem ab_jn2 (x y : Nat × Nat) : ab (jn x y) y = true := by rw [jn_comm]; exact ab_jn1 y x
theorem ab_mt1 (x y : Nat × Nat) : ab x (mt x y) = true := ab_iff.2 (jn_mt_absorb x y)
theorem ab_mt2 (x y : Nat × Nat) : ab y (mt x y) = true := by rw [mt_comm]; exact ab_mt1 y x
theorem ab_lub {x y z : Nat × Nat} (h : ab z x = true) (k : ab z y = true) : ab z (jn x y) = true := by
  have h := ab_iff.1 h; have k := ab_iff.1 k
  exact ab_iff.2 (by rw [← jn_assoc, h, k])
theorem mt_of_ab {x y : Nat × Nat} (h : ab x y = true) : mt x y = y := by
  rw [← ab_iff.1 h, mt_comm, jn_comm, mt_jn_absorb]
theorem ab_of_mt {x y : Nat × Nat} (h : mt x y = y) : ab x y = true := by rw [← h]; exact ab_mt1 x y
theorem ab_glb {x y z : Nat × Nat} (h : ab x z = true) (k : ab y z = true) : ab (mt x y) z = true :=
  ab_of_mt (by rw [mt_assoc, mt_of_ab k, mt_of_ab h])
theorem ab_mt (x y : Nat × Nat) : ab x y = decide (mt x y = y) := by
  rw [Bool.eq_iff_iff, decide_eq_true_iff]; exact ⟨mt_of_ab, ab_of_mt⟩
theorem ab_jn_mono {x y : Nat × Nat} (z : Nat × Nat) (h : ab x y = true) : ab (jn x z) (jn y z) = true :=
  ab_lub (ab_trans (ab_jn1 x z) h) (ab_jn2 x z)
theorem ab_mt_mono {x y : Nat × Nat} (z : Nat × Nat) (h : ab x y = true) : ab (mt x z) (mt y z) = true :=
  ab_glb (ab_trans h (ab_mt1 y z)) (ab_mt2 y z)

/-! ### the line -/
theorem ls_iff {x y : Nat × Nat} : ls x y = true ↔ LsP x y := by unfold ls; exact decide_eq_true_iff
theorem ls_self (x : Nat × Nat) : ls x x = false := by
  cases h : ls x x
  · rfl
  · have := ls_iff.1 h; unfold LsP at this; omega
theorem ls_trans {x y z : Nat × Nat} (h : ls x y = true) (k : ls y z = true) : ls x z = true := by
  have h := ls_iff.1 h; have k := ls_iff.1 k
  refine ls_iff.2 ?_
  unfold LsP at *; omega
theorem ls_xor (x y : Nat × Nat) : (ls x y != ls y x) = !decide (x = y) := by
  by_cases e : x = y
  · subst e; rw [ls_self]; simp
  · have hne : x.1 ≠ y.1 ∨ x.2 ≠ y.2 := by
      by_cases h : x.1 = y.1
      · exact .inr fun k => e (Prod.ext h k)
      · exact .inl h
    rw [decide_eq_false e]
    cases h : ls x y <;> cases k : ls y x
    · exfalso
      have h' : ¬ LsP x y := fun q => by rw [ls_iff.2 q] at h; cases h
      have k' : ¬ LsP y x := fun q => by rw [ls_iff.2 q] at k; cases k
      unfold LsP at *; omega
    · rfl
    · rfl
    · exfalso
      have h' := ls_iff.1 h; have k' := ls_iff.1 k
      unfold LsP at *; omega
theorem pop_sub : ∀ b < 16, ∀ c < 16, b ||| c = b → pop c ≤ pop b ∧ (pop c = pop b → c = b) := by decide +kernel
theorem ab_not_ls {x y : Nat × Nat} (hx : OkP x) (hy : OkP y) (h : ab x y = true) : ls x y = false := by
  have e := ab_iff.1 h
  have e1 : max x.1 y.1 = x.1 := congrArg Prod.fst e
  have e2 : x.2 ||| y.2 = x.2 := congrArg Prod.snd e
  have hx2 := hx.2
  have hy2 := hy.2
  obtain ⟨p1, p2⟩ := pop_sub x.2 (by omega) y.2 (by omega) e2
  cases k : ls x y
  · rfl
  · have k := ls_iff.1 k
    unfold LsP at k
    exfalso
    by_cases hp : pop y.2 = pop x.2
    · have := p2 hp; omega
    · omega
end Go.Proofs.Ytibpipppabommaa.Cl
