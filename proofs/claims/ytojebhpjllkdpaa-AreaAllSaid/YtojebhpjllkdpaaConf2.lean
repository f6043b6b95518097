/- conf.share. -/
import Derived.Test.YtojebhpjllkdpaaConf
set_option linter.unusedVariables false
set_option linter.unusedSimpArgs false
namespace Go.Proofs.Ytojebhpjllkdpaa.Cl
open Go Go.Proofs Go.RowKit Fl

abbrev shV (s : Sh) : Value := .agg #[.int .i64 s.v, .int .i64 s.c, .int .i64 s.b, .int .i64 s.l, .int .i64 s.f]
theorem shOK_eq (s : Sh) : shOK s = (labOK s.v s.c && (decide (4 ≤ s.b ∧ s.b ≤ 200) && (decide (16 ≤ s.l ∧ s.l ≤ 100) && decide (1 ≤ s.f ∧ s.f ≤ 50)))) := by
  unfold shOK labOK
  apply Bool.eq_iff_iff.mpr
  simp only [decide_eq_true_eq, Bool.and_eq_true]
  constructor <;> intro h <;> omega

set_option maxHeartbeats 4000000 in
theorem share_any (s : Sh) (w : World) : Calls Try.prog 56 #[shV s] w fun e w' => e = .returned (.bool (shOK s)) ∧ Below w.heap.size w w' := by
  rw [shOK_eq]
  go_enter Try.func56, Try.ntmps56
  go_wp2_with fail
  refine at_world fun w1 hw1 => ?_
  have hx : Box5 w1 w.heap.size s.v s.c s.b s.l s.f := by rw [hw1]; exact Box5.new _ _ _ _ _ _ _
  have hb : Below w.heap.size w w1 := by rw [hw1]; exact below_new _ _
  clear hw1
  refine (labMay_any s.v s.c _).mono ?_
  rintro e w2 ⟨rfl, hb2⟩
  have hx := hx.below hb2
  have hb := hb.trans (hb2.mono hb.size)
  clear hb2
  obtain ⟨c0, c1, c2, c3, c4⟩ := id hx
  cases hl : labOK s.v s.c with
  | false =>
    go_wp2_with fail
    go_ret
    exact ⟨ret_bool (by rw [hl]; rfl), hb⟩
  | true =>
    go_wp2_with fail
    refine (in_any s.b 4 200 _).mono ?_
    rintro e w3 ⟨rfl, rfl⟩
    cases h4 : decide (4 ≤ s.b ∧ s.b ≤ 200) with
    | false =>
      go_wp2_with fail
      go_ret
      exact ⟨ret_bool (by rw [hl, h4]; rfl), hb⟩
    | true =>
      go_wp2_with fail
      refine (in_any s.l 16 100 _).mono ?_
      rintro e w3 ⟨rfl, rfl⟩
      cases h16 : decide (16 ≤ s.l ∧ s.l ≤ 100) with
      | false =>
        go_wp2_with fail
        go_ret
        exact ⟨ret_bool (by rw [hl, h4, h16]; simp), hb⟩
      | true =>
        go_wp2_with fail
        refine (in_any s.f 1 50 _).mono ?_
        rintro e w3 ⟨rfl, rfl⟩
        go_wp2_with fail
        go_ret
        exact ⟨ret_bool (by rw [hl, h4, h16]; simp), hb⟩
end Go.Proofs.Ytojebhpjllkdpaa.Cl
