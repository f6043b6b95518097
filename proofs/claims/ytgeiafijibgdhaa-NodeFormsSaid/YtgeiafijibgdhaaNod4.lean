/- node: May. -/
import Derived.Test.YtgeiafijibgdhaaNod3
import Derived.Test.YtgeiafijibgdhaaZig
set_option linter.unusedVariables false
set_option linter.unusedSimpArgs false
namespace Go.Proofs.Ytgeiafijibgdhaa.Cl
open Go Go.Proofs Go.RowKit Fl Rely

def mayN (kind : Int) (n : Nd) : Prop := (1 ≤ n.g ∧ 0 ≤ n.k ∧ n.k ≤ 1000) ∧ ((kind = 1 ∧ fileN n) ∨ (kind = 2 ∧ n.z = 0 ∧ bareP (placesN n) ∧ n.s = [] ∧ n.k ≤ 1) ∨ (kind = 3 ∧ signT n.s = true ∧ n.z = n.s.length ∧ bareP (placesN n)))
instance (kind : Int) (n : Nd) : Decidable (mayN kind n) := by unfold mayN; infer_instance

set_option maxRecDepth 100000 in
set_option maxHeartbeats 4000000 in
theorem ndMay_any (kind : Int) (n : Nd) (w : World) (ok : NdOk n) :
    Calls Try.prog 20 #[.int .i64 kind, ndV n] w fun e w' => e = .returned (.bool (decide (mayN kind n))) ∧ Below w.heap.size w w' := by
  have hF := fun w => file_any n w
  have hB := fun w => bare_any n w
  have hS := fun w => sign_any n.s w ok.s
  have hdef : mayN kind n ↔ (1 ≤ n.g ∧ 0 ≤ n.k ∧ n.k ≤ 1000) ∧ ((kind = 1 ∧ fileN n) ∨ (kind = 2 ∧ n.z = 0 ∧ bareP (placesN n) ∧ n.s = [] ∧ n.k ≤ 1) ∨ (kind = 3 ∧ signT n.s = true ∧ n.z = n.s.length ∧ bareP (placesN n))) := Iff.rfl
  have Hd := Lib.hid hdef
  clear hdef
  go_enter Try.func20, Try.ntmps20
  go_wp2_with (refine wp_want rfl fun K hK => ?_; refine wp_rw_box (P := Try.prog) (t := 25) (ndA n) rfl rfl ?_)
  intro w1 A1 b1 s1
  refine hK _ _ ?_
  clear hK K
  have z0 := A1.cell 0 (.int .u32 n.g) rfl
  have z1 := A1.cell 1 (.int .i64 n.k) rfl
  have z2 := A1.cell 2 (.int .i64 n.z) rfl
  have z8 := A1.cell 8 (str n.s) rfl
  go_wp2_with fail
  refine wp_scope_jumps 0 (fun a' w' => (decide (mayN kind n) = false ∧ Below w.heap.size w w') ∧ ∃ (z0 z1 z2 z3 z5 z6 z7 z8 z9 z10 z11 z12 z13 z14 z15 z16 z17 z18 z19 z20 z21 z22 z23 z24 z25 z26 z27 z28 z29 z30 z31 z32 z33 z34 z35 z36 z37 z38 z39 z40 z41 z42 z43 z44 z45 z46 z47 z48 z49 z50 z51 z52 z53 z54 z55 z56 z57 z58 : Value), a' = { tmps := #[z0, z1, z2, z3, .bool false, z5, z6, z7, z8, z9, z10, z11, z12, z13, z14, z15, z16, z17, z18, z19, z20, z21, z22, z23, z24, z25, z26, z27, z28, z29, z30, z31, z32, z33, z34, z35, z36, z37, z38, z39, z40, z41, z42, z43, z44, z45, z46, z47, z48, z49, z50, z51, z52, z53, z54, z55, z56, z57, z58], defers := [] }) (fun _ _ => 0) rfl ?_ ?_
  · skip
    have hhead : n.g < 1 ∨ (1 ≤ n.g ∧ n.k < 0) ∨ (1 ≤ n.g ∧ 0 ≤ n.k ∧ 1000 < n.k) ∨ (1 ≤ n.g ∧ 0 ≤ n.k ∧ n.k ≤ 1000) := by omega
    rcases hhead with g1 | ⟨g1, g2⟩ | ⟨g1, g2, g3⟩ | ⟨g1, g2, g3⟩
    case inr.inr.inr =>
      by_cases e1 : kind = 1
      · subst e1
        have hd : decide (mayN 1 n) = decide (fileN n) := decide_eq_decide.2 (Hd.out.trans ⟨fun h => by
          rcases h.2 with h | h | h
          · exact h.2
          · exact absurd h.1 (by decide)
          · exact absurd h.1 (by decide), fun h => ⟨⟨g1, g2, g3⟩, .inl ⟨rfl, h⟩⟩⟩)
        have Hdd := Lib.hid hd
        clear hd
        go_wp2_with (refine wp_want rfl fun K hK => ?_; refine wp_rw_load A1 Try.underlying25 rfl infoNd_size rfl rfl ?_; refine hK _ _ ?_; clear hK K)
        refine (hF _).mono ?_
        rintro e w2 ⟨rfl, b2⟩
        go_wp2_with fail
        simp only [Exit.jump]
        go_ret
        exact ⟨ret_bool Hdd.out.symm, b1.trans (b2.mono b1.size)⟩
      · have f1 : (kind == 1) = false := beq_eq_false_iff_ne.2 e1
        by_cases e2 : kind = 2
        · subst e2
          have hd : mayN 2 n ↔ n.z = 0 ∧ bareP (placesN n) ∧ n.s = [] ∧ n.k ≤ 1 := Hd.out.trans ⟨fun h => by
            rcases h.2 with h | h | h
            · exact absurd h.1 (by decide)
            · exact h.2
            · exact absurd h.1 (by decide), fun h => ⟨⟨g1, g2, g3⟩, .inr (.inl ⟨rfl, h⟩)⟩⟩
          have Hdd := Lib.hid hd
          clear hd e1
          by_cases y1 : n.z = 0
          · have j1 : (n.z == 0) = true := by rw [beq_iff_eq]; exact y1
            have Y1 := Lib.hid y1
            clear y1
            go_wp2_with (refine wp_want rfl fun K hK => ?_; refine wp_rw_load A1 Try.underlying25 rfl infoNd_size rfl rfl ?_; refine hK _ _ ?_; clear hK K)
            refine (hB _).mono ?_
            rintro e w2 ⟨rfl, b2⟩
            have W2 := b1.trans (b2.mono b1.size)
            have z8 := cell_later b2 z8
            have z1 := cell_later b2 z1
            by_cases y2 : bareP (placesN n)
            · rw [decide_eq_true y2]
              by_cases y3 : n.s = []
              · rw [y3] at z8
                have hdd := Lib.hid (show decide (mayN 2 n) = decide (n.k ≤ 1) from decide_eq_decide.2 (Hdd.out.trans ⟨fun h => h.2.2.2, fun h => ⟨Y1, y2, y3, h⟩⟩))
                clear y3 y2
                go_wp2_with fail
                simp only [Exit.jump]
                go_ret
                exact ⟨ret_bool hdd.out.symm, W2⟩
              · have j3 : (n.s == []) = false := beq_eq_false_iff_ne.2 y3
                have hdd := Lib.hid (show decide (mayN 2 n) = false from decide_eq_false fun h => y3 (Hdd.out.1 h).2.2.1)
                clear y3 y2
                go_wp2_with fail
                simp only [Exit.jump]
                go_ret
                exact ⟨ret_bool hdd.out.symm, W2⟩
            · rw [decide_eq_false y2]
              have hdd := Lib.hid (show decide (mayN 2 n) = false from decide_eq_false fun h => y2 (Hdd.out.1 h).2.1)
              clear y2
              go_wp2_with fail
              simp only [Exit.jump]
              go_ret
              exact ⟨ret_bool hdd.out.symm, W2⟩
          · have j1 : (n.z == 0) = false := beq_eq_false_iff_ne.2 y1
            have hdd := Lib.hid (show decide (mayN 2 n) = false from decide_eq_false fun h => y1 (Hdd.out.1 h).1)
            clear y1
            go_wp2_with fail
            simp only [Exit.jump]
            go_ret
            exact ⟨ret_bool hdd.out.symm, b1⟩
        · have f2 : (kind == 2) = false := beq_eq_false_iff_ne.2 e2
          by_cases e3 : kind = 3
          · subst e3
            have hd : mayN 3 n ↔ signT n.s = true ∧ n.z = n.s.length ∧ bareP (placesN n) := Hd.out.trans ⟨fun h => by
              rcases h.2 with h | h | h
              · exact absurd h.1 (by decide)
              · exact absurd h.1 (by decide)
              · exact h.2, fun h => ⟨⟨g1, g2, g3⟩, .inr (.inr ⟨rfl, h⟩)⟩⟩
            have Hdd := Lib.hid hd
            clear hd e1 e2 f1 f2
            go_wp2_with fail
            refine (hS _).mono ?_
            rintro e w2 ⟨rfl, b2⟩
            have W2 := b1.trans (b2.mono b1.size)
            have A2 := A1.later b2
            have z8 := cell_later b2 z8
            have z2 := cell_later b2 z2
            cases y1 : signT n.s
            · have hdd := Lib.hid (show decide (mayN 3 n) = false from decide_eq_false fun h => by have := (Hdd.out.1 h).1; rw [y1] at this; cases this)
              go_wp2_with fail
              simp only [Exit.jump]
              go_ret
              exact ⟨ret_bool hdd.out.symm, W2⟩
            · by_cases y2 : n.z = n.s.length
              · have j2 : (n.z == (n.s.length : Int)) = true := by rw [beq_iff_eq]; exact y2
                have hdd := Lib.hid (show decide (mayN 3 n) = decide (bareP (placesN n)) from decide_eq_decide.2 (Hdd.out.trans ⟨fun h => h.2.2, fun h => ⟨y1, y2, h⟩⟩))
                clear y2
                go_wp2_with (refine wp_want rfl fun K hK => ?_; refine wp_rw_load A2 Try.underlying25 rfl infoNd_size rfl rfl ?_; refine hK _ _ ?_; clear hK K)
                refine (hB _).mono ?_
                rintro e w3 ⟨rfl, b3⟩
                go_wp2_with fail
                simp only [Exit.jump]
                go_ret
                exact ⟨ret_bool hdd.out.symm, W2.trans (b3.mono W2.size)⟩
              · have j2 : (n.z == (n.s.length : Int)) = false := beq_eq_false_iff_ne.2 y2
                have hdd := Lib.hid (show decide (mayN 3 n) = false from decide_eq_false fun h => y2 (Hdd.out.1 h).2.1)
                clear y2
                go_wp2_with fail
                simp only [Exit.jump]
                go_ret
                exact ⟨ret_bool hdd.out.symm, W2⟩
          · have f3 : (kind == 3) = false := beq_eq_false_iff_ne.2 e3
            have hno : decide (mayN kind n) = false := decide_eq_false fun h => by
              rcases (Hd.out.1 h).2 with h | h | h
              · exact e1 h.1
              · exact e2 h.1
              · exact e3 h.1
            have Hno := Lib.hid hno
            clear hno e1 e2 e3
            go_wp2_with fail
            go_step3
            go_wp2_with fail
            simp only [Exit.jump]
            go_ret
            exact ⟨ret_bool Hno.out.symm, b1⟩
    all_goals
      have hno : decide (mayN kind n) = false := decide_eq_false fun h => by
        have := (Hd.out.1 h).1
        omega
      have Hno := Lib.hid hno
      clear hno
      go_wp2_with fail
      go_step3
      refine ⟨rfl, ?_, _, _, _, _, _, _, _, _, _, _, _, _, _, _, _, _, _, _, _, _, _, _, _, _, _, _, _, _, _, _, _, _, _, _, _, _, _, _, _, _, _, _, _, _, _, _, _, _, _, _, _, _, _, _, _, _, _, _, rfl⟩
      exact ⟨Hno.out, b1⟩
  · skip
    rintro a' w' ⟨⟨hno, hb⟩, z0, z1, z2, z3, z5, z6, z7, z8, z9, z10, z11, z12, z13, z14, z15, z16, z17, z18, z19, z20, z21, z22, z23, z24, z25, z26, z27, z28, z29, z30, z31, z32, z33, z34, z35, z36, z37, z38, z39, z40, z41, z42, z43, z44, z45, z46, z47, z48, z49, z50, z51, z52, z53, z54, z55, z56, z57, z58, rfl⟩
    have Hno := Lib.hid hno
    clear hno
    go_wp2_with fail
    simp only [Exit.jump]
    go_ret
    exact ⟨ret_bool Hno.out.symm, hb⟩
end Go.Proofs.Ytgeiafijibgdhaa.Cl
